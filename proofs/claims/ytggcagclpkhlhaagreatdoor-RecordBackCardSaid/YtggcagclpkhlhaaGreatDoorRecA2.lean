/- The functions that the statement reaches, and what they come to. Part 2. -/
import Derived.Test.YtggcagclpkhlhaaGreatDoorFw1
import Derived.Test.YtggcagclpkhlhaaGreatDoorFw2
import Derived.Test.YtggcagclpkhlhaaGreatDoorFw3
import Derived.Test.YtggcagclpkhlhaaGreatDoorRecA1
set_option linter.unusedVariables false
set_option linter.unusedSimpArgs false
set_option linter.unusedSectionVars false
noncomputable section
/- The program's functions, as plain equations. -/
namespace Go.Proofs.YtggcagclpkhlhaaGreatDoor
open Pal
set_option maxRecDepth 100000
def z2s.body:Go.Code:=Tryz.f30.body.getD .skip
def z2s.rs:List Go.ResultVar:=Tryz.f30.results.toList
def z2s.regs:List (Nat × RInfo):=[(0,ri [0] []),(1,ri [2] [5])]
def z2s.cx (k:Nat):Cx:=⟨tt,pp,[],z2s.regs,k,mm⟩
@[reducible] def z2s.sg:Sg:=⟨[.dat .str],[],.new,[tpackReader]⟩
def z2s.f (k:Nat) (a0:Ty.D .str):Option (Sg.Out z2s.sg):=Sg.fn z2s.sg (z2s.cx k) z2s.body z2s.rs a0
theorem z2s.f_eq (k:Nat) (a0:Ty.D .str):z2s.f k a0=some ((),(a0,0)):=by kernel_rfl
def z2s.e (k:Nat):Entry:=Sg.entry z2s.sg fun x=>z2s.f k x
theorem z2s.ok (k:Nat):CallOK Tryz.prog 30 (z2s.e k):=fn_ok (c:=z2s.cx k) (code:=z2s.body) (TT.of tt_ok pp_ok mm_ok) (fns_ok trivial) mixed Tryz.func30 (by kernel_rfl) (by kernel_rfl) (by kernel_rfl) (by kernel_rfl) (by kernel_rfl) (by kernel_rfl) (fun x=>by kernel_rfl)
def z0q.body:Go.Code:=Tryz.f98.body.getD .skip
def z0q.rs:List Go.ResultVar:=Tryz.f98.results.toList
def z0q.regs:List (Nat × RInfo):=[(0,ri [0] [1000000]),(1,ri [2] [1000000])]
def z0q.cx (k:Nat):Cx:=⟨tt,pp,[],z0q.regs,k,mm⟩
@[reducible] def z0q.sg:Sg:=⟨[.ref],[tpackReader],.dat .bool,[tpackReader]⟩
def z0q.f (k:Nat) (o0:Ty.D tpackReader):Option (Sg.Out z0q.sg):=Sg.fn z0q.sg (z0q.cx k) z0q.body z0q.rs o0
theorem z0q.f_eq (k:Nat) (o0:Ty.D tpackReader):z0q.f k o0=some ((ieq o0.2 0),o0):=by kernel_rfl
def z0q.e (k:Nat):Entry:=Sg.entry z0q.sg fun x=>z0q.f k x
theorem z0q.ok (k:Nat):CallOK Tryz.prog 98 (z0q.e k):=fn_ok (c:=z0q.cx k) (code:=z0q.body) (TT.of tt_ok pp_ok mm_ok) (fns_ok trivial) mixed Tryz.func98 (by kernel_rfl) (by kernel_rfl) (by kernel_rfl) (by kernel_rfl) (by kernel_rfl) (by kernel_rfl) (fun x=>by kernel_rfl)
def z0o.body:Go.Code:=Tryz.f89.body.getD .skip
def z0o.rs:List Go.ResultVar:=Tryz.f89.results.toList
def z0o.regs:List (Nat × RInfo):=[(0,ri [0,1,5] [5,1000000]),(1,ri [] [1000000])]
def z0o.cx (k:Nat):Cx:=⟨tt,pp,[(98,(z0q.e k))],z0o.regs,k,mm⟩
@[reducible] def z0o.sg:Sg:=⟨[.ref,.dat (.int .i64)],[tpackReader],.unit,[tpackReader]⟩
def z0o.f (k:Nat) (a1:Ty.D (.int .i64)) (o0:Ty.D tpackReader):Option (Sg.Out z0o.sg):=Sg.fn z0o.sg (z0o.cx k) z0o.body z0o.rs (a1,o0)
theorem z0o.f_eq (k:Nat) (a1:Ty.D (.int .i64)) (o0:Ty.D tpackReader):z0o.f k a1 o0=bnd (z0q.f k o0) fun r0=>br r0.1 (some ((),(r0.2.1,a1))) (some ((),r0.2)):=by kernel_rfl
def z0o.e (k:Nat):Entry:=Sg.entry z0o.sg fun x=>z0o.f k x.1 x.2
theorem z0o.ok (k:Nat):CallOK Tryz.prog 89 (z0o.e k):=fn_ok (c:=z0o.cx k) (code:=z0o.body) (TT.of tt_ok pp_ok mm_ok) (fns_ok ⟨(z0q.ok k),trivial⟩) mixed Tryz.func89 (by kernel_rfl) (by kernel_rfl) (by kernel_rfl) (by kernel_rfl) (by kernel_rfl) (by kernel_rfl) (fun x=>by kernel_rfl)
def z0y.body:Go.Code:=Tryz.f87.body.getD .skip
def z0y.rs:List Go.ResultVar:=Tryz.f87.results.toList
def z0y.regs:List (Nat × RInfo):=[(0,ri [0] [1000000]),(1,ri [0,3] [1000000]),(2,ri [0,3,4] [1000000]),(3,⟨[0,3,4,7],[7,1000000],[],[],0,[0,3,4],[1000000],[],[],[]⟩),(5,ri [0,3,4,10] [1000000]),(6,ri [0,3,4] [1000000]),(7,ri [0,3,4,15] [1000000]),(8,ri [0,3,4] [1000000]),(9,ri [0,3,4,5] [1000000]),(10,ri [0,3,4,5] [1000000]),(11,ri [0,3,4,5,39] [1000000]),(12,ri [0,3,4,42] [1000000]),(13,ri [0,3,4] [1000000]),(14,ri [3] [1000000]),(15,ri [2] [1000000]),(4,ri [0,3,4] [1000000]),(16,ri [2] [1000000])]
def z0y.cx (k:Nat):Cx:=⟨tt,pp,[(98,(z0q.e k)),(89,(z0o.e k))],z0y.regs,k,mm⟩
@[reducible] def z0y.sg:Sg:=⟨[.ref],[tpackReader],.dat (.int .i64),[tpackReader]⟩
def z0y.f (k:Nat) (o0:Ty.D tpackReader):Option (Sg.Out z0y.sg):=Sg.fn z0y.sg (z0y.cx k) z0y.body z0y.rs o0
def z0y.l3 (k:Nat) (n:Nat) (x3:Ty.D (.int .i64)) (x4:Ty.D (.int .i64)) (m1000000:Ty.D tpackReader):Option (Sg.Out z0y.sg):=loopAt (z0y.cx k) z0y.body [1,1,0,1,0] 3 [0,3,4] [1000000] [] (Sg.K z0y.sg (z0y.cx k) z0y.rs) n ⟨[(0,.ref 1000000 []),(3,.dat (.int .i64) x3),(4,.dat (.int .i64) x4)],[(1000000,.dat tpackReader m1000000)]⟩
theorem z0y.f_eq (k:Nat) (o0:Ty.D tpackReader):z0y.f k o0=z0y.l3 k k 0 0 o0:=by kernel_rfl
theorem z0y.l3_eq (k:Nat) (n3:Nat) (x3:Ty.D (.int .i64)) (x4:Ty.D (.int .i64)) (m1000000:Ty.D tpackReader):z0y.l3 k (n3+1) x3 x4 m1000000=bnd (z0q.f k m1000000) fun r0=>br r0.1 (br (ieq x4 8) (bnd (z0o.f k 6 r0.2) fun r1=>z0y.l3 k n3 x3 (iadd .i64 x4 1) r1.2) (br (ile (ilen r0.2.1) x4) (bnd (z0o.f k 4 r0.2) fun r2=>z0y.l3 k n3 x3 (iadd .i64 x4 1) r2.2) (br (inL x4 r0.2.1) (br (ilt (imul .i64 7 x4) 0) none (br (ile 128 (iwrap .i64 (byteAt r0.2.1 x4))) (z0y.l3 k n3 (ior .i64 x3 (ishl .i64 (iand .i64 (iwrap .i64 (byteAt r0.2.1 x4)) 127) (imul .i64 7 x4))) (iadd .i64 x4 1) r0.2) (br (ieq (iwrap .i64 (byteAt r0.2.1 x4)) 0) (br (ilt 0 x4) (bnd (z0o.f k 3 r0.2) fun r3=>z0y.l3 k n3 (ior .i64 x3 (ishl .i64 (iand .i64 (iwrap .i64 (byteAt r0.2.1 x4)) 127) (imul .i64 7 x4))) (iadd .i64 x4 1) r3.2) (br (inS (iadd .i64 x4 1) (ilen r0.2.1) (ilen r0.2.1)) (some ((ior .i64 x3 (ishl .i64 (iand .i64 (iwrap .i64 (byteAt r0.2.1 x4)) 127) (imul .i64 7 x4))),((piece r0.2.1 (iadd .i64 x4 1) (ilen r0.2.1)),r0.2.2))) none)) (br (inS (iadd .i64 x4 1) (ilen r0.2.1) (ilen r0.2.1)) (some ((ior .i64 x3 (ishl .i64 (iand .i64 (iwrap .i64 (byteAt r0.2.1 x4)) 127) (imul .i64 7 x4))),((piece r0.2.1 (iadd .i64 x4 1) (ilen r0.2.1)),r0.2.2))) none)))) none))) (some (0,r0.2)):=by kernel_rfl
def z0y.e (k:Nat):Entry:=Sg.entry z0y.sg fun x=>z0y.f k x
theorem z0y.ok (k:Nat):CallOK Tryz.prog 87 (z0y.e k):=fn_ok (c:=z0y.cx k) (code:=z0y.body) (TT.of tt_ok pp_ok mm_ok) (fns_ok ⟨(z0q.ok k),(z0o.ok k),trivial⟩) mixed Tryz.func87 (by kernel_rfl) (by kernel_rfl) (by kernel_rfl) (by kernel_rfl) (by kernel_rfl) (by kernel_rfl) (fun x=>by kernel_rfl)
def z0i.body:Go.Code:=Tryz.f34.body.getD .skip
def z0i.rs:List Go.ResultVar:=Tryz.f34.results.toList
def z0i.regs:List (Nat × RInfo):=[(0,ri [0] [1000000]),(1,ri [0,4] [1000000]),(2,ri [2] [1000000]),(3,ri [2] [1000000])]
def z0i.cx (k:Nat):Cx:=⟨tt,pp,[],z0i.regs,k,mm⟩
@[reducible] def z0i.sg:Sg:=⟨[.ref],[tpackReader],.dat (.int .i64),[tpackReader]⟩
def z0i.f (k:Nat) (o0:Ty.D tpackReader):Option (Sg.Out z0i.sg):=Sg.fn z0i.sg (z0i.cx k) z0i.body z0i.rs o0
theorem z0i.f_eq (k:Nat) (o0:Ty.D tpackReader):z0i.f k o0=some (o0.2,o0):=by kernel_rfl
def z0i.e (k:Nat):Entry:=Sg.entry z0i.sg fun x=>z0i.f k x
theorem z0i.ok (k:Nat):CallOK Tryz.prog 34 (z0i.e k):=fn_ok (c:=z0i.cx k) (code:=z0i.body) (TT.of tt_ok pp_ok mm_ok) (fns_ok trivial) mixed Tryz.func34 (by kernel_rfl) (by kernel_rfl) (by kernel_rfl) (by kernel_rfl) (by kernel_rfl) (by kernel_rfl) (fun x=>by kernel_rfl)
def z2C.body:Go.Code:=Tryz.f106.body.getD .skip
def z2C.rs:List Go.ResultVar:=Tryz.f106.results.toList
def z2C.regs:List (Nat × RInfo):=[(0,ri [0,2] [2,1000000]),(1,ri [0,2,3] [2,3,1000000]),(2,ri [0,2,3,16] [2,3,1000000]),(3,ri [0,2,3] [2,3,1000000]),(4,ri [2,3,21] [2,3,1000000]),(5,ri [2] [2,1000000]),(6,ri [2] [2,1000000])]
def z2C.cx (k:Nat):Cx:=⟨tt,pp,[(87,(z0y.e k)),(34,(z0i.e k)),(119,(z2t.e k)),(89,(z0o.e k))],z2C.regs,k,mm⟩
@[reducible] def z2C.sg:Sg:=⟨[.ref],[tpackReader],.dat tDot,[tpackReader]⟩
def z2C.f (k:Nat) (o0:Ty.D tpackReader):Option (Sg.Out z2C.sg):=Sg.fn z2C.sg (z2C.cx k) z2C.body z2C.rs o0
theorem z2C.f_eq (k:Nat) (o0:Ty.D tpackReader):z2C.f k o0=bnd (z0y.f k o0) fun r0=>bnd (z0y.f k r0.2) fun r1=>bnd (z0i.f k r1.2) fun r2=>br (ieq r2.1 0) (bnd (z2t.f k (r0.1,r1.1)) fun r3=>br (bnot r3) (bnd (z0o.f k 2 r2.2) fun r4=>bnd (z0i.f k r4.2) fun r5=>br (bnot (ieq r5.1 0)) (some ((0,0),r5.2)) (some ((r0.1,r1.1),r5.2))) (bnd (z0i.f k r2.2) fun r6=>br (bnot (ieq r6.1 0)) (some ((0,0),r6.2)) (some ((r0.1,r1.1),r6.2)))) (bnd (z0i.f k r2.2) fun r7=>br (bnot (ieq r7.1 0)) (some ((0,0),r7.2)) (some ((r0.1,r1.1),r7.2))):=by kernel_rfl
def z2C.e (k:Nat):Entry:=Sg.entry z2C.sg fun x=>z2C.f k x
theorem z2C.ok (k:Nat):CallOK Tryz.prog 106 (z2C.e k):=fn_ok (c:=z2C.cx k) (code:=z2C.body) (TT.of tt_ok pp_ok mm_ok) (fns_ok ⟨(z0y.ok k),(z0i.ok k),(z2t.ok k),(z0o.ok k),trivial⟩) mixed Tryz.func106 (by kernel_rfl) (by kernel_rfl) (by kernel_rfl) (by kernel_rfl) (by kernel_rfl) (by kernel_rfl) (fun x=>by kernel_rfl)
def z0s.body:Go.Code:=Tryz.f161.body.getD .skip
def z0s.rs:List Go.ResultVar:=Tryz.f161.results.toList
def z0s.regs:List (Nat × RInfo):=[(0,ri [0,1] [1000000]),(1,ri [0,1,5] [7,1000000]),(2,ri [0,1,5,8] [7,1000000]),(3,ri [4] [7,1000000]),(4,ri [0,5,12] [7,1000000]),(5,ri [] [1000000]),(6,ri [4] [7,1000000]),(7,ri [0,5,18] [7,1000000]),(8,ri [] [1000000]),(9,ri [4] [7,1000000]),(10,ri [4] [7,1000000])]
def z0s.cx (k:Nat):Cx:=⟨tt,pp,[(87,(z0y.e k)),(98,(z0q.e k)),(89,(z0o.e k))],z0s.regs,k,mm⟩
@[reducible] def z0s.sg:Sg:=⟨[.ref,.dat (.int .i64)],[tpackReader],.dat (.int .i64),[tpackReader]⟩
def z0s.f (k:Nat) (a1:Ty.D (.int .i64)) (o0:Ty.D tpackReader):Option (Sg.Out z0s.sg):=Sg.fn z0s.sg (z0s.cx k) z0s.body z0s.rs (a1,o0)
theorem z0s.f_eq (k:Nat) (a1:Ty.D (.int .i64)) (o0:Ty.D tpackReader):z0s.f k a1 o0=bnd (z0y.f k o0) fun r0=>bnd (z0q.f k r0.2) fun r1=>br (bnot r1.1) (some (0,r1.2)) (br (ilt a1 r0.1) (bnd (z0o.f k 6 r1.2) fun r2=>some (0,r2.2)) (br (ilt (ilen r1.2.1) r0.1) (bnd (z0o.f k 4 r1.2) fun r3=>some (0,r3.2)) (some (r0.1,r1.2)))):=by kernel_rfl
def z0s.e (k:Nat):Entry:=Sg.entry z0s.sg fun x=>z0s.f k x.1 x.2
theorem z0s.ok (k:Nat):CallOK Tryz.prog 161 (z0s.e k):=fn_ok (c:=z0s.cx k) (code:=z0s.body) (TT.of tt_ok pp_ok mm_ok) (fns_ok ⟨(z0y.ok k),(z0q.ok k),(z0o.ok k),trivial⟩) mixed Tryz.func161 (by kernel_rfl) (by kernel_rfl) (by kernel_rfl) (by kernel_rfl) (by kernel_rfl) (by kernel_rfl) (fun x=>by kernel_rfl)
def z0w.body:Go.Code:=Tryz.f241.body.getD .skip
def z0w.rs:List Go.ResultVar:=Tryz.f241.results.toList
def z0w.regs:List (Nat × RInfo):=[(0,ri [0] [1000000]),(1,ri [0,3] [6,1000000]),(2,ri [0,3,17] [6,8,1000000]),(3,ri [0,3] [6,1000000]),(4,ri [0,3,22] [6,1000000]),(5,ri [2] [6,1000000]),(6,ri [0,3,4] [6,1000000]),(7,ri [4] [6,1000000]),(8,ri [2] [6,1000000])]
def z0w.cx (k:Nat):Cx:=⟨tt,pp,[(87,(z0y.e k)),(98,(z0q.e k)),(89,(z0o.e k))],z0w.regs,k,mm⟩
@[reducible] def z0w.sg:Sg:=⟨[.ref],[tpackReader],.dat .str,[tpackReader]⟩
def z0w.f (k:Nat) (o0:Ty.D tpackReader):Option (Sg.Out z0w.sg):=Sg.fn z0w.sg (z0w.cx k) z0w.body z0w.rs o0
theorem z0w.f_eq (k:Nat) (o0:Ty.D tpackReader):z0w.f k o0=bnd (z0y.f k o0) fun r0=>bnd (z0q.f k r0.2) fun r1=>br r1.1 (br (ilt (ilen r1.2.1) r0.1) (bnd (z0o.f k 4 r1.2) fun r2=>bnd (z0q.f k r2.2) fun r3=>br (bnot r3.1) (some ([],r3.2)) (br (inS 0 r0.1 (ilen r3.2.1)) (br (inS r0.1 (ilen r3.2.1) (ilen r3.2.1)) (some ((piece r3.2.1 0 r0.1),((piece r3.2.1 r0.1 (ilen r3.2.1)),r3.2.2))) none) none)) (bnd (z0q.f k r1.2) fun r4=>br (bnot r4.1) (some ([],r4.2)) (br (inS 0 r0.1 (ilen r4.2.1)) (br (inS r0.1 (ilen r4.2.1) (ilen r4.2.1)) (some ((piece r4.2.1 0 r0.1),((piece r4.2.1 r0.1 (ilen r4.2.1)),r4.2.2))) none) none))) (bnd (z0q.f k r1.2) fun r5=>br (bnot r5.1) (some ([],r5.2)) (br (inS 0 r0.1 (ilen r5.2.1)) (br (inS r0.1 (ilen r5.2.1) (ilen r5.2.1)) (some ((piece r5.2.1 0 r0.1),((piece r5.2.1 r0.1 (ilen r5.2.1)),r5.2.2))) none) none)):=by kernel_rfl
def z0w.e (k:Nat):Entry:=Sg.entry z0w.sg fun x=>z0w.f k x
theorem z0w.ok (k:Nat):CallOK Tryz.prog 241 (z0w.e k):=fn_ok (c:=z0w.cx k) (code:=z0w.body) (TT.of tt_ok pp_ok mm_ok) (fns_ok ⟨(z0y.ok k),(z0q.ok k),(z0o.ok k),trivial⟩) mixed Tryz.func241 (by kernel_rfl) (by kernel_rfl) (by kernel_rfl) (by kernel_rfl) (by kernel_rfl) (by kernel_rfl) (fun x=>by kernel_rfl)
def z2x.body:Go.Code:=Tryz.f247.body.getD .skip
def z2x.rs:List Go.ResultVar:=Tryz.f247.results.toList
def z2x.regs:List (Nat × RInfo):=[(0,ri [0] []),(1,ri [0,3] []),(2,ri [0,3] []),(3,ri [2] []),(4,ri [2] [])]
def z2x.cx (k:Nat):Cx:=⟨tt,pp,[],z2x.regs,k,mm⟩
@[reducible] def z2x.sg:Sg:=⟨[.dat (.int .i32)],[],.dat .bool,[]⟩
def z2x.f (k:Nat) (a0:Ty.D (.int .i32)):Option (Sg.Out z2x.sg):=Sg.fn z2x.sg (z2x.cx k) z2x.body z2x.rs a0
theorem z2x.f_eq (k:Nat) (a0:Ty.D (.int .i32)):z2x.f k a0=br (ilt a0 32) (br (ilt a0 32) (some false) (some (bnot (ieq a0 65533)))) (br (ile 127 a0) (br (ilt a0 160) (some false) (some (bnot (ieq a0 65533)))) (some (bnot (ieq a0 65533)))):=by kernel_rfl
def z2x.e (k:Nat):Entry:=Sg.entry z2x.sg fun x=>z2x.f k x
theorem z2x.ok (k:Nat):CallOK Tryz.prog 247 (z2x.e k):=fn_ok (c:=z2x.cx k) (code:=z2x.body) (TT.of tt_ok pp_ok mm_ok) (fns_ok trivial) mixed Tryz.func247 (by kernel_rfl) (by kernel_rfl) (by kernel_rfl) (by kernel_rfl) (by kernel_rfl) (by kernel_rfl) (fun x=>by kernel_rfl)
def z1P.body:Go.Code:=Tryz.f223.body.getD .skip
def z1P.rs:List Go.ResultVar:=Tryz.f223.results.toList
def z1P.regs:List (Nat × RInfo):=[(0,ri [0] []),(1,⟨[3,4],[9],[5],[],0,[],[],[],[],[]⟩),(2,ri [3,23] [9]),(3,ri [2] []),(4,ri [24,25,26] [9]),(5,⟨[24,25,26,27],[9],[],[],0,[24,25,26],[9],[],[],[]⟩),(6,ri [6,24,25,26] [9]),(7,ri [24,25,26,32] [9]),(8,ri [2] []),(9,ri [24,25,26] [9]),(10,ri [2] [])]
def z1P.cx (k:Nat):Cx:=⟨tt,pp,[(246,runesE),(247,(z2x.e k))],z1P.regs,k,mm⟩
@[reducible] def z1P.sg:Sg:=⟨[.dat .str],[],.dat .bool,[]⟩
def z1P.f (k:Nat) (a0:Ty.D .str):Option (Sg.Out z1P.sg):=Sg.fn z1P.sg (z1P.cx k) z1P.body z1P.rs a0
def z1P.l5 (k:Nat) (n:Nat) (x24:Ty.D (.slc (.int .i32))) (x25:Ty.D (.int .i64)) (x26:Ty.D (.int .i64)):Option (Sg.Out z1P.sg):=loopAt (z1P.cx k) z1P.body [1,1,1,0,1,0] 5 [24,25,26] [9] [] (Sg.K z1P.sg (z1P.cx k) z1P.rs) n ⟨[(24,.dat (.slc (.int .i32)) x24),(25,.dat (.int .i64) x25),(26,.dat (.int .i64) x26)],[]⟩
theorem z1P.f_eq (k:Nat) (a0:Ty.D .str):z1P.f k a0=bnd (runesB a0) fun r0=>br (bnot r0.2) (some false) (br (ieq (ilen r0.1) 0) (some false) (br (ilt 24 (ilen r0.1)) (some false) (z1P.l5 k k r0.1 (ilen r0.1) 0))):=by kernel_rfl
theorem z1P.l5_eq (k:Nat) (n5:Nat) (x24:Ty.D (.slc (.int .i32))) (x25:Ty.D (.int .i64)) (x26:Ty.D (.int .i64)):z1P.l5 k (n5+1) x24 x25 x26=br (ilt x26 x25) (br (inL x26 x24) (bnd (z2x.f k (rd (.int .i32) x24 (natOf x26))) fun r0=>br (bnot r0) (some false) (z1P.l5 k n5 x24 x25 (iadd .i64 x26 1))) none) (some true):=by kernel_rfl
def z1P.e (k:Nat):Entry:=Sg.entry z1P.sg fun x=>z1P.f k x
theorem z1P.ok (k:Nat):CallOK Tryz.prog 223 (z1P.e k):=fn_ok (c:=z1P.cx k) (code:=z1P.body) (TT.of tt_ok pp_ok mm_ok) (fns_ok ⟨runes_ok,(z2x.ok k),trivial⟩) mixed Tryz.func223 (by kernel_rfl) (by kernel_rfl) (by kernel_rfl) (by kernel_rfl) (by kernel_rfl) (by kernel_rfl) (fun x=>by kernel_rfl)
def z0P.body:Go.Code:=Tryz.f222.body.getD .skip
def z0P.rs:List Go.ResultVar:=Tryz.f222.results.toList
def z0P.regs:List (Nat × RInfo):=[(0,ri [0] []),(1,ri [2] [])]
def z0P.cx (k:Nat):Cx:=⟨tt,pp,[(223,(z1P.e k))],z0P.regs,k,mm⟩
@[reducible] def z0P.sg:Sg:=⟨[.dat .str],[],.dat .bool,[]⟩
def z0P.f (k:Nat) (a0:Ty.D .str):Option (Sg.Out z0P.sg):=Sg.fn z0P.sg (z0P.cx k) z0P.body z0P.rs a0
theorem z0P.f_eq (k:Nat) (a0:Ty.D .str):z0P.f k a0=bnd (z1P.f k a0) fun r0=>some (bnot r0):=by kernel_rfl
def z0P.e (k:Nat):Entry:=Sg.entry z0P.sg fun x=>z0P.f k x
theorem z0P.ok (k:Nat):CallOK Tryz.prog 222 (z0P.e k):=fn_ok (c:=z0P.cx k) (code:=z0P.body) (TT.of tt_ok pp_ok mm_ok) (fns_ok ⟨(z1P.ok k),trivial⟩) mixed Tryz.func222 (by kernel_rfl) (by kernel_rfl) (by kernel_rfl) (by kernel_rfl) (by kernel_rfl) (by kernel_rfl) (fun x=>by kernel_rfl)
def z0c.body:Go.Code:=Tryz.f245.body.getD .skip
def z0c.rs:List Go.ResultVar:=Tryz.f245.results.toList
def z0c.regs:List (Nat × RInfo):=[(0,ri [0,1] []),(1,ri [0,1,7,8] []),(2,⟨[0,1,7,8,9],[],[],[],0,[0,1,7,8],[],[],[],[]⟩),(3,ri [0,1,5,7,8] []),(4,ri [0,1,5,7,8,16] [16]),(5,ri [4] []),(6,ri [0,1,7,8] []),(7,ri [4] [])]
def z0c.cx (k:Nat):Cx:=⟨tt,pp,[(222,(z0P.e k))],z0c.regs,k,mm⟩
@[reducible] def z0c.sg:Sg:=⟨[.dat (.slc .str),.fn 222 0],[],.dat (.int .i64),[]⟩
def z0c.f (k:Nat) (a0:Ty.D (.slc .str)):Option (Sg.Out z0c.sg):=Sg.fn z0c.sg (z0c.cx k) z0c.body z0c.rs a0
def z0c.l2 (k:Nat) (n:Nat) (x0:Ty.D (.slc .str)) (x7:Ty.D (.int .i64)) (x8:Ty.D (.int .i64)):Option (Sg.Out z0c.sg):=loopAt (z0c.cx k) z0c.body [1,0,1,0] 2 [0,1,7,8] [] [] (Sg.K z0c.sg (z0c.cx k) z0c.rs) n ⟨[(0,.dat (.slc .str) x0),(1,.fn 222 []),(7,.dat (.int .i64) x7),(8,.dat (.int .i64) x8)],[]⟩
theorem z0c.f_eq (k:Nat) (a0:Ty.D (.slc .str)):z0c.f k a0=z0c.l2 k k a0 (ilen a0) 0:=by kernel_rfl
theorem z0c.l2_eq (k:Nat) (n2:Nat) (x0:Ty.D (.slc .str)) (x7:Ty.D (.int .i64)) (x8:Ty.D (.int .i64)):z0c.l2 k (n2+1) x0 x7 x8=br (ilt x8 x7) (br (inL x8 x0) (bnd (z0P.f k (rd .str x0 (natOf x8))) fun r0=>br r0 (some x8) (z0c.l2 k n2 x0 x7 (iadd .i64 x8 1))) none) (some (-1)):=by kernel_rfl
def z0c.e (k:Nat):Entry:=Sg.entry z0c.sg fun x=>z0c.f k x
theorem z0c.ok (k:Nat):CallOK Tryz.prog 245 (z0c.e k):=fn_ok (c:=z0c.cx k) (code:=z0c.body) (TT.of tt_ok pp_ok mm_ok) (fns_ok ⟨(z0P.ok k),trivial⟩) mixed Tryz.func245 (by kernel_rfl) (by kernel_rfl) (by kernel_rfl) (by kernel_rfl) (by kernel_rfl) (by kernel_rfl) (fun x=>by kernel_rfl)
def z09.body:Go.Code:=Tryz.f221.body.getD .skip
def z09.rs:List Go.ResultVar:=Tryz.f221.results.toList
def z09.regs:List (Nat × RInfo):=[(0,ri [0,1] []),(1,ri [4] [])]
def z09.cx (k:Nat):Cx:=⟨tt,pp,[(245,(z0c.e k)),(222,(z0P.e k))],z09.regs,k,mm⟩
@[reducible] def z09.sg:Sg:=⟨[.dat (.slc .str),.fn 222 0],[],.dat .bool,[]⟩
def z09.f (k:Nat) (a0:Ty.D (.slc .str)):Option (Sg.Out z09.sg):=Sg.fn z09.sg (z09.cx k) z09.body z09.rs a0
theorem z09.f_eq (k:Nat) (a0:Ty.D (.slc .str)):z09.f k a0=bnd (z0c.f k a0) fun r0=>some (ile 0 r0):=by kernel_rfl
def z09.e (k:Nat):Entry:=Sg.entry z09.sg fun x=>z09.f k x
theorem z09.ok (k:Nat):CallOK Tryz.prog 221 (z09.e k):=fn_ok (c:=z09.cx k) (code:=z09.body) (TT.of tt_ok pp_ok mm_ok) (fns_ok ⟨(z0c.ok k),(z0P.ok k),trivial⟩) mixed Tryz.func221 (by kernel_rfl) (by kernel_rfl) (by kernel_rfl) (by kernel_rfl) (by kernel_rfl) (by kernel_rfl) (fun x=>by kernel_rfl)
def z1T.body:Go.Code:=Tryz.f172.body.getD .skip
def z1T.rs:List Go.ResultVar:=Tryz.f172.results.toList
def z1T.regs:List (Nat × RInfo):=[(0,ri [0] []),(1,ri [0,3] []),(2,ri [2] []),(3,ri [0,7] []),(4,ri [2] []),(5,ri [11] [13]),(6,ri [2] []),(7,ri [2] [])]
def z1T.cx (k:Nat):Cx:=⟨tt,pp,[(221,(z09.e k)),(222,(z0P.e k))],z1T.regs,k,mm⟩
@[reducible] def z1T.sg:Sg:=⟨[.dat (.slc .str)],[],.dat (.int .i64),[]⟩
def z1T.f (k:Nat) (a0:Ty.D (.slc .str)):Option (Sg.Out z1T.sg):=Sg.fn z1T.sg (z1T.cx k) z1T.body z1T.rs a0
theorem z1T.f_eq (k:Nat) (a0:Ty.D (.slc .str)):z1T.f k a0=br (ieq (ilen a0) 0) (some 8) (br (ilt 8 (ilen a0)) (some 9) (bnd (z09.f k a0) fun r0=>br r0 (some 8) (some 0))):=by kernel_rfl
def z1T.e (k:Nat):Entry:=Sg.entry z1T.sg fun x=>z1T.f k x
theorem z1T.ok (k:Nat):CallOK Tryz.prog 172 (z1T.e k):=fn_ok (c:=z1T.cx k) (code:=z1T.body) (TT.of tt_ok pp_ok mm_ok) (fns_ok ⟨(z09.ok k),(z0P.ok k),trivial⟩) mixed Tryz.func172 (by kernel_rfl) (by kernel_rfl) (by kernel_rfl) (by kernel_rfl) (by kernel_rfl) (by kernel_rfl) (fun x=>by kernel_rfl)
def z2d.body:Go.Code:=Tryz.f209.body.getD .skip
def z2d.rs:List Go.ResultVar:=Tryz.f209.results.toList
def z2d.regs:List (Nat × RInfo):=[(0,ri [0] [1000000]),(1,ri [0,3] [1000000]),(2,ri [0,3,5,6] [5,1000000]),(3,⟨[0,3,5,6,7],[5,1000000],[],[],0,[0,3,5,6],[5,1000000],[],[],[]⟩),(4,⟨[0,3,5,6],[5,1000000],[0,4,5],[],0,[],[],[],[],[]⟩),(5,ri [0,3,5,6] [5,1000000]),(6,ri [0,3,16] [1000000]),(7,ri [0,3] [1000000]),(8,ri [3,23] [1000000]),(9,ri [2] [1000000]),(10,⟨[2],[1000000],[0,1],[],0,[],[],[],[],[]⟩)]
def z2d.cx (k:Nat):Cx:=⟨tt,pp,[(161,(z0s.e k)),(241,(z0w.e k)),(34,(z0i.e k)),(172,(z1T.e k)),(89,(z0o.e k))],z2d.regs,k,mm⟩
@[reducible] def z2d.sg:Sg:=⟨[.ref],[tpackReader],.own .str,[tpackReader]⟩
def z2d.f (k:Nat) (o0:Ty.D tpackReader):Option (Sg.Out z2d.sg):=Sg.fn z2d.sg (z2d.cx k) z2d.body z2d.rs o0
def z2d.l3 (k:Nat) (n:Nat) (x3:List (Ty.D .str)) (x5:Ty.D (.int .i64)) (x6:Ty.D (.int .i64)) (m1000000:Ty.D tpackReader):Option (Sg.Out z2d.sg):=loopAt (z2d.cx k) z2d.body [1,1,0,1,0] 3 [0,3,5,6] [5,1000000] [] (Sg.K z2d.sg (z2d.cx k) z2d.rs) n ⟨[(0,.ref 1000000 []),(3,.own .str x3),(5,.dat (.int .i64) x5),(6,.dat (.int .i64) x6)],[(1000000,.dat tpackReader m1000000)]⟩
theorem z2d.f_eq (k:Nat) (o0:Ty.D tpackReader):z2d.f k o0=bnd (z0s.f k 8 o0) fun r0=>z2d.l3 k k [] r0.1 0 r0.2:=by kernel_rfl
theorem z2d.l3_eq (k:Nat) (n3:Nat) (x3:List (Ty.D .str)) (x5:Ty.D (.int .i64)) (x6:Ty.D (.int .i64)) (m1000000:Ty.D tpackReader):z2d.l3 k (n3+1) x3 x5 x6 m1000000=br (ilt x6 x5) (bnd (z0w.f k m1000000) fun r0=>br (room x3 (r0.1::[])) (z2d.l3 k n3 (app x3 (r0.1::[])) x5 (iadd .i64 x6 1) r0.2) none) (bnd (z0i.f k m1000000) fun r1=>br (ieq r1.1 0) (bnd (z1T.f k x3) fun r2=>bnd (z0o.f k r2 r1.2) fun r3=>bnd (z0i.f k r3.2) fun r4=>br (bnot (ieq r4.1 0)) (some ([],r4.2)) (some (x3,r4.2))) (bnd (z0i.f k r1.2) fun r5=>br (bnot (ieq r5.1 0)) (some ([],r5.2)) (some (x3,r5.2)))):=by kernel_rfl
def z2d.e (k:Nat):Entry:=Sg.entry z2d.sg fun x=>z2d.f k x
theorem z2d.ok (k:Nat):CallOK Tryz.prog 209 (z2d.e k):=fn_ok (c:=z2d.cx k) (code:=z2d.body) (TT.of tt_ok pp_ok mm_ok) (fns_ok ⟨(z0s.ok k),(z0w.ok k),(z0i.ok k),(z1T.ok k),(z0o.ok k),trivial⟩) mixed Tryz.func209 (by kernel_rfl) (by kernel_rfl) (by kernel_rfl) (by kernel_rfl) (by kernel_rfl) (by kernel_rfl) (fun x=>by kernel_rfl)
def z0N.body:Go.Code:=Tryz.f210.body.getD .skip
def z0N.rs:List Go.ResultVar:=Tryz.f210.results.toList
def z0N.regs:List (Nat × RInfo):=[(0,ri [0] []),(1,ri [0,5] []),(2,ri [2] []),(3,ri [2] [])]
def z0N.cx (k:Nat):Cx:=⟨tt,pp,[],z0N.regs,k,mm⟩
@[reducible] def z0N.sg:Sg:=⟨[.dat (.int .i64)],[],.dat (.int .i64),[]⟩
def z0N.f (k:Nat) (a0:Ty.D (.int .i64)):Option (Sg.Out z0N.sg):=Sg.fn z0N.sg (z0N.cx k) z0N.body z0N.rs a0
theorem z0N.f_eq (k:Nat) (a0:Ty.D (.int .i64)):z0N.f k a0=br (ieq (irem a0 2) 1) (some (iquo .i64 (isub .i64 0 (iadd .i64 a0 1)) 2)) (some (iquo .i64 a0 2)):=by kernel_rfl
def z0N.e (k:Nat):Entry:=Sg.entry z0N.sg fun x=>z0N.f k x
theorem z0N.ok (k:Nat):CallOK Tryz.prog 210 (z0N.e k):=fn_ok (c:=z0N.cx k) (code:=z0N.body) (TT.of tt_ok pp_ok mm_ok) (fns_ok trivial) mixed Tryz.func210 (by kernel_rfl) (by kernel_rfl) (by kernel_rfl) (by kernel_rfl) (by kernel_rfl) (by kernel_rfl) (fun x=>by kernel_rfl)
def z15.body:Go.Code:=Tryz.f224.body.getD .skip
def z15.rs:List Go.ResultVar:=Tryz.f224.results.toList
def z15.regs:List (Nat × RInfo):=[(0,ri [1] [1]),(1,ri [1,6] [1]),(2,ri [1,6,7] [1]),(3,ri [2] [27]),(4,ri [1,6,22] [1]),(5,⟨[1,4],[1,27],[6],[],0,[],[],[],[],[]⟩),(6,ri [2] [27]),(7,ri [1,42] [1]),(8,ri [2] [27]),(9,ri [2] [27])]
def z15.cx (k:Nat):Cx:=⟨tt,pp,[(246,runesE)],z15.regs,k,mm⟩
@[reducible] def z15.sg:Sg:=⟨[.dat tValue],[],.dat .bool,[]⟩
def z15.f (k:Nat) (a0:Ty.D tValue):Option (Sg.Out z15.sg):=Sg.fn z15.sg (z15.cx k) z15.body z15.rs a0
theorem z15.f_eq (k:Nat) (a0:Ty.D tValue):z15.f k a0=br (ieq a0.1 1) (br (seq a0.2.2 []) (br (ile (-2147483647) a0.2.1) (some (ile a0.2.1 2147483647)) (some false)) (some false)) (br (ieq a0.1 2) (bnd (runesB a0.2.2) fun r0=>br r0.2 (br (ieq a0.2.1 0) (some (ile (ilen a0.2.2) 64)) (some false)) (some false)) (br (ieq a0.1 3) (br (seq a0.2.2 []) (br (ieq a0.2.1 0) (some true) (some (ieq a0.2.1 1))) (some false)) (some false))):=by kernel_rfl
def z15.e (k:Nat):Entry:=Sg.entry z15.sg fun x=>z15.f k x
theorem z15.ok (k:Nat):CallOK Tryz.prog 224 (z15.e k):=fn_ok (c:=z15.cx k) (code:=z15.body) (TT.of tt_ok pp_ok mm_ok) (fns_ok ⟨runes_ok,trivial⟩) mixed Tryz.func224 (by kernel_rfl) (by kernel_rfl) (by kernel_rfl) (by kernel_rfl) (by kernel_rfl) (by kernel_rfl) (fun x=>by kernel_rfl)
def z1J.body:Go.Code:=Tryz.f211.body.getD .skip
def z1J.rs:List Go.ResultVar:=Tryz.f211.results.toList
def z1J.regs:List (Nat × RInfo):=[(0,ri [0,2] [2,1000000]),(1,ri [0,2,3] [2,3,1000000]),(2,ri [0,2,3,9] [2,3,1000000]),(3,ri [0,2,3] [2,3,1000000]),(4,ri [0,2,3] [2,3,1000000]),(5,ri [0,2,3,24] [2,3,1000000]),(6,ri [0,2,3] [2,3,1000000]),(7,ri [2,3,29] [2,3,1000000]),(8,ri [2] [2,1000000]),(9,ri [2] [2,1000000])]
def z1J.cx (k:Nat):Cx:=⟨tt,pp,[(87,(z0y.e k)),(241,(z0w.e k)),(210,(z0N.e k)),(34,(z0i.e k)),(224,(z15.e k)),(89,(z0o.e k))],z1J.regs,k,mm⟩
@[reducible] def z1J.sg:Sg:=⟨[.ref],[tpackReader],.dat tValue,[tpackReader]⟩
def z1J.f (k:Nat) (o0:Ty.D tpackReader):Option (Sg.Out z1J.sg):=Sg.fn z1J.sg (z1J.cx k) z1J.body z1J.rs o0
theorem z1J.f_eq (k:Nat) (o0:Ty.D tpackReader):z1J.f k o0=bnd (z0y.f k o0) fun r0=>br (ieq r0.1 2) (bnd (z0w.f k r0.2) fun r1=>bnd (z0i.f k r1.2) fun r2=>br (ieq r2.1 0) (bnd (z15.f k (r0.1,(0,r1.1))) fun r3=>br (bnot r3) (bnd (z0o.f k 2 r2.2) fun r4=>bnd (z0i.f k r4.2) fun r5=>br (bnot (ieq r5.1 0)) (some ((0,(0,[])),r5.2)) (some ((r0.1,(0,r1.1)),r5.2))) (bnd (z0i.f k r2.2) fun r6=>br (bnot (ieq r6.1 0)) (some ((0,(0,[])),r6.2)) (some ((r0.1,(0,r1.1)),r6.2)))) (bnd (z0i.f k r2.2) fun r7=>br (bnot (ieq r7.1 0)) (some ((0,(0,[])),r7.2)) (some ((r0.1,(0,r1.1)),r7.2)))) (bnd (z0y.f k r0.2) fun r8=>bnd (z0N.f k r8.1) fun r9=>bnd (z0i.f k r8.2) fun r10=>br (ieq r10.1 0) (bnd (z15.f k (r0.1,(r9,[]))) fun r11=>br (bnot r11) (bnd (z0o.f k 2 r10.2) fun r12=>bnd (z0i.f k r12.2) fun r13=>br (bnot (ieq r13.1 0)) (some ((0,(0,[])),r13.2)) (some ((r0.1,(r9,[])),r13.2))) (bnd (z0i.f k r10.2) fun r14=>br (bnot (ieq r14.1 0)) (some ((0,(0,[])),r14.2)) (some ((r0.1,(r9,[])),r14.2)))) (bnd (z0i.f k r10.2) fun r15=>br (bnot (ieq r15.1 0)) (some ((0,(0,[])),r15.2)) (some ((r0.1,(r9,[])),r15.2)))):=by kernel_rfl
def z1J.e (k:Nat):Entry:=Sg.entry z1J.sg fun x=>z1J.f k x
theorem z1J.ok (k:Nat):CallOK Tryz.prog 211 (z1J.e k):=fn_ok (c:=z1J.cx k) (code:=z1J.body) (TT.of tt_ok pp_ok mm_ok) (fns_ok ⟨(z0y.ok k),(z0w.ok k),(z0N.ok k),(z0i.ok k),(z15.ok k),(z0o.ok k),trivial⟩) mixed Tryz.func211 (by kernel_rfl) (by kernel_rfl) (by kernel_rfl) (by kernel_rfl) (by kernel_rfl) (by kernel_rfl) (fun x=>by kernel_rfl)
def z2M.body:Go.Code:=Tryz.f212.body.getD .skip
def z2M.rs:List Go.ResultVar:=Tryz.f212.results.toList
def z2M.regs:List (Nat × RInfo):=[(0,ri [0] [1000000]),(1,ri [0,3] [1000000]),(2,ri [0,3,5,6] [5,1000000]),(3,⟨[0,3,5,6,7],[5,1000000],[],[],0,[0,3,5,6],[5,1000000],[],[],[]⟩),(4,⟨[0,3,5,6],[5,1000000],[0,7,8],[],0,[],[],[],[],[]⟩),(5,ri [0,3,5,6] [5,1000000]),(6,⟨[2],[1000000],[0,1],[],0,[],[],[],[],[]⟩)]
def z2M.cx (k:Nat):Cx:=⟨tt,pp,[(161,(z0s.e k)),(106,(z2C.e k)),(87,(z0y.e k))],z2M.regs,k,mm⟩
@[reducible] def z2M.sg:Sg:=⟨[.ref],[tpackReader],.own tUndo,[tpackReader]⟩
def z2M.f (k:Nat) (o0:Ty.D tpackReader):Option (Sg.Out z2M.sg):=Sg.fn z2M.sg (z2M.cx k) z2M.body z2M.rs o0
def z2M.l3 (k:Nat) (n:Nat) (x3:List (Ty.D tUndo)) (x5:Ty.D (.int .i64)) (x6:Ty.D (.int .i64)) (m1000000:Ty.D tpackReader):Option (Sg.Out z2M.sg):=loopAt (z2M.cx k) z2M.body [1,1,0,1,0] 3 [0,3,5,6] [5,1000000] [] (Sg.K z2M.sg (z2M.cx k) z2M.rs) n ⟨[(0,.ref 1000000 []),(3,.own tUndo x3),(5,.dat (.int .i64) x5),(6,.dat (.int .i64) x6)],[(1000000,.dat tpackReader m1000000)]⟩
theorem z2M.f_eq (k:Nat) (o0:Ty.D tpackReader):z2M.f k o0=bnd (z0s.f k 256 o0) fun r0=>z2M.l3 k k [] r0.1 0 r0.2:=by kernel_rfl
theorem z2M.l3_eq (k:Nat) (n3:Nat) (x3:List (Ty.D tUndo)) (x5:Ty.D (.int .i64)) (x6:Ty.D (.int .i64)) (m1000000:Ty.D tpackReader):z2M.l3 k (n3+1) x3 x5 x6 m1000000=br (ilt x6 x5) (bnd (z2C.f k m1000000) fun r0=>bnd (z0y.f k r0.2) fun r1=>br (room x3 ((r0.1,r1.1)::[])) (z2M.l3 k n3 (app x3 ((r0.1,r1.1)::[])) x5 (iadd .i64 x6 1) r1.2) none) (some (x3,m1000000)):=by kernel_rfl
def z2M.e (k:Nat):Entry:=Sg.entry z2M.sg fun x=>z2M.f k x
theorem z2M.ok (k:Nat):CallOK Tryz.prog 212 (z2M.e k):=fn_ok (c:=z2M.cx k) (code:=z2M.body) (TT.of tt_ok pp_ok mm_ok) (fns_ok ⟨(z0s.ok k),(z2C.ok k),(z0y.ok k),trivial⟩) mixed Tryz.func212 (by kernel_rfl) (by kernel_rfl) (by kernel_rfl) (by kernel_rfl) (by kernel_rfl) (by kernel_rfl) (fun x=>by kernel_rfl)
def z2b.body:Go.Code:=Tryz.f173.body.getD .skip
def z2b.rs:List Go.ResultVar:=Tryz.f173.results.toList
def z2b.regs:List (Nat × RInfo):=[(0,⟨[1],[1],[0],[],0,[],[],[],[],[]⟩),(1,ri [1,10] [1]),(2,ri [2] [17]),(3,ri [2] [17])]
def z2b.cx (k:Nat):Cx:=⟨tt,pp,[(224,(z15.e k))],z2b.regs,k,mm⟩
@[reducible] def z2b.sg:Sg:=⟨[.dat tOp],[],.dat .bool,[]⟩
def z2b.f (k:Nat) (a0:Ty.D tOp):Option (Sg.Out z2b.sg):=Sg.fn z2b.sg (z2b.cx k) z2b.body z2b.rs a0
theorem z2b.f_eq (k:Nat) (a0:Ty.D tOp):z2b.f k a0=br (ieq a0.1 3) (some (deq tValue a0.2.2.1 (0,(0,[])))) (br (ieq a0.1 5) (some (deq tValue a0.2.2.1 (0,(0,[])))) (bnd (z15.f k a0.2.2.1) fun r0=>some r0)):=by kernel_rfl
def z2b.e (k:Nat):Entry:=Sg.entry z2b.sg fun x=>z2b.f k x
theorem z2b.ok (k:Nat):CallOK Tryz.prog 173 (z2b.e k):=fn_ok (c:=z2b.cx k) (code:=z2b.body) (TT.of tt_ok pp_ok mm_ok) (fns_ok ⟨(z15.ok k),trivial⟩) mixed Tryz.func173 (by kernel_rfl) (by kernel_rfl) (by kernel_rfl) (by kernel_rfl) (by kernel_rfl) (by kernel_rfl) (fun x=>by kernel_rfl)
def z2q.body:Go.Code:=Tryz.f174.body.getD .skip
def z2q.rs:List Go.ResultVar:=Tryz.f174.results.toList
def z2q.regs:List (Nat × RInfo):=[(0,⟨[1],[1],[0],[],0,[],[],[],[],[]⟩),(1,ri [1,5] [1]),(2,ri [2] []),(3,ri [2] [])]
def z2q.cx (k:Nat):Cx:=⟨tt,pp,[],z2q.regs,k,mm⟩
@[reducible] def z2q.sg:Sg:=⟨[.dat tOp],[],.dat .bool,[]⟩
def z2q.f (k:Nat) (a0:Ty.D tOp):Option (Sg.Out z2q.sg):=Sg.fn z2q.sg (z2q.cx k) z2q.body z2q.rs a0
theorem z2q.f_eq (k:Nat) (a0:Ty.D tOp):z2q.f k a0=br (ieq a0.1 3) (br (bnot (ieq a0.2.2.2.1 0)) (br (ile (-2147483647) a0.2.2.2.1) (some (ile a0.2.2.2.1 2147483647)) (some false)) (some false)) (some (ieq a0.2.2.2.1 0)):=by kernel_rfl
def z2q.e (k:Nat):Entry:=Sg.entry z2q.sg fun x=>z2q.f k x
theorem z2q.ok (k:Nat):CallOK Tryz.prog 174 (z2q.e k):=fn_ok (c:=z2q.cx k) (code:=z2q.body) (TT.of tt_ok pp_ok mm_ok) (fns_ok trivial) mixed Tryz.func174 (by kernel_rfl) (by kernel_rfl) (by kernel_rfl) (by kernel_rfl) (by kernel_rfl) (by kernel_rfl) (fun x=>by kernel_rfl)
def z2A.body:Go.Code:=Tryz.f225.body.getD .skip
def z2A.rs:List Go.ResultVar:=Tryz.f225.results.toList
def z2A.regs:List (Nat × RInfo):=[(0,ri [2,3] [2,3]),(1,rq [4] [16] 12)]
def z2A.cx (k:Nat):Cx:=⟨tt,pp,[(176,(z12.e k)),(227,(z0B.e k)),(226,(z1v.e k))],z2A.regs,k,mm⟩
@[reducible] def z2A.sg:Sg:=⟨[.dat tUndo,.dat tUndo],[],.dat (.int .i64),[]⟩
def z2A.f (k:Nat) (a0:Ty.D tUndo) (a1:Ty.D tUndo):Option (Sg.Out z2A.sg):=Sg.fn z2A.sg (z2A.cx k) z2A.body z2A.rs (a0,a1)
theorem z2A.f_eq (k:Nat) (a0:Ty.D tUndo) (a1:Ty.D tUndo):z2A.f k a0 a1=bnd (z12.f k a0.1 a1.1) fun r0=>bnd (z0B.f k a0.2 a1.2) fun r1=>bnd (z1v.f k (r0::(r1::[]))) fun r2=>some r2:=by kernel_rfl
def z2A.e (k:Nat):Entry:=Sg.entry z2A.sg fun x=>z2A.f k x.1 x.2
theorem z2A.ok (k:Nat):CallOK Tryz.prog 225 (z2A.e k):=fn_ok (c:=z2A.cx k) (code:=z2A.body) (TT.of tt_ok pp_ok mm_ok) (fns_ok ⟨(z12.ok k),(z0B.ok k),(z1v.ok k),trivial⟩) mixed Tryz.func225 (by kernel_rfl) (by kernel_rfl) (by kernel_rfl) (by kernel_rfl) (by kernel_rfl) (by kernel_rfl) (fun x=>by kernel_rfl)
def z2R.body:Go.Code:=Tryz.f175.body.getD .skip
def z2R.rs:List Go.ResultVar:=Tryz.f175.results.toList
def z2R.regs:List (Nat × RInfo):=[(0,ri [0] []),(1,ri [0,5,6,7] []),(2,⟨[0,5,6,7,8],[],[],[],0,[0,5,6,7],[],[],[],[]⟩),(3,ri [0,3,4,5,6,7] [4]),(4,rq [0,5,6,7,39] [] 28),(5,ri [2] []),(6,ri [0,5,6,7] []),(7,ri [2] [])]
def z2R.cx (k:Nat):Cx:=⟨tt,pp,[(119,(z2t.e k)),(225,(z2A.e k))],z2R.regs,k,mm⟩
@[reducible] def z2R.sg:Sg:=⟨[.dat (.slc tUndo)],[],.dat .bool,[]⟩
def z2R.f (k:Nat) (a0:Ty.D (.slc tUndo)):Option (Sg.Out z2R.sg):=Sg.fn z2R.sg (z2R.cx k) z2R.body z2R.rs a0
def z2R.l2 (k:Nat) (n:Nat) (x0:Ty.D (.slc tUndo)) (x5:Ty.D (.slc tUndo)) (x6:Ty.D (.int .i64)) (x7:Ty.D (.int .i64)):Option (Sg.Out z2R.sg):=loopAt (z2R.cx k) z2R.body [1,0,1,0] 2 [0,5,6,7] [] [] (Sg.K z2R.sg (z2R.cx k) z2R.rs) n ⟨[(0,.dat (.slc tUndo) x0),(5,.dat (.slc tUndo) x5),(6,.dat (.int .i64) x6),(7,.dat (.int .i64) x7)],[]⟩
theorem z2R.f_eq (k:Nat) (a0:Ty.D (.slc tUndo)):z2R.f k a0=z2R.l2 k k a0 a0 (ilen a0) 0:=by kernel_rfl
theorem z2R.l2_eq (k:Nat) (n2:Nat) (x0:Ty.D (.slc tUndo)) (x5:Ty.D (.slc tUndo)) (x6:Ty.D (.int .i64)) (x7:Ty.D (.int .i64)):z2R.l2 k (n2+1) x0 x5 x6 x7=br (ilt x7 x6) (br (inL x7 x5) (bnd (z2t.f k ((rd tUndo x5 (natOf x7)).1)) fun r0=>br (bnot r0) (some false) (br (ilt ((rd tUndo x5 (natOf x7)).2) 0) (some false) (br (ile 16 ((rd tUndo x5 (natOf x7)).2)) (some false) (br (ilt 0 x7) (br (inL (isub .i64 x7 1) x0) (bnd (z2A.f k (rd tUndo x0 (natOf (isub .i64 x7 1))) (rd tUndo x5 (natOf x7))) fun r1=>br (ile 0 r1) (some false) (z2R.l2 k n2 x0 x5 x6 (iadd .i64 x7 1))) none) (z2R.l2 k n2 x0 x5 x6 (iadd .i64 x7 1)))))) none) (some true):=by kernel_rfl
def z2R.e (k:Nat):Entry:=Sg.entry z2R.sg fun x=>z2R.f k x
theorem z2R.ok (k:Nat):CallOK Tryz.prog 175 (z2R.e k):=fn_ok (c:=z2R.cx k) (code:=z2R.body) (TT.of tt_ok pp_ok mm_ok) (fns_ok ⟨(z2t.ok k),(z2A.ok k),trivial⟩) mixed Tryz.func175 (by kernel_rfl) (by kernel_rfl) (by kernel_rfl) (by kernel_rfl) (by kernel_rfl) (by kernel_rfl) (fun x=>by kernel_rfl)
def z2y.body:Go.Code:=Tryz.f121.body.getD .skip
def z2y.rs:List Go.ResultVar:=Tryz.f121.results.toList
def z2y.regs:List (Nat × RInfo):=[(0,⟨[1],[1],[0],[],0,[],[],[],[],[]⟩),(1,ri [1,12] [1]),(2,ri [2] [15]),(3,ri [1,3] [1,15]),(4,ri [1,3,17] [1,15]),(5,ri [2] [15]),(6,ri [1,4] [1]),(7,ri [1,4,32] [1]),(8,ri [1,4,32] [1]),(9,ri [1,32] [1]),(10,ri [2] [15]),(11,ri [1,47] [1]),(12,ri [2] [15]),(13,ri [52] []),(14,ri [2] [15]),(15,ri [2] [15])]
def z2y.cx (k:Nat):Cx:=⟨tt,pp,[(172,(z1T.e k)),(173,(z2b.e k)),(174,(z2q.e k)),(175,(z2R.e k))],z2y.regs,k,mm⟩
@[reducible] def z2y.sg:Sg:=⟨[.dat tOp],[],.dat (.int .i64),[]⟩
def z2y.f (k:Nat) (a0:Ty.D tOp):Option (Sg.Out z2y.sg):=Sg.fn z2y.sg (z2y.cx k) z2y.body z2y.rs a0
theorem z2y.f_eq (k:Nat) (a0:Ty.D tOp):z2y.f k a0=br (ilt a0.1 1) (some 18) (br (ilt 5 a0.1) (some 18) (bnd (z1T.f k a0.2.1) fun r0=>br (bnot (ieq r0 0)) (some r0) (br (ieq a0.1 1) (bnd (z2b.f k a0) fun r1=>br (bnot r1) (br (bnot r1) (some 2) (br (ilt 256 (ilen a0.2.2.2.2)) (some 7) (bnd (z2R.f k a0.2.2.2.2) fun r2=>br (bnot r2) (some 2) (some 0)))) (bnd (z2q.f k a0) fun r3=>br (bnot r3) (br (bnot r3) (some 2) (br (ilt 256 (ilen a0.2.2.2.2)) (some 7) (bnd (z2R.f k a0.2.2.2.2) fun r4=>br (bnot r4) (some 2) (some 0)))) (br (bnot true) (br (ilt 0 (ilen a0.2.2.2.2)) (some 2) (br (ilt 256 (ilen a0.2.2.2.2)) (some 7) (bnd (z2R.f k a0.2.2.2.2) fun r5=>br (bnot r5) (some 2) (some 0)))) (br (ilt 256 (ilen a0.2.2.2.2)) (some 7) (bnd (z2R.f k a0.2.2.2.2) fun r6=>br (bnot r6) (some 2) (some 0)))))) (br (ieq a0.1 4) (bnd (z2b.f k a0) fun r7=>br (bnot r7) (br (bnot r7) (some 2) (br (ilt 256 (ilen a0.2.2.2.2)) (some 7) (bnd (z2R.f k a0.2.2.2.2) fun r8=>br (bnot r8) (some 2) (some 0)))) (bnd (z2q.f k a0) fun r9=>br (bnot r9) (br (bnot r9) (some 2) (br (ilt 256 (ilen a0.2.2.2.2)) (some 7) (bnd (z2R.f k a0.2.2.2.2) fun r10=>br (bnot r10) (some 2) (some 0)))) (br (bnot true) (br (ilt 0 (ilen a0.2.2.2.2)) (some 2) (br (ilt 256 (ilen a0.2.2.2.2)) (some 7) (bnd (z2R.f k a0.2.2.2.2) fun r11=>br (bnot r11) (some 2) (some 0)))) (br (ilt 256 (ilen a0.2.2.2.2)) (some 7) (bnd (z2R.f k a0.2.2.2.2) fun r12=>br (bnot r12) (some 2) (some 0)))))) (bnd (z2b.f k a0) fun r13=>br (bnot r13) (br (bnot r13) (some 2) (br (ilt 256 (ilen a0.2.2.2.2)) (some 7) (bnd (z2R.f k a0.2.2.2.2) fun r14=>br (bnot r14) (some 2) (some 0)))) (bnd (z2q.f k a0) fun r15=>br (bnot r15) (br (bnot r15) (some 2) (br (ilt 256 (ilen a0.2.2.2.2)) (some 7) (bnd (z2R.f k a0.2.2.2.2) fun r16=>br (bnot r16) (some 2) (some 0)))) (br (bnot (ieq a0.1 5)) (br (ilt 0 (ilen a0.2.2.2.2)) (some 2) (br (ilt 256 (ilen a0.2.2.2.2)) (some 7) (bnd (z2R.f k a0.2.2.2.2) fun r17=>br (bnot r17) (some 2) (some 0)))) (br (ilt 256 (ilen a0.2.2.2.2)) (some 7) (bnd (z2R.f k a0.2.2.2.2) fun r18=>br (bnot r18) (some 2) (some 0)))))))))):=by kernel_rfl
def z2y.e (k:Nat):Entry:=Sg.entry z2y.sg fun x=>z2y.f k x
theorem z2y.ok (k:Nat):CallOK Tryz.prog 121 (z2y.e k):=fn_ok (c:=z2y.cx k) (code:=z2y.body) (TT.of tt_ok pp_ok mm_ok) (fns_ok ⟨(z1T.ok k),(z2b.ok k),(z2q.ok k),(z2R.ok k),trivial⟩) mixed Tryz.func121 (by kernel_rfl) (by kernel_rfl) (by kernel_rfl) (by kernel_rfl) (by kernel_rfl) (by kernel_rfl) (fun x=>by kernel_rfl)
def z2L.body:Go.Code:=Tryz.f163.body.getD .skip
def z2L.rs:List Go.ResultVar:=Tryz.f163.results.toList
def z2L.regs:List (Nat × RInfo):=[(0,ri [0,2] [2,1000000]),(1,⟨[0,2,3],[2,3,1000000],[4],[],0,[],[],[],[],[]⟩),(2,ri [0,2,3,9] [2,3,1000000]),(3,⟨[2],[2,1000000],[1],[],0,[],[],[],[],[]⟩),(4,⟨[0,2,3],[2,3,1000000],[3],[],0,[],[],[],[],[]⟩),(5,ri [0,2,3,15] [2,3,1000000]),(6,ri [0,2,3,15,16] [2,3,1000000]),(7,ri [0,2,3] [2,3,1000000]),(8,ri [0,2,3,15,22] [2,3,1000000]),(9,ri [0,2,3,15,22] [2,3,1000000]),(10,ri [0,2,3] [2,3,1000000]),(11,⟨[0,2,3],[2,3,1000000],[3],[],0,[],[],[],[],[]⟩),(12,ri [0,2,3,15,31] [2,3,1000000]),(13,ri [0,2,3] [2,3,1000000]),(14,ri [0,2,3,36] [2,3,1000000]),(15,⟨[0,2,3],[2,3,1000000],[3],[],0,[],[],[],[],[]⟩),(16,ri [0,2,3,43] [2,3,1000000]),(17,ri [0,2,3] [2,3,1000000]),(18,ri [2,3,50] [2,3,1000000]),(19,⟨[2],[2,1000000],[1],[],0,[],[],[],[],[]⟩),(20,⟨[2],[2,1000000],[1],[],0,[],[],[],[],[]⟩)]
def z2L.cx (k:Nat):Cx:=⟨tt,pp,[(87,(z0y.e k)),(209,(z2d.e k)),(210,(z0N.e k)),(211,(z1J.e k)),(212,(z2M.e k)),(34,(z0i.e k)),(121,(z2y.e k)),(89,(z0o.e k))],z2L.regs,k,mm⟩
@[reducible] def z2L.sg:Sg:=⟨[.ref],[tpackReader],.dat tOp,[tpackReader]⟩
def z2L.f (k:Nat) (o0:Ty.D tpackReader):Option (Sg.Out z2L.sg):=Sg.fn z2L.sg (z2L.cx k) z2L.body z2L.rs o0
theorem z2L.f_eq (k:Nat) (o0:Ty.D tpackReader):z2L.f k o0=bnd (z0y.f k o0) fun r0=>br (ieq r0.1 0) (some ((r0.1,([],((0,(0,[])),(0,[])))),r0.2)) (bnd (z2d.f k r0.2) fun r1=>br (ieq r0.1 3) (bnd (z0y.f k r1.2) fun r2=>bnd (z0N.f k r2.1) fun r3=>bnd (z0i.f k r2.2) fun r4=>br (ieq r4.1 0) (bnd (z2y.f k (r0.1,(r1.1,((0,(0,[])),(r3,[]))))) fun r5=>bnd (z0o.f k r5 r4.2) fun r6=>bnd (z0i.f k r6.2) fun r7=>br (bnot (ieq r7.1 0)) (some ((0,([],((0,(0,[])),(0,[])))),r7.2)) (some ((r0.1,(r1.1,((0,(0,[])),(r3,[])))),r7.2))) (bnd (z0i.f k r4.2) fun r8=>br (bnot (ieq r8.1 0)) (some ((0,([],((0,(0,[])),(0,[])))),r8.2)) (some ((r0.1,(r1.1,((0,(0,[])),(r3,[])))),r8.2)))) (br (ieq r0.1 1) (br (ieq r0.1 1) (bnd (z1J.f k r1.2) fun r9=>bnd (z2M.f k r9.2) fun r10=>bnd (z0i.f k r10.2) fun r11=>br (ieq r11.1 0) (bnd (z2y.f k (r0.1,(r1.1,(r9.1,(0,r10.1))))) fun r12=>bnd (z0o.f k r12 r11.2) fun r13=>bnd (z0i.f k r13.2) fun r14=>br (bnot (ieq r14.1 0)) (some ((0,([],((0,(0,[])),(0,[])))),r14.2)) (some ((r0.1,(r1.1,(r9.1,(0,r10.1)))),r14.2))) (bnd (z0i.f k r11.2) fun r15=>br (bnot (ieq r15.1 0)) (some ((0,([],((0,(0,[])),(0,[])))),r15.2)) (some ((r0.1,(r1.1,(r9.1,(0,r10.1)))),r15.2)))) (br (ieq r0.1 2) (bnd (z1J.f k r1.2) fun r16=>bnd (z0i.f k r16.2) fun r17=>br (ieq r17.1 0) (bnd (z2y.f k (r0.1,(r1.1,(r16.1,(0,[]))))) fun r18=>bnd (z0o.f k r18 r17.2) fun r19=>bnd (z0i.f k r19.2) fun r20=>br (bnot (ieq r20.1 0)) (some ((0,([],((0,(0,[])),(0,[])))),r20.2)) (some ((r0.1,(r1.1,(r16.1,(0,[])))),r20.2))) (bnd (z0i.f k r17.2) fun r21=>br (bnot (ieq r21.1 0)) (some ((0,([],((0,(0,[])),(0,[])))),r21.2)) (some ((r0.1,(r1.1,(r16.1,(0,[])))),r21.2)))) (br (ieq r0.1 5) (bnd (z2M.f k r1.2) fun r22=>bnd (z0i.f k r22.2) fun r23=>br (ieq r23.1 0) (bnd (z2y.f k (r0.1,(r1.1,((0,(0,[])),(0,r22.1))))) fun r24=>bnd (z0o.f k r24 r23.2) fun r25=>bnd (z0i.f k r25.2) fun r26=>br (bnot (ieq r26.1 0)) (some ((0,([],((0,(0,[])),(0,[])))),r26.2)) (some ((r0.1,(r1.1,((0,(0,[])),(0,r22.1)))),r26.2))) (bnd (z0i.f k r23.2) fun r27=>br (bnot (ieq r27.1 0)) (some ((0,([],((0,(0,[])),(0,[])))),r27.2)) (some ((r0.1,(r1.1,((0,(0,[])),(0,r22.1)))),r27.2)))) (bnd (z0i.f k r1.2) fun r28=>br (ieq r28.1 0) (bnd (z2y.f k (r0.1,(r1.1,((0,(0,[])),(0,[]))))) fun r29=>bnd (z0o.f k r29 r28.2) fun r30=>bnd (z0i.f k r30.2) fun r31=>br (bnot (ieq r31.1 0)) (some ((0,([],((0,(0,[])),(0,[])))),r31.2)) (some ((r0.1,(r1.1,((0,(0,[])),(0,[])))),r31.2))) (bnd (z0i.f k r28.2) fun r32=>br (bnot (ieq r32.1 0)) (some ((0,([],((0,(0,[])),(0,[])))),r32.2)) (some ((r0.1,(r1.1,((0,(0,[])),(0,[])))),r32.2))))))) (br (ieq r0.1 4) (bnd (z1J.f k r1.2) fun r33=>bnd (z2M.f k r33.2) fun r34=>bnd (z0i.f k r34.2) fun r35=>br (ieq r35.1 0) (bnd (z2y.f k (r0.1,(r1.1,(r33.1,(0,r34.1))))) fun r36=>bnd (z0o.f k r36 r35.2) fun r37=>bnd (z0i.f k r37.2) fun r38=>br (bnot (ieq r38.1 0)) (some ((0,([],((0,(0,[])),(0,[])))),r38.2)) (some ((r0.1,(r1.1,(r33.1,(0,r34.1)))),r38.2))) (bnd (z0i.f k r35.2) fun r39=>br (bnot (ieq r39.1 0)) (some ((0,([],((0,(0,[])),(0,[])))),r39.2)) (some ((r0.1,(r1.1,(r33.1,(0,r34.1)))),r39.2)))) (br (ieq r0.1 2) (bnd (z1J.f k r1.2) fun r40=>bnd (z0i.f k r40.2) fun r41=>br (ieq r41.1 0) (bnd (z2y.f k (r0.1,(r1.1,(r40.1,(0,[]))))) fun r42=>bnd (z0o.f k r42 r41.2) fun r43=>bnd (z0i.f k r43.2) fun r44=>br (bnot (ieq r44.1 0)) (some ((0,([],((0,(0,[])),(0,[])))),r44.2)) (some ((r0.1,(r1.1,(r40.1,(0,[])))),r44.2))) (bnd (z0i.f k r41.2) fun r45=>br (bnot (ieq r45.1 0)) (some ((0,([],((0,(0,[])),(0,[])))),r45.2)) (some ((r0.1,(r1.1,(r40.1,(0,[])))),r45.2)))) (br (ieq r0.1 5) (bnd (z2M.f k r1.2) fun r46=>bnd (z0i.f k r46.2) fun r47=>br (ieq r47.1 0) (bnd (z2y.f k (r0.1,(r1.1,((0,(0,[])),(0,r46.1))))) fun r48=>bnd (z0o.f k r48 r47.2) fun r49=>bnd (z0i.f k r49.2) fun r50=>br (bnot (ieq r50.1 0)) (some ((0,([],((0,(0,[])),(0,[])))),r50.2)) (some ((r0.1,(r1.1,((0,(0,[])),(0,r46.1)))),r50.2))) (bnd (z0i.f k r47.2) fun r51=>br (bnot (ieq r51.1 0)) (some ((0,([],((0,(0,[])),(0,[])))),r51.2)) (some ((r0.1,(r1.1,((0,(0,[])),(0,r46.1)))),r51.2)))) (bnd (z0i.f k r1.2) fun r52=>br (ieq r52.1 0) (bnd (z2y.f k (r0.1,(r1.1,((0,(0,[])),(0,[]))))) fun r53=>bnd (z0o.f k r53 r52.2) fun r54=>bnd (z0i.f k r54.2) fun r55=>br (bnot (ieq r55.1 0)) (some ((0,([],((0,(0,[])),(0,[])))),r55.2)) (some ((r0.1,(r1.1,((0,(0,[])),(0,[])))),r55.2))) (bnd (z0i.f k r52.2) fun r56=>br (bnot (ieq r56.1 0)) (some ((0,([],((0,(0,[])),(0,[])))),r56.2)) (some ((r0.1,(r1.1,((0,(0,[])),(0,[])))),r56.2))))))))):=by kernel_rfl
def z2L.e (k:Nat):Entry:=Sg.entry z2L.sg fun x=>z2L.f k x
theorem z2L.ok (k:Nat):CallOK Tryz.prog 163 (z2L.e k):=fn_ok (c:=z2L.cx k) (code:=z2L.body) (TT.of tt_ok pp_ok mm_ok) (fns_ok ⟨(z0y.ok k),(z2d.ok k),(z0N.ok k),(z1J.ok k),(z2M.ok k),(z0i.ok k),(z2y.ok k),(z0o.ok k),trivial⟩) mixed Tryz.func163 (by kernel_rfl) (by kernel_rfl) (by kernel_rfl) (by kernel_rfl) (by kernel_rfl) (by kernel_rfl) (fun x=>by kernel_rfl)
def z2Q.body:Go.Code:=Tryz.f120.body.getD .skip
def z2Q.rs:List Go.ResultVar:=Tryz.f120.results.toList
def z2Q.regs:List (Nat × RInfo):=[(0,⟨[1],[1],[0],[],0,[],[],[],[],[]⟩),(1,ri [2] [])]
def z2Q.cx (k:Nat):Cx:=⟨tt,pp,[],z2Q.regs,k,mm⟩
@[reducible] def z2Q.sg:Sg:=⟨[.dat tOp],[],.dat .bool,[]⟩
def z2Q.f (k:Nat) (a0:Ty.D tOp):Option (Sg.Out z2Q.sg):=Sg.fn z2Q.sg (z2Q.cx k) z2Q.body z2Q.rs a0
theorem z2Q.f_eq (k:Nat) (a0:Ty.D tOp):z2Q.f k a0=br (ieq a0.1 0) (br (ieq (ilen a0.2.1) 0) (br (deq tValue a0.2.2.1 (0,(0,[]))) (br (ieq a0.2.2.2.1 0) (some (ieq (ilen a0.2.2.2.2) 0)) (some false)) (some false)) (some false)) (some false):=by kernel_rfl
def z2Q.e (k:Nat):Entry:=Sg.entry z2Q.sg fun x=>z2Q.f k x
theorem z2Q.ok (k:Nat):CallOK Tryz.prog 120 (z2Q.e k):=fn_ok (c:=z2Q.cx k) (code:=z2Q.body) (TT.of tt_ok pp_ok mm_ok) (fns_ok trivial) mixed Tryz.func120 (by kernel_rfl) (by kernel_rfl) (by kernel_rfl) (by kernel_rfl) (by kernel_rfl) (by kernel_rfl) (fun x=>by kernel_rfl)
def z2o.body:Go.Code:=Tryz.f50.body.getD .skip
def z2o.rs:List Go.ResultVar:=Tryz.f50.results.toList
def z2o.regs:List (Nat × RInfo):=[(0,⟨[1],[1],[0],[],0,[],[],[],[],[]⟩),(1,ri [1,6] [1]),(2,ri [1,6] [1]),(3,ri [1,6] [1]),(4,ri [2] [51]),(5,ri [1,27] [1]),(6,ri [2] [51]),(7,ri [1,32] [1]),(8,ri [2] [51]),(9,ri [1,38,39,40] [1]),(10,⟨[1,38,39,40,41],[1],[],[],0,[1,38,39,40],[1],[],[],[]⟩),(11,⟨[1,4,38,39,40],[1,4],[3],[],0,[],[],[],[],[]⟩),(12,ri [1,4,38,39,40,49] [1,4,48]),(13,ri [1,5,38,39,40] [1,51]),(14,ri [1,5,38,39,40,53] [1,51]),(15,ri [2] [51]),(16,ri [1,38,39,40] [1]),(17,ri [2] [51])]
def z2o.cx (k:Nat):Cx:=⟨tt,pp,[(119,(z2t.e k)),(120,(z2Q.e k)),(121,(z2y.e k))],z2o.regs,k,mm⟩
@[reducible] def z2o.sg:Sg:=⟨[.dat tTxn],[],.dat (.int .i64),[]⟩
def z2o.f (k:Nat) (a0:Ty.D tTxn):Option (Sg.Out z2o.sg):=Sg.fn z2o.sg (z2o.cx k) z2o.body z2o.rs a0
def z2o.l10 (k:Nat) (n:Nat) (x38:Ty.D (.slc tOp)) (x39:Ty.D (.int .i64)) (x40:Ty.D (.int .i64)) (m1:Ty.D tTxn):Option (Sg.Out z2o.sg):=loopAt (z2o.cx k) z2o.body [1,1,0,1,0] 10 [1,38,39,40] [1] [] (Sg.K z2o.sg (z2o.cx k) z2o.rs) n ⟨[(1,.ref 1 []),(38,.dat (.slc tOp) x38),(39,.dat (.int .i64) x39),(40,.dat (.int .i64) x40)],[(1,.dat tTxn m1)]⟩
theorem z2o.f_eq (k:Nat) (a0:Ty.D tTxn):z2o.f k a0=bnd (z2t.f k a0.1) fun r0=>br (bnot r0) (br (bnot r0) (some 2) (br (ieq (ilen a0.2.2.2.2) 0) (some 11) (br (ilt 16 (ilen a0.2.2.2.2)) (some 7) (z2o.l10 k k a0.2.2.2.2 (ilen a0.2.2.2.2) 0 a0)))) (br (ilt a0.2.1 0) (some 2) (br (ile 8 a0.2.1) (br (ile 8 a0.2.1) (some 2) (br (ieq (ilen a0.2.2.2.2) 0) (some 11) (br (ilt 16 (ilen a0.2.2.2.2)) (some 7) (z2o.l10 k k a0.2.2.2.2 (ilen a0.2.2.2.2) 0 a0)))) (br (ilt a0.2.2.1 1) (some 2) (br (ilt 1099511627776 a0.2.2.1) (some 2) (br (ieq (ilen a0.2.2.2.2) 0) (some 11) (br (ilt 16 (ilen a0.2.2.2.2)) (some 7) (z2o.l10 k k a0.2.2.2.2 (ilen a0.2.2.2.2) 0 a0))))))):=by kernel_rfl
theorem z2o.l10_eq (k:Nat) (n10:Nat) (x38:Ty.D (.slc tOp)) (x39:Ty.D (.int .i64)) (x40:Ty.D (.int .i64)) (m1:Ty.D tTxn):z2o.l10 k (n10+1) x38 x39 x40 m1=br (ilt x40 x39) (br (inL x40 x38) (br m1.2.2.2.1 (bnd (z2Q.f k (rd tOp x38 (natOf x40))) fun r0=>br r0 (z2o.l10 k n10 x38 x39 (iadd .i64 x40 1) m1) (bnd (z2y.f k (rd tOp x38 (natOf x40))) fun r1=>br (bnot (ieq r1 0)) (some r1) (z2o.l10 k n10 x38 x39 (iadd .i64 x40 1) m1))) (bnd (z2y.f k (rd tOp x38 (natOf x40))) fun r2=>br (bnot (ieq r2 0)) (some r2) (z2o.l10 k n10 x38 x39 (iadd .i64 x40 1) m1))) none) (some 0):=by kernel_rfl
def z2o.e (k:Nat):Entry:=Sg.entry z2o.sg fun x=>z2o.f k x
theorem z2o.ok (k:Nat):CallOK Tryz.prog 50 (z2o.e k):=fn_ok (c:=z2o.cx k) (code:=z2o.body) (TT.of tt_ok pp_ok mm_ok) (fns_ok ⟨(z2t.ok k),(z2Q.ok k),(z2y.ok k),trivial⟩) mixed Tryz.func50 (by kernel_rfl) (by kernel_rfl) (by kernel_rfl) (by kernel_rfl) (by kernel_rfl) (by kernel_rfl) (fun x=>by kernel_rfl)
def z2G.body:Go.Code:=Tryz.f105.body.getD .skip
def z2G.rs:List Go.ResultVar:=Tryz.f105.results.toList
def z2G.regs:List (Nat × RInfo):=[(0,ri [0,2] [2,1000000]),(1,⟨[0,2,3],[2,3,1000000],[8],[],0,[],[],[],[],[]⟩),(2,ri [0,2,3,4] [2,3,13,1000000]),(3,ri [0,2,3,4] [2,3,13,1000000]),(4,ri [0,2,3,23] [2,3,1000000]),(5,ri [0,2,3] [2,3,1000000]),(6,ri [0,2,3,27,28] [2,3,27,1000000]),(7,⟨[0,2,3,27,28,29],[2,3,27,1000000],[],[],0,[0,2,3,27,28],[2,3,27,1000000],[],[],[]⟩),(8,⟨[0,2,3,27,28],[2,3,27,1000000],[1,5,7],[],6,[],[],[],[[],[],[],[],[3],[1,3],[1,3],[1,3]],[]⟩),(9,ri [0,2,3,27,28] [2,3,27,1000000]),(10,ri [0,2,3,40] [2,3,1000000]),(11,ri [0,2,3] [2,3,1000000]),(12,ri [2,3,47] [2,3,1000000]),(13,⟨[2],[2,1000000],[1],[],0,[],[],[],[],[]⟩),(14,⟨[2],[2,1000000],[1],[],0,[],[],[],[],[]⟩)]
def z2G.cx (k:Nat):Cx:=⟨tt,pp,[(106,(z2C.e k)),(87,(z0y.e k)),(34,(z0i.e k)),(89,(z0o.e k)),(161,(z0s.e k)),(163,(z2L.e k)),(50,(z2o.e k))],z2G.regs,k,mm⟩
@[reducible] def z2G.sg:Sg:=⟨[.ref],[tpackReader],.dat tTxn,[tpackReader]⟩
def z2G.f (k:Nat) (o0:Ty.D tpackReader):Option (Sg.Out z2G.sg):=Sg.fn z2G.sg (z2G.cx k) z2G.body z2G.rs o0
def z2G.l7 (k:Nat) (n:Nat) (x27:Ty.D (.int .i64)) (x28:Ty.D (.int .i64)) (m2a:Ty.D tDot) (m2ba:Ty.D (.int .i64)) (m2bba:Ty.D (.int .i64)) (m2bbba:Ty.D .bool) (m2bbbb:List (Ty.D tOp)) (m3a:Ty.D tDot) (m3ba:Ty.D (.int .i64)) (m3bba:Ty.D (.int .i64)) (m3bbba:Ty.D .bool) (m3bbbb:List (Ty.D tOp)) (m1000000:Ty.D tpackReader):Option (Sg.Out z2G.sg):=loopAt (z2G.cx k) z2G.body [1,1,1,1,1,0,1,0] 7 [0,2,3,27,28] [2,3,27,1000000] [] (Sg.K z2G.sg (z2G.cx k) z2G.rs) n ⟨[(0,.ref 1000000 []),(2,.ref 2 []),(3,.ref 3 []),(27,.dat (.int .i64) x27),(28,.dat (.int .i64) x28)],[(2,.pr (.dat tDot m2a) (.pr (.dat (.int .i64) m2ba) (.pr (.dat (.int .i64) m2bba) (.pr (.dat .bool m2bbba) (.own tOp m2bbbb))))),(3,.pr (.dat tDot m3a) (.pr (.dat (.int .i64) m3ba) (.pr (.dat (.int .i64) m3bba) (.pr (.dat .bool m3bbba) (.own tOp m3bbbb))))),(1000000,.dat tpackReader m1000000)]⟩
theorem z2G.f_eq (k:Nat) (o0:Ty.D tpackReader):z2G.f k o0=bnd (z2C.f k o0) fun r0=>bnd (z0y.f k r0.2) fun r1=>bnd (z0y.f k r1.2) fun r2=>bnd (z0y.f k r2.2) fun r3=>bnd (z0i.f k r3.2) fun r4=>br (ieq r4.1 0) (br (ilt 1 r3.1) (bnd (z0o.f k 3 r4.2) fun r5=>bnd (z0s.f k 16 r5.2) fun r6=>z2G.l7 k k r6.1 0 (0,0) 0 0 false [] r0.1 r1.1 r2.1 (ieq r3.1 1) [] r6.2) (bnd (z0s.f k 16 r4.2) fun r7=>z2G.l7 k k r7.1 0 (0,0) 0 0 false [] r0.1 r1.1 r2.1 (ieq r3.1 1) [] r7.2)) (bnd (z0s.f k 16 r4.2) fun r8=>z2G.l7 k k r8.1 0 (0,0) 0 0 false [] r0.1 r1.1 r2.1 (ieq r3.1 1) [] r8.2):=by kernel_rfl
theorem z2G.l7_eq (k:Nat) (n7:Nat) (x27:Ty.D (.int .i64)) (x28:Ty.D (.int .i64)) (m2a:Ty.D tDot) (m2ba:Ty.D (.int .i64)) (m2bba:Ty.D (.int .i64)) (m2bbba:Ty.D .bool) (m2bbbb:List (Ty.D tOp)) (m3a:Ty.D tDot) (m3ba:Ty.D (.int .i64)) (m3bba:Ty.D (.int .i64)) (m3bbba:Ty.D .bool) (m3bbbb:List (Ty.D tOp)) (m1000000:Ty.D tpackReader):z2G.l7 k (n7+1) x27 x28 m2a m2ba m2bba m2bbba m2bbbb m3a m3ba m3bba m3bbba m3bbbb m1000000=br (ilt x28 x27) (bnd (z2L.f k m1000000) fun r0=>br (room m3bbbb (r0.1::[])) (z2G.l7 k n7 x27 (iadd .i64 x28 1) m2a m2ba m2bba m2bbba m2bbbb m3a m3ba m3bba m3bbba (app m3bbbb (r0.1::[])) r0.2) none) (bnd (z0i.f k m1000000) fun r1=>br (ieq r1.1 0) (bnd (z2o.f k (m3a,(m3ba,(m3bba,(m3bbba,m3bbbb))))) fun r2=>bnd (z0o.f k r2 r1.2) fun r3=>bnd (z0i.f k r3.2) fun r4=>br (bnot (ieq r4.1 0)) (some (((0,0),(0,(0,(false,[])))),r4.2)) (some ((m3a,(m3ba,(m3bba,(m3bbba,m3bbbb)))),r4.2))) (bnd (z0i.f k r1.2) fun r5=>br (bnot (ieq r5.1 0)) (some (((0,0),(0,(0,(false,[])))),r5.2)) (some ((m3a,(m3ba,(m3bba,(m3bbba,m3bbbb)))),r5.2)))):=by kernel_rfl
def z2G.e (k:Nat):Entry:=Sg.entry z2G.sg fun x=>z2G.f k x
theorem z2G.ok (k:Nat):CallOK Tryz.prog 105 (z2G.e k):=fn_ok (c:=z2G.cx k) (code:=z2G.body) (TT.of tt_ok pp_ok mm_ok) (fns_ok ⟨(z2C.ok k),(z0y.ok k),(z0i.ok k),(z0o.ok k),(z0s.ok k),(z2L.ok k),(z2o.ok k),trivial⟩) mixed Tryz.func105 (by kernel_rfl) (by kernel_rfl) (by kernel_rfl) (by kernel_rfl) (by kernel_rfl) (by kernel_rfl) (fun x=>by kernel_rfl)
def z2m.body:Go.Code:=Tryz.f125.body.getD .skip
def z2m.rs:List Go.ResultVar:=Tryz.f125.results.toList
def z2m.regs:List (Nat × RInfo):=[(0,ri [0] []),(1,ri [0,5,6,7] []),(2,⟨[0,5,6,7,8],[],[],[],0,[0,5,6,7],[],[],[],[]⟩),(3,⟨[0,3,4,5,6,7],[4],[5],[],0,[],[],[],[],[]⟩),(4,rq [0,5,6,7,25] [] 14),(5,ri [2] []),(6,ri [0,5,6,7] []),(7,ri [2] [])]
def z2m.cx (k:Nat):Cx:=⟨tt,pp,[(176,(z12.e k))],z2m.regs,k,mm⟩
@[reducible] def z2m.sg:Sg:=⟨[.dat (.slc tTxn)],[],.dat .bool,[]⟩
def z2m.f (k:Nat) (a0:Ty.D (.slc tTxn)):Option (Sg.Out z2m.sg):=Sg.fn z2m.sg (z2m.cx k) z2m.body z2m.rs a0
def z2m.l2 (k:Nat) (n:Nat) (x0:Ty.D (.slc tTxn)) (x5:Ty.D (.slc tTxn)) (x6:Ty.D (.int .i64)) (x7:Ty.D (.int .i64)):Option (Sg.Out z2m.sg):=loopAt (z2m.cx k) z2m.body [1,0,1,0] 2 [0,5,6,7] [] [] (Sg.K z2m.sg (z2m.cx k) z2m.rs) n ⟨[(0,.dat (.slc tTxn) x0),(5,.dat (.slc tTxn) x5),(6,.dat (.int .i64) x6),(7,.dat (.int .i64) x7)],[]⟩
theorem z2m.f_eq (k:Nat) (a0:Ty.D (.slc tTxn)):z2m.f k a0=z2m.l2 k k a0 a0 (ilen a0) 0:=by kernel_rfl
theorem z2m.l2_eq (k:Nat) (n2:Nat) (x0:Ty.D (.slc tTxn)) (x5:Ty.D (.slc tTxn)) (x6:Ty.D (.int .i64)) (x7:Ty.D (.int .i64)):z2m.l2 k (n2+1) x0 x5 x6 x7=br (ilt x7 x6) (br (inL x7 x5) (br (ilt 0 x7) (br (inL (isub .i64 x7 1) x0) (bnd (z12.f k ((rd tTxn x0 (natOf (isub .i64 x7 1))).1) ((rd tTxn x5 (natOf x7)).1)) fun r0=>br (ile 0 r0) (some false) (z2m.l2 k n2 x0 x5 x6 (iadd .i64 x7 1))) none) (z2m.l2 k n2 x0 x5 x6 (iadd .i64 x7 1))) none) (some true):=by kernel_rfl
def z2m.e (k:Nat):Entry:=Sg.entry z2m.sg fun x=>z2m.f k x
theorem z2m.ok (k:Nat):CallOK Tryz.prog 125 (z2m.e k):=fn_ok (c:=z2m.cx k) (code:=z2m.body) (TT.of tt_ok pp_ok mm_ok) (fns_ok ⟨(z12.ok k),trivial⟩) mixed Tryz.func125 (by kernel_rfl) (by kernel_rfl) (by kernel_rfl) (by kernel_rfl) (by kernel_rfl) (by kernel_rfl) (fun x=>by kernel_rfl)
def z0U.body:Go.Code:=Tryz.f92.body.getD .skip
def z0U.rs:List Go.ResultVar:=Tryz.f92.results.toList
def z0U.regs:List (Nat × RInfo):=[(0,ri [0,1] [1000000]),(1,ri [0,1,5] [1000000]),(2,ri [0,5,8,9] [8,1000000]),(3,⟨[0,5,8,9,10],[8,1000000],[],[],0,[0,5,8,9],[8,1000000],[],[],[]⟩),(4,⟨[0,5,8,9],[8,1000000],[0,4,5],[],0,[],[],[],[],[]⟩),(5,ri [0,5,8,9] [8,1000000]),(6,ri [0,5,24] [1000000]),(7,ri [0,5] [1000000]),(8,ri [5,29] [1000000]),(9,ri [4] [1000000]),(10,⟨[4],[1000000],[0,1],[],0,[],[],[],[],[]⟩)]
def z0U.cx (k:Nat):Cx:=⟨tt,pp,[(161,(z0s.e k)),(105,(z2G.e k)),(34,(z0i.e k)),(125,(z2m.e k)),(89,(z0o.e k))],z0U.regs,k,mm⟩
@[reducible] def z0U.sg:Sg:=⟨[.ref,.dat (.int .i64)],[tpackReader],.own tTxn,[tpackReader]⟩
def z0U.f (k:Nat) (a1:Ty.D (.int .i64)) (o0:Ty.D tpackReader):Option (Sg.Out z0U.sg):=Sg.fn z0U.sg (z0U.cx k) z0U.body z0U.rs (a1,o0)
def z0U.l3 (k:Nat) (n:Nat) (x5:List (Ty.D tTxn)) (x8:Ty.D (.int .i64)) (x9:Ty.D (.int .i64)) (m1000000:Ty.D tpackReader):Option (Sg.Out z0U.sg):=loopAt (z0U.cx k) z0U.body [1,1,0,1,0] 3 [0,5,8,9] [8,1000000] [] (Sg.K z0U.sg (z0U.cx k) z0U.rs) n ⟨[(0,.ref 1000000 []),(5,.own tTxn x5),(8,.dat (.int .i64) x8),(9,.dat (.int .i64) x9)],[(1000000,.dat tpackReader m1000000)]⟩
theorem z0U.f_eq (k:Nat) (a1:Ty.D (.int .i64)) (o0:Ty.D tpackReader):z0U.f k a1 o0=bnd (z0s.f k a1 o0) fun r0=>z0U.l3 k k [] r0.1 0 r0.2:=by kernel_rfl
theorem z0U.l3_eq (k:Nat) (n3:Nat) (x5:List (Ty.D tTxn)) (x8:Ty.D (.int .i64)) (x9:Ty.D (.int .i64)) (m1000000:Ty.D tpackReader):z0U.l3 k (n3+1) x5 x8 x9 m1000000=br (ilt x9 x8) (bnd (z2G.f k m1000000) fun r0=>br (room x5 (r0.1::[])) (z0U.l3 k n3 (app x5 (r0.1::[])) x8 (iadd .i64 x9 1) r0.2) none) (bnd (z0i.f k m1000000) fun r1=>br (ieq r1.1 0) (bnd (z2m.f k x5) fun r2=>br (bnot r2) (bnd (z0o.f k 2 r1.2) fun r3=>bnd (z0i.f k r3.2) fun r4=>br (bnot (ieq r4.1 0)) (some ([],r4.2)) (some (x5,r4.2))) (bnd (z0i.f k r1.2) fun r5=>br (bnot (ieq r5.1 0)) (some ([],r5.2)) (some (x5,r5.2)))) (bnd (z0i.f k r1.2) fun r6=>br (bnot (ieq r6.1 0)) (some ([],r6.2)) (some (x5,r6.2)))):=by kernel_rfl
def z0U.e (k:Nat):Entry:=Sg.entry z0U.sg fun x=>z0U.f k x.1 x.2
theorem z0U.ok (k:Nat):CallOK Tryz.prog 92 (z0U.e k):=fn_ok (c:=z0U.cx k) (code:=z0U.body) (TT.of tt_ok pp_ok mm_ok) (fns_ok ⟨(z0s.ok k),(z2G.ok k),(z0i.ok k),(z2m.ok k),(z0o.ok k),trivial⟩) mixed Tryz.func92 (by kernel_rfl) (by kernel_rfl) (by kernel_rfl) (by kernel_rfl) (by kernel_rfl) (by kernel_rfl) (fun x=>by kernel_rfl)
def z0J.body:Go.Code:=Tryz.f122.body.getD .skip
def z0J.rs:List Go.ResultVar:=Tryz.f122.results.toList
def z0J.regs:List (Nat × RInfo):=[(0,ri [2,3] [2,3]),(1,ri [4] [9])]
def z0J.cx (k:Nat):Cx:=⟨tt,pp,[(176,(z12.e k))],z0J.regs,k,mm⟩
@[reducible] def z0J.sg:Sg:=⟨[.dat tUndo,.dat tUndo],[],.dat (.int .i64),[]⟩
def z0J.f (k:Nat) (a0:Ty.D tUndo) (a1:Ty.D tUndo):Option (Sg.Out z0J.sg):=Sg.fn z0J.sg (z0J.cx k) z0J.body z0J.rs (a0,a1)
theorem z0J.f_eq (k:Nat) (a0:Ty.D tUndo) (a1:Ty.D tUndo):z0J.f k a0 a1=bnd (z12.f k a0.1 a1.1) fun r0=>some r0:=by kernel_rfl
def z0J.e (k:Nat):Entry:=Sg.entry z0J.sg fun x=>z0J.f k x.1 x.2
theorem z0J.ok (k:Nat):CallOK Tryz.prog 122 (z0J.e k):=fn_ok (c:=z0J.cx k) (code:=z0J.body) (TT.of tt_ok pp_ok mm_ok) (fns_ok ⟨(z12.ok k),trivial⟩) mixed Tryz.func122 (by kernel_rfl) (by kernel_rfl) (by kernel_rfl) (by kernel_rfl) (by kernel_rfl) (by kernel_rfl) (fun x=>by kernel_rfl)
def z1e.body:Go.Code:=Tryz.f52.body.getD .skip
def z1e.rs:List Go.ResultVar:=Tryz.f52.results.toList
def z1e.regs:List (Nat × RInfo):=[(0,ri [0] []),(1,ri [0,5,6,7] []),(2,⟨[0,5,6,7,8],[],[],[],0,[0,5,6,7],[],[],[],[]⟩),(3,ri [0,3,4,5,6,7] [4]),(4,rq [0,5,6,7,39] [] 28),(5,ri [2] []),(6,ri [0,5,6,7] []),(7,ri [2] [])]
def z1e.cx (k:Nat):Cx:=⟨tt,pp,[(119,(z2t.e k)),(122,(z0J.e k))],z1e.regs,k,mm⟩
@[reducible] def z1e.sg:Sg:=⟨[.dat (.slc tUndo)],[],.dat .bool,[]⟩
def z1e.f (k:Nat) (a0:Ty.D (.slc tUndo)):Option (Sg.Out z1e.sg):=Sg.fn z1e.sg (z1e.cx k) z1e.body z1e.rs a0
def z1e.l2 (k:Nat) (n:Nat) (x0:Ty.D (.slc tUndo)) (x5:Ty.D (.slc tUndo)) (x6:Ty.D (.int .i64)) (x7:Ty.D (.int .i64)):Option (Sg.Out z1e.sg):=loopAt (z1e.cx k) z1e.body [1,0,1,0] 2 [0,5,6,7] [] [] (Sg.K z1e.sg (z1e.cx k) z1e.rs) n ⟨[(0,.dat (.slc tUndo) x0),(5,.dat (.slc tUndo) x5),(6,.dat (.int .i64) x6),(7,.dat (.int .i64) x7)],[]⟩
theorem z1e.f_eq (k:Nat) (a0:Ty.D (.slc tUndo)):z1e.f k a0=z1e.l2 k k a0 a0 (ilen a0) 0:=by kernel_rfl
theorem z1e.l2_eq (k:Nat) (n2:Nat) (x0:Ty.D (.slc tUndo)) (x5:Ty.D (.slc tUndo)) (x6:Ty.D (.int .i64)) (x7:Ty.D (.int .i64)):z1e.l2 k (n2+1) x0 x5 x6 x7=br (ilt x7 x6) (br (inL x7 x5) (bnd (z2t.f k ((rd tUndo x5 (natOf x7)).1)) fun r0=>br (bnot r0) (some false) (br (ilt ((rd tUndo x5 (natOf x7)).2) 1) (some false) (br (ilt 64 ((rd tUndo x5 (natOf x7)).2)) (some false) (br (ilt 0 x7) (br (inL (isub .i64 x7 1) x0) (bnd (z0J.f k (rd tUndo x0 (natOf (isub .i64 x7 1))) (rd tUndo x5 (natOf x7))) fun r1=>br (ile 0 r1) (some false) (z1e.l2 k n2 x0 x5 x6 (iadd .i64 x7 1))) none) (z1e.l2 k n2 x0 x5 x6 (iadd .i64 x7 1)))))) none) (some true):=by kernel_rfl
def z1e.e (k:Nat):Entry:=Sg.entry z1e.sg fun x=>z1e.f k x
theorem z1e.ok (k:Nat):CallOK Tryz.prog 52 (z1e.e k):=fn_ok (c:=z1e.cx k) (code:=z1e.body) (TT.of tt_ok pp_ok mm_ok) (fns_ok ⟨(z2t.ok k),(z0J.ok k),trivial⟩) mixed Tryz.func52 (by kernel_rfl) (by kernel_rfl) (by kernel_rfl) (by kernel_rfl) (by kernel_rfl) (by kernel_rfl) (fun x=>by kernel_rfl)
def z1w.body:Go.Code:=Tryz.f93.body.getD .skip
def z1w.rs:List Go.ResultVar:=Tryz.f93.results.toList
def z1w.regs:List (Nat × RInfo):=[(0,ri [0,1] [1000000]),(1,ri [0,1,5] [1000000]),(2,ri [0,5,8,9] [8,1000000]),(3,⟨[0,5,8,9,10],[8,1000000],[],[],0,[0,5,8,9],[8,1000000],[],[],[]⟩),(4,⟨[0,5,8,9],[8,1000000],[0,7,8],[],0,[],[],[],[],[]⟩),(5,ri [0,5,8,9] [8,1000000]),(6,ri [0,5,27] [1000000]),(7,ri [0,5] [1000000]),(8,ri [5,32] [1000000]),(9,ri [4] [1000000]),(10,⟨[4],[1000000],[0,1],[],0,[],[],[],[],[]⟩)]
def z1w.cx (k:Nat):Cx:=⟨tt,pp,[(161,(z0s.e k)),(106,(z2C.e k)),(87,(z0y.e k)),(34,(z0i.e k)),(52,(z1e.e k)),(89,(z0o.e k))],z1w.regs,k,mm⟩
@[reducible] def z1w.sg:Sg:=⟨[.ref,.dat (.int .i64)],[tpackReader],.own tUndo,[tpackReader]⟩
def z1w.f (k:Nat) (a1:Ty.D (.int .i64)) (o0:Ty.D tpackReader):Option (Sg.Out z1w.sg):=Sg.fn z1w.sg (z1w.cx k) z1w.body z1w.rs (a1,o0)
def z1w.l3 (k:Nat) (n:Nat) (x5:List (Ty.D tUndo)) (x8:Ty.D (.int .i64)) (x9:Ty.D (.int .i64)) (m1000000:Ty.D tpackReader):Option (Sg.Out z1w.sg):=loopAt (z1w.cx k) z1w.body [1,1,0,1,0] 3 [0,5,8,9] [8,1000000] [] (Sg.K z1w.sg (z1w.cx k) z1w.rs) n ⟨[(0,.ref 1000000 []),(5,.own tUndo x5),(8,.dat (.int .i64) x8),(9,.dat (.int .i64) x9)],[(1000000,.dat tpackReader m1000000)]⟩
theorem z1w.f_eq (k:Nat) (a1:Ty.D (.int .i64)) (o0:Ty.D tpackReader):z1w.f k a1 o0=bnd (z0s.f k a1 o0) fun r0=>z1w.l3 k k [] r0.1 0 r0.2:=by kernel_rfl
theorem z1w.l3_eq (k:Nat) (n3:Nat) (x5:List (Ty.D tUndo)) (x8:Ty.D (.int .i64)) (x9:Ty.D (.int .i64)) (m1000000:Ty.D tpackReader):z1w.l3 k (n3+1) x5 x8 x9 m1000000=br (ilt x9 x8) (bnd (z2C.f k m1000000) fun r0=>bnd (z0y.f k r0.2) fun r1=>br (room x5 ((r0.1,r1.1)::[])) (z1w.l3 k n3 (app x5 ((r0.1,r1.1)::[])) x8 (iadd .i64 x9 1) r1.2) none) (bnd (z0i.f k m1000000) fun r2=>br (ieq r2.1 0) (bnd (z1e.f k x5) fun r3=>br (bnot r3) (bnd (z0o.f k 2 r2.2) fun r4=>bnd (z0i.f k r4.2) fun r5=>br (bnot (ieq r5.1 0)) (some ([],r5.2)) (some (x5,r5.2))) (bnd (z0i.f k r2.2) fun r6=>br (bnot (ieq r6.1 0)) (some ([],r6.2)) (some (x5,r6.2)))) (bnd (z0i.f k r2.2) fun r7=>br (bnot (ieq r7.1 0)) (some ([],r7.2)) (some (x5,r7.2)))):=by kernel_rfl
def z1w.e (k:Nat):Entry:=Sg.entry z1w.sg fun x=>z1w.f k x.1 x.2
theorem z1w.ok (k:Nat):CallOK Tryz.prog 93 (z1w.e k):=fn_ok (c:=z1w.cx k) (code:=z1w.body) (TT.of tt_ok pp_ok mm_ok) (fns_ok ⟨(z0s.ok k),(z2C.ok k),(z0y.ok k),(z0i.ok k),(z1e.ok k),(z0o.ok k),trivial⟩) mixed Tryz.func93 (by kernel_rfl) (by kernel_rfl) (by kernel_rfl) (by kernel_rfl) (by kernel_rfl) (by kernel_rfl) (fun x=>by kernel_rfl)
def z0M.body:Go.Code:=Tryz.f94.body.getD .skip
def z0M.rs:List Go.ResultVar:=Tryz.f94.results.toList
def z0M.regs:List (Nat × RInfo):=[(0,ri [0,1] [1000000]),(1,ri [0,1,5] [1000000]),(2,ri [0,5,8,9] [8,1000000]),(3,⟨[0,5,8,9,10],[8,1000000],[],[],0,[0,5,8,9],[8,1000000],[],[],[]⟩),(4,⟨[0,5,8,9],[8,1000000],[0,4,5],[],0,[],[],[],[],[]⟩),(5,ri [0,5,8,9] [8,1000000]),(6,ri [5,19] [1000000]),(7,ri [4] [1000000]),(8,⟨[4],[1000000],[0,1],[],0,[],[],[],[],[]⟩)]
def z0M.cx (k:Nat):Cx:=⟨tt,pp,[(161,(z0s.e k)),(106,(z2C.e k)),(34,(z0i.e k))],z0M.regs,k,mm⟩
@[reducible] def z0M.sg:Sg:=⟨[.ref,.dat (.int .i64)],[tpackReader],.own tDot,[tpackReader]⟩
def z0M.f (k:Nat) (a1:Ty.D (.int .i64)) (o0:Ty.D tpackReader):Option (Sg.Out z0M.sg):=Sg.fn z0M.sg (z0M.cx k) z0M.body z0M.rs (a1,o0)
def z0M.l3 (k:Nat) (n:Nat) (x5:List (Ty.D tDot)) (x8:Ty.D (.int .i64)) (x9:Ty.D (.int .i64)) (m1000000:Ty.D tpackReader):Option (Sg.Out z0M.sg):=loopAt (z0M.cx k) z0M.body [1,1,0,1,0] 3 [0,5,8,9] [8,1000000] [] (Sg.K z0M.sg (z0M.cx k) z0M.rs) n ⟨[(0,.ref 1000000 []),(5,.own tDot x5),(8,.dat (.int .i64) x8),(9,.dat (.int .i64) x9)],[(1000000,.dat tpackReader m1000000)]⟩
theorem z0M.f_eq (k:Nat) (a1:Ty.D (.int .i64)) (o0:Ty.D tpackReader):z0M.f k a1 o0=bnd (z0s.f k a1 o0) fun r0=>z0M.l3 k k [] r0.1 0 r0.2:=by kernel_rfl
theorem z0M.l3_eq (k:Nat) (n3:Nat) (x5:List (Ty.D tDot)) (x8:Ty.D (.int .i64)) (x9:Ty.D (.int .i64)) (m1000000:Ty.D tpackReader):z0M.l3 k (n3+1) x5 x8 x9 m1000000=br (ilt x9 x8) (bnd (z2C.f k m1000000) fun r0=>br (room x5 (r0.1::[])) (z0M.l3 k n3 (app x5 (r0.1::[])) x8 (iadd .i64 x9 1) r0.2) none) (bnd (z0i.f k m1000000) fun r1=>br (bnot (ieq r1.1 0)) (some ([],r1.2)) (some (x5,r1.2))):=by kernel_rfl
def z0M.e (k:Nat):Entry:=Sg.entry z0M.sg fun x=>z0M.f k x.1 x.2
theorem z0M.ok (k:Nat):CallOK Tryz.prog 94 (z0M.e k):=fn_ok (c:=z0M.cx k) (code:=z0M.body) (TT.of tt_ok pp_ok mm_ok) (fns_ok ⟨(z0s.ok k),(z2C.ok k),(z0i.ok k),trivial⟩) mixed Tryz.func94 (by kernel_rfl) (by kernel_rfl) (by kernel_rfl) (by kernel_rfl) (by kernel_rfl) (by kernel_rfl) (fun x=>by kernel_rfl)
def z0m.body:Go.Code:=Tryz.f32.body.getD .skip
def z0m.rs:List Go.ResultVar:=Tryz.f32.results.toList
def z0m.regs:List (Nat × RInfo):=[(0,ri [0,2] [2,1000000]),(1,⟨[0,2,3],[2,3,1000000],[8],[],0,[],[],[],[],[]⟩),(2,ri [2,3,13] [2,3,1000000]),(3,⟨[2],[2,1000000],[1],[],0,[],[],[],[],[]⟩),(4,⟨[2],[2,1000000],[1],[],0,[],[],[],[],[]⟩)]
def z0m.cx (k:Nat):Cx:=⟨tt,pp,[(92,(z0U.e k)),(93,(z1w.e k)),(94,(z0M.e k)),(34,(z0i.e k))],z0m.regs,k,mm⟩
@[reducible] def z0m.sg:Sg:=⟨[.ref],[tpackReader],.dat tDelta,[tpackReader]⟩
def z0m.f (k:Nat) (o0:Ty.D tpackReader):Option (Sg.Out z0m.sg):=Sg.fn z0m.sg (z0m.cx k) z0m.body z0m.rs o0
theorem z0m.f_eq (k:Nat) (o0:Ty.D tpackReader):z0m.f k o0=bnd (z0U.f k 1000 o0) fun r0=>bnd (z1w.f k 1048576 r0.2) fun r1=>bnd (z0M.f k 1048576 r1.2) fun r2=>bnd (z0i.f k r2.2) fun r3=>br (bnot (ieq r3.1 0)) (some (([],([],[])),r3.2)) (some ((r0.1,(r1.1,r2.1)),r3.2)):=by kernel_rfl
def z0m.e (k:Nat):Entry:=Sg.entry z0m.sg fun x=>z0m.f k x
theorem z0m.ok (k:Nat):CallOK Tryz.prog 32 (z0m.e k):=fn_ok (c:=z0m.cx k) (code:=z0m.body) (TT.of tt_ok pp_ok mm_ok) (fns_ok ⟨(z0U.ok k),(z1w.ok k),(z0M.ok k),(z0i.ok k),trivial⟩) mixed Tryz.func32 (by kernel_rfl) (by kernel_rfl) (by kernel_rfl) (by kernel_rfl) (by kernel_rfl) (by kernel_rfl) (fun x=>by kernel_rfl)
def z2g.body:Go.Code:=Tryz.f184.body.getD .skip
def z2g.rs:List Go.ResultVar:=Tryz.f184.results.toList
def z2g.regs:List (Nat × RInfo):=[(0,ri [1] [1]),(1,ri [5,6] []),(2,⟨[5,6,7],[],[],[],0,[5,6],[],[],[],[]⟩),(3,ri [4,5,6] []),(4,ri [5,6,14] []),(5,ri [2] []),(6,ri [5,6] []),(7,ri [2] [])]
def z2g.cx (k:Nat):Cx:=⟨tt,pp,[],z2g.regs,k,mm⟩
@[reducible] def z2g.sg:Sg:=⟨[.dat tVec],[],.dat .bool,[]⟩
def z2g.f (k:Nat) (a0:Ty.D tVec):Option (Sg.Out z2g.sg):=Sg.fn z2g.sg (z2g.cx k) z2g.body z2g.rs a0
def z2g.l2 (k:Nat) (n:Nat) (x5:Ty.D tVec) (x6:Ty.D (.int .i64)):Option (Sg.Out z2g.sg):=loopAt (z2g.cx k) z2g.body [1,0,1,0] 2 [5,6] [] [] (Sg.K z2g.sg (z2g.cx k) z2g.rs) n ⟨[(5,.dat tVec x5),(6,.dat (.int .i64) x6)],[]⟩
theorem z2g.f_eq (k:Nat) (a0:Ty.D tVec):z2g.f k a0=z2g.l2 k k a0 0:=by kernel_rfl
theorem z2g.l2_eq (k:Nat) (n2:Nat) (x5:Ty.D tVec) (x6:Ty.D (.int .i64)):z2g.l2 k (n2+1) x5 x6=br (ilt x6 16) (br (inB x6 16) (br (ilt (rd (.int .i64) x5 (natOf x6)) 0) (some false) (br (ilt 1048576 (rd (.int .i64) x5 (natOf x6))) (some false) (z2g.l2 k n2 x5 (iadd .i64 x6 1)))) none) (some true):=by kernel_rfl
def z2g.e (k:Nat):Entry:=Sg.entry z2g.sg fun x=>z2g.f k x
theorem z2g.ok (k:Nat):CallOK Tryz.prog 184 (z2g.e k):=fn_ok (c:=z2g.cx k) (code:=z2g.body) (TT.of tt_ok pp_ok mm_ok) (fns_ok trivial) mixed Tryz.func184 (by kernel_rfl) (by kernel_rfl) (by kernel_rfl) (by kernel_rfl) (by kernel_rfl) (by kernel_rfl) (fun x=>by kernel_rfl)
def z2B.body:Go.Code:=Tryz.f208.body.getD .skip
def z2B.rs:List Go.ResultVar:=Tryz.f208.results.toList
def z2B.regs:List (Nat × RInfo):=[(0,ri [0,2] [2,1000000]),(1,ri [0,2,3] [2,3,1000000]),(2,ri [0,2,3,5] [2,3,1000000]),(3,⟨[0,2,3,5,6],[2,3,1000000],[],[],0,[0,2,3,5],[2,3,1000000],[],[],[]⟩),(4,ri [0,2,3,4,5] [2,3,1000000]),(5,ri [0,2,3,5] [2,3,1000000]),(6,ri [0,2,3,5] [2,3,1000000]),(7,ri [0,2,3,20] [2,3,1000000]),(8,ri [0,2,3] [2,3,1000000]),(9,ri [2,3,25] [2,3,1000000]),(10,ri [2] [2,1000000]),(11,ri [2] [2,1000000])]
def z2B.cx (k:Nat):Cx:=⟨tt,pp,[(87,(z0y.e k)),(34,(z0i.e k)),(184,(z2g.e k)),(89,(z0o.e k))],z2B.regs,k,mm⟩
@[reducible] def z2B.sg:Sg:=⟨[.ref],[tpackReader],.dat tVec,[tpackReader]⟩
def z2B.f (k:Nat) (o0:Ty.D tpackReader):Option (Sg.Out z2B.sg):=Sg.fn z2B.sg (z2B.cx k) z2B.body z2B.rs o0
def z2B.l3 (k:Nat) (n:Nat) (x5:Ty.D (.int .i64)) (m2:Ty.D tVec) (m3:Ty.D tVec) (m1000000:Ty.D tpackReader):Option (Sg.Out z2B.sg):=loopAt (z2B.cx k) z2B.body [1,1,0,1,0] 3 [0,2,3,5] [2,3,1000000] [] (Sg.K z2B.sg (z2B.cx k) z2B.rs) n ⟨[(0,.ref 1000000 []),(2,.ref 2 []),(3,.ref 3 []),(5,.dat (.int .i64) x5)],[(2,.dat tVec m2),(3,.dat tVec m3),(1000000,.dat tpackReader m1000000)]⟩
theorem z2B.f_eq (k:Nat) (o0:Ty.D tpackReader):z2B.f k o0=z2B.l3 k k 0 (zarr 16 0) (zarr 16 0) o0:=by kernel_rfl
theorem z2B.l3_eq (k:Nat) (n3:Nat) (x5:Ty.D (.int .i64)) (m2:Ty.D tVec) (m3:Ty.D tVec) (m1000000:Ty.D tpackReader):z2B.l3 k (n3+1) x5 m2 m3 m1000000=br (ilt x5 16) (bnd (z0y.f k m1000000) fun r0=>br (inB x5 16) (z2B.l3 k n3 (iadd .i64 x5 1) m2 (upd m3 (natOf x5) r0.1) r0.2) none) (bnd (z0i.f k m1000000) fun r1=>br (ieq r1.1 0) (bnd (z2g.f k m3) fun r2=>br (bnot r2) (bnd (z0o.f k 2 r1.2) fun r3=>bnd (z0i.f k r3.2) fun r4=>br (bnot (ieq r4.1 0)) (some ((zarr 16 0),r4.2)) (some (m3,r4.2))) (bnd (z0i.f k r1.2) fun r5=>br (bnot (ieq r5.1 0)) (some ((zarr 16 0),r5.2)) (some (m3,r5.2)))) (bnd (z0i.f k r1.2) fun r6=>br (bnot (ieq r6.1 0)) (some ((zarr 16 0),r6.2)) (some (m3,r6.2)))):=by kernel_rfl
def z2B.e (k:Nat):Entry:=Sg.entry z2B.sg fun x=>z2B.f k x
theorem z2B.ok (k:Nat):CallOK Tryz.prog 208 (z2B.e k):=fn_ok (c:=z2B.cx k) (code:=z2B.body) (TT.of tt_ok pp_ok mm_ok) (fns_ok ⟨(z0y.ok k),(z0i.ok k),(z2g.ok k),(z0o.ok k),trivial⟩) mixed Tryz.func208 (by kernel_rfl) (by kernel_rfl) (by kernel_rfl) (by kernel_rfl) (by kernel_rfl) (by kernel_rfl) (fun x=>by kernel_rfl)
def z1I.body:Go.Code:=Tryz.f133.body.getD .skip
def z1I.rs:List Go.ResultVar:=Tryz.f133.results.toList
def z1I.regs:List (Nat × RInfo):=[(0,⟨[1],[1],[0],[],0,[],[],[],[],[]⟩),(1,ri [1,14] [1]),(2,ri [2] []),(3,ri [1,16,17,18] [1]),(4,⟨[1,16,17,18,19],[1],[],[],0,[1,16,17,18],[1],[],[],[]⟩),(5,ri [1,3,4,16,17,18] [1,4]),(6,rq [1,16,17,18,51] [1] 29),(7,ri [2] []),(8,ri [1,16,17,18] [1]),(9,ri [2] [])]
def z1I.cx (k:Nat):Cx:=⟨tt,pp,[(184,(z2g.e k)),(119,(z2t.e k)),(176,(z12.e k))],z1I.regs,k,mm⟩
@[reducible] def z1I.sg:Sg:=⟨[.dat tDots],[],.dat .bool,[]⟩
def z1I.f (k:Nat) (a0:Ty.D tDots):Option (Sg.Out z1I.sg):=Sg.fn z1I.sg (z1I.cx k) z1I.body z1I.rs a0
def z1I.l4 (k:Nat) (n:Nat) (x16:Ty.D (.slc tDot)) (x17:Ty.D (.int .i64)) (x18:Ty.D (.int .i64)) (m1:Ty.D tDots):Option (Sg.Out z1I.sg):=loopAt (z1I.cx k) z1I.body [1,1,0,1,0] 4 [1,16,17,18] [1] [] (Sg.K z1I.sg (z1I.cx k) z1I.rs) n ⟨[(1,.ref 1 []),(16,.dat (.slc tDot) x16),(17,.dat (.int .i64) x17),(18,.dat (.int .i64) x18)],[(1,.dat tDots m1)]⟩
theorem z1I.f_eq (k:Nat) (a0:Ty.D tDots):z1I.f k a0=bnd (z2g.f k a0.1) fun r0=>br (bnot r0) (some false) (br (ilt 4096 (ilen a0.2)) (some false) (z1I.l4 k k a0.2 (ilen a0.2) 0 a0)):=by kernel_rfl
theorem z1I.l4_eq (k:Nat) (n4:Nat) (x16:Ty.D (.slc tDot)) (x17:Ty.D (.int .i64)) (x18:Ty.D (.int .i64)) (m1:Ty.D tDots):z1I.l4 k (n4+1) x16 x17 x18 m1=br (ilt x18 x17) (br (inL x18 x16) (bnd (z2t.f k (rd tDot x16 (natOf x18))) fun r0=>br (bnot r0) (some false) (br (inB ((rd tDot x16 (natOf x18)).1) 16) (br (ile ((rd tDot x16 (natOf x18)).2) (iadd .i64 (rd (.int .i64) m1.1 (natOf ((rd tDot x16 (natOf x18)).1))) 1)) (some false) (br (ilt 0 x18) (br (inL (isub .i64 x18 1) m1.2) (bnd (z12.f k (rd tDot m1.2 (natOf (isub .i64 x18 1))) (rd tDot x16 (natOf x18))) fun r1=>br (ile 0 r1) (some false) (z1I.l4 k n4 x16 x17 (iadd .i64 x18 1) m1)) none) (z1I.l4 k n4 x16 x17 (iadd .i64 x18 1) m1))) none)) none) (some true):=by kernel_rfl
def z1I.e (k:Nat):Entry:=Sg.entry z1I.sg fun x=>z1I.f k x
theorem z1I.ok (k:Nat):CallOK Tryz.prog 133 (z1I.e k):=fn_ok (c:=z1I.cx k) (code:=z1I.body) (TT.of tt_ok pp_ok mm_ok) (fns_ok ⟨(z2g.ok k),(z2t.ok k),(z12.ok k),trivial⟩) mixed Tryz.func133 (by kernel_rfl) (by kernel_rfl) (by kernel_rfl) (by kernel_rfl) (by kernel_rfl) (by kernel_rfl) (fun x=>by kernel_rfl)
def z2p.body:Go.Code:=Tryz.f160.body.getD .skip
def z2p.rs:List Go.ResultVar:=Tryz.f160.results.toList
def z2p.regs:List (Nat × RInfo):=[(0,ri [0,2] [2,1000000]),(1,⟨[0,2,3],[2,3,1000000],[6],[],0,[],[],[],[],[]⟩),(2,ri [0,2,3,16] [2,3,1000000]),(3,ri [0,2,3] [2,3,1000000]),(4,ri [2,3,21] [2,3,1000000]),(5,⟨[2],[2,1000000],[1],[],0,[],[],[],[],[]⟩),(6,⟨[2],[2,1000000],[1],[],0,[],[],[],[],[]⟩)]
def z2p.cx (k:Nat):Cx:=⟨tt,pp,[(208,(z2B.e k)),(94,(z0M.e k)),(34,(z0i.e k)),(133,(z1I.e k)),(89,(z0o.e k))],z2p.regs,k,mm⟩
@[reducible] def z2p.sg:Sg:=⟨[.ref],[tpackReader],.dat tDots,[tpackReader]⟩
def z2p.f (k:Nat) (o0:Ty.D tpackReader):Option (Sg.Out z2p.sg):=Sg.fn z2p.sg (z2p.cx k) z2p.body z2p.rs o0
theorem z2p.f_eq (k:Nat) (o0:Ty.D tpackReader):z2p.f k o0=bnd (z2B.f k o0) fun r0=>bnd (z0M.f k 4096 r0.2) fun r1=>bnd (z0i.f k r1.2) fun r2=>br (ieq r2.1 0) (bnd (z1I.f k (r0.1,r1.1)) fun r3=>br (bnot r3) (bnd (z0o.f k 2 r2.2) fun r4=>bnd (z0i.f k r4.2) fun r5=>br (bnot (ieq r5.1 0)) (some (((zarr 16 0),[]),r5.2)) (some ((r0.1,r1.1),r5.2))) (bnd (z0i.f k r2.2) fun r6=>br (bnot (ieq r6.1 0)) (some (((zarr 16 0),[]),r6.2)) (some ((r0.1,r1.1),r6.2)))) (bnd (z0i.f k r2.2) fun r7=>br (bnot (ieq r7.1 0)) (some (((zarr 16 0),[]),r7.2)) (some ((r0.1,r1.1),r7.2))):=by kernel_rfl
def z2p.e (k:Nat):Entry:=Sg.entry z2p.sg fun x=>z2p.f k x
theorem z2p.ok (k:Nat):CallOK Tryz.prog 160 (z2p.e k):=fn_ok (c:=z2p.cx k) (code:=z2p.body) (TT.of tt_ok pp_ok mm_ok) (fns_ok ⟨(z2B.ok k),(z0M.ok k),(z0i.ok k),(z1I.ok k),(z0o.ok k),trivial⟩) mixed Tryz.func160 (by kernel_rfl) (by kernel_rfl) (by kernel_rfl) (by kernel_rfl) (by kernel_rfl) (by kernel_rfl) (fun x=>by kernel_rfl)
def z1d.body:Go.Code:=Tryz.f130.body.getD .skip
def z1d.rs:List Go.ResultVar:=Tryz.f130.results.toList
def z1d.regs:List (Nat × RInfo):=[(0,ri [0] []),(1,ri [0,3] []),(2,ri [3,6,7,8] []),(3,⟨[3,6,7,8,9],[],[],[],0,[3,6,7,8],[],[],[],[]⟩),(4,⟨[3,5,6,7,8],[5],[3],[],0,[],[],[],[],[]⟩),(5,⟨[3,6,7,8],[],[0,4,5],[],0,[],[],[],[],[]⟩),(6,ri [3,6,7,8] []),(7,⟨[2],[],[0,1],[],0,[],[],[],[],[]⟩)]
def z1d.cx (k:Nat):Cx:=⟨tt,pp,[],z1d.regs,k,mm⟩
@[reducible] def z1d.sg:Sg:=⟨[.dat (.slc tTxn)],[],.own tDot,[]⟩
def z1d.f (k:Nat) (a0:Ty.D (.slc tTxn)):Option (Sg.Out z1d.sg):=Sg.fn z1d.sg (z1d.cx k) z1d.body z1d.rs a0
def z1d.l3 (k:Nat) (n:Nat) (x3:List (Ty.D tDot)) (x6:Ty.D (.slc tTxn)) (x7:Ty.D (.int .i64)) (x8:Ty.D (.int .i64)):Option (Sg.Out z1d.sg):=loopAt (z1d.cx k) z1d.body [1,1,0,1,0] 3 [3,6,7,8] [] [] (Sg.K z1d.sg (z1d.cx k) z1d.rs) n ⟨[(3,.own tDot x3),(6,.dat (.slc tTxn) x6),(7,.dat (.int .i64) x7),(8,.dat (.int .i64) x8)],[]⟩
theorem z1d.f_eq (k:Nat) (a0:Ty.D (.slc tTxn)):z1d.f k a0=z1d.l3 k k [] a0 (ilen a0) 0:=by kernel_rfl
theorem z1d.l3_eq (k:Nat) (n3:Nat) (x3:List (Ty.D tDot)) (x6:Ty.D (.slc tTxn)) (x7:Ty.D (.int .i64)) (x8:Ty.D (.int .i64)):z1d.l3 k (n3+1) x3 x6 x7 x8=br (ilt x8 x7) (br (inL x8 x6) (br (room x3 ((rd tTxn x6 (natOf x8)).1::[])) (z1d.l3 k n3 (app x3 ((rd tTxn x6 (natOf x8)).1::[])) x6 x7 (iadd .i64 x8 1)) none) none) (some x3):=by kernel_rfl
def z1d.e (k:Nat):Entry:=Sg.entry z1d.sg fun x=>z1d.f k x
theorem z1d.ok (k:Nat):CallOK Tryz.prog 130 (z1d.e k):=fn_ok (c:=z1d.cx k) (code:=z1d.body) (TT.of tt_ok pp_ok mm_ok) (fns_ok trivial) mixed Tryz.func130 (by kernel_rfl) (by kernel_rfl) (by kernel_rfl) (by kernel_rfl) (by kernel_rfl) (by kernel_rfl) (fun x=>by kernel_rfl)
def z2c.body:Go.Code:=Tryz.f183.body.getD .skip
def z2c.rs:List Go.ResultVar:=Tryz.f183.results.toList
def z2c.regs:List (Nat × RInfo):=[(0,ri [1,2,4] [2,4]),(1,⟨[1,4,5],[4,5],[3],[],0,[],[],[],[],[]⟩),(2,ri [4,5,10,11,12] [4,5]),(3,⟨[4,5,10,11,12,13],[4,5],[],[],0,[4,5,10,11,12],[4,5],[],[],[]⟩),(4,ri [4,5,7,10,11,12] [4,5,7]),(5,rq [4,5,7,10,11,12,16] [4,5,7] 9),(6,rq [4,5,7,10,11,12,25] [4,5,7] 10),(7,ri [4,5,10,11,12] [4,5]),(8,rq [4,5,7,10,11,12,41] [4,5,7] 17),(9,⟨[4,5,10,11,12],[4,5],[1,4,6],[],0,[],[],[],[],[]⟩),(10,ri [4,5,10,11,12] [4,5]),(11,⟨[4],[4],[1],[],0,[],[],[],[],[]⟩)]
def z2c.cx (k:Nat):Cx:=⟨tt,pp,[],z2c.regs,k,mm⟩
@[reducible] def z2c.sg:Sg:=⟨[.dat tVec,.dat (.slc tDot)],[],.dat tDots,[]⟩
def z2c.f (k:Nat) (a0:Ty.D tVec) (a1:Ty.D (.slc tDot)):Option (Sg.Out z2c.sg):=Sg.fn z2c.sg (z2c.cx k) z2c.body z2c.rs (a0,a1)
def z2c.l3 (k:Nat) (n:Nat) (x10:Ty.D (.slc tDot)) (x11:Ty.D (.int .i64)) (x12:Ty.D (.int .i64)) (m4a:Ty.D tVec) (m4b:List (Ty.D tDot)) (m5a:Ty.D tVec) (m5b:List (Ty.D tDot)):Option (Sg.Out z2c.sg):=loopAt (z2c.cx k) z2c.body [1,1,0,1,0] 3 [4,5,10,11,12] [4,5] [] (Sg.K z2c.sg (z2c.cx k) z2c.rs) n ⟨[(4,.ref 4 []),(5,.ref 5 []),(10,.dat (.slc tDot) x10),(11,.dat (.int .i64) x11),(12,.dat (.int .i64) x12)],[(4,.pr (.dat tVec m4a) (.own tDot m4b)),(5,.pr (.dat tVec m5a) (.own tDot m5b))]⟩
theorem z2c.f_eq (k:Nat) (a0:Ty.D tVec) (a1:Ty.D (.slc tDot)):z2c.f k a0 a1=z2c.l3 k k a1 (ilen a1) 0 (zarr 16 0) [] a0 []:=by kernel_rfl
theorem z2c.l3_eq (k:Nat) (n3:Nat) (x10:Ty.D (.slc tDot)) (x11:Ty.D (.int .i64)) (x12:Ty.D (.int .i64)) (m4a:Ty.D tVec) (m4b:List (Ty.D tDot)) (m5a:Ty.D tVec) (m5b:List (Ty.D tDot)):z2c.l3 k (n3+1) x10 x11 x12 m4a m4b m5a m5b=br (ilt x12 x11) (br (inL x12 x10) (br (inB ((rd tDot x10 (natOf x12)).1) 16) (br (ile ((rd tDot x10 (natOf x12)).2) (rd (.int .i64) m5a (natOf ((rd tDot x10 (natOf x12)).1)))) (z2c.l3 k n3 x10 x11 (iadd .i64 x12 1) m4a m4b m5a m5b) (br (inB ((rd tDot x10 (natOf x12)).1) 16) (br (ieq ((rd tDot x10 (natOf x12)).2) (iadd .i64 (rd (.int .i64) m5a (natOf ((rd tDot x10 (natOf x12)).1))) 1)) (br (inB ((rd tDot x10 (natOf x12)).1) 16) (z2c.l3 k n3 x10 x11 (iadd .i64 x12 1) m4a m4b (upd m5a (natOf ((rd tDot x10 (natOf x12)).1)) ((rd tDot x10 (natOf x12)).2)) m5b) none) (br (ieq (ilen m5b) 0) (br (room m5b ((rd tDot x10 (natOf x12))::[])) (z2c.l3 k n3 x10 x11 (iadd .i64 x12 1) m4a m4b m5a (app m5b ((rd tDot x10 (natOf x12))::[]))) none) (br (inL (isub .i64 (ilen m5b) 1) m5b) (br (bnot (deq tDot (rd tDot m5b (natOf (isub .i64 (ilen m5b) 1))) (rd tDot x10 (natOf x12)))) (br (room m5b ((rd tDot x10 (natOf x12))::[])) (z2c.l3 k n3 x10 x11 (iadd .i64 x12 1) m4a m4b m5a (app m5b ((rd tDot x10 (natOf x12))::[]))) none) (z2c.l3 k n3 x10 x11 (iadd .i64 x12 1) m4a m4b m5a m5b)) none))) none)) none) none) (some (m5a,m5b)):=by kernel_rfl
def z2c.e (k:Nat):Entry:=Sg.entry z2c.sg fun x=>z2c.f k x.1 x.2
theorem z2c.ok (k:Nat):CallOK Tryz.prog 183 (z2c.e k):=fn_ok (c:=z2c.cx k) (code:=z2c.body) (TT.of tt_ok pp_ok mm_ok) (fns_ok trivial) mixed Tryz.func183 (by kernel_rfl) (by kernel_rfl) (by kernel_rfl) (by kernel_rfl) (by kernel_rfl) (by kernel_rfl) (fun x=>by kernel_rfl)
def z2S.body:Go.Code:=Tryz.f129.body.getD .skip
def z2S.rs:List Go.ResultVar:=Tryz.f129.results.toList
def z2S.regs:List (Nat × RInfo):=[(0,ri [0,2] [2,5]),(1,⟨[0,2],[2,5],[2,3],[],0,[],[],[],[],[]⟩),(2,⟨[0,2],[2,5],[0,1],[0],0,[],[],[],[],[]⟩),(3,⟨[2],[2],[3],[],0,[],[],[0,2],[],[]⟩)]
def z2S.cx (k:Nat):Cx:=⟨tt,pp,[(138,(cloneE tDot)),(180,(delE tDot 181 dotKeep)),(182,(sortE tDot 176 dotLt)),(176,(z12.e k)),(183,(z2c.e k))],z2S.regs,k,mm⟩
@[reducible] def z2S.sg:Sg:=⟨[.dat (.slc tDot)],[],.dat tDots,[]⟩
def z2S.f (k:Nat) (a0:Ty.D (.slc tDot)):Option (Sg.Out z2S.sg):=Sg.fn z2S.sg (z2S.cx k) z2S.body z2S.rs a0
theorem z2S.f_eq (k:Nat) (a0:Ty.D (.slc tDot)):z2S.f k a0=br (room ([]:List Int) a0) (br (room ([]:List Int) a0) (br (room ([]:List Int) (kept dotKeep a0)) (bnd (z2c.f k (zarr 16 0) (isort dotLt (kept dotKeep a0))) fun r0=>some r0) none) none) none:=by kernel_rfl
def z2S.e (k:Nat):Entry:=Sg.entry z2S.sg fun x=>z2S.f k x
theorem z2S.ok (k:Nat):CallOK Tryz.prog 129 (z2S.e k):=fn_ok (c:=z2S.cx k) (code:=z2S.body) (TT.of tt_ok pp_ok mm_ok) (fns_ok ⟨cloneDot_ok,delDot_ok,sortDot_ok,(z12.ok k),(z2c.ok k),trivial⟩) mixed Tryz.func129 (by kernel_rfl) (by kernel_rfl) (by kernel_rfl) (by kernel_rfl) (by kernel_rfl) (by kernel_rfl) (fun x=>by kernel_rfl)
def z0e.body:Go.Code:=Tryz.f179.body.getD .skip
def z0e.rs:List Go.ResultVar:=Tryz.f179.results.toList
def z0e.regs:List (Nat × RInfo):=[(0,ri [0,1] []),(1,ri [0,1,10] []),(2,ri [4] []),(3,ri [0,1,12,13] []),(4,⟨[0,1,12,13,14],[],[],[],0,[0,1,12,13],[],[],[],[]⟩),(5,ri [0,1,5,12,13] []),(6,rq [0,1,12,13,24] [] 9),(7,ri [4] []),(8,ri [0,1,12,13] []),(9,ri [4] [])]
def z0e.cx (k:Nat):Cx:=⟨tt,pp,[],z0e.regs,k,mm⟩
@[reducible] def z0e.sg:Sg:=⟨[.dat (.slc tDot),.dat (.slc tDot)],[],.dat .bool,[]⟩
def z0e.f (k:Nat) (a0:Ty.D (.slc tDot)) (a1:Ty.D (.slc tDot)):Option (Sg.Out z0e.sg):=Sg.fn z0e.sg (z0e.cx k) z0e.body z0e.rs (a0,a1)
def z0e.l4 (k:Nat) (n:Nat) (x0:Ty.D (.slc tDot)) (x1:Ty.D (.slc tDot)) (x12:Ty.D (.int .i64)) (x13:Ty.D (.int .i64)):Option (Sg.Out z0e.sg):=loopAt (z0e.cx k) z0e.body [1,1,0,1,0] 4 [0,1,12,13] [] [] (Sg.K z0e.sg (z0e.cx k) z0e.rs) n ⟨[(0,.dat (.slc tDot) x0),(1,.dat (.slc tDot) x1),(12,.dat (.int .i64) x12),(13,.dat (.int .i64) x13)],[]⟩
theorem z0e.f_eq (k:Nat) (a0:Ty.D (.slc tDot)) (a1:Ty.D (.slc tDot)):z0e.f k a0 a1=br (bnot (ieq (ilen a0) (ilen a1))) (some false) (z0e.l4 k k a0 a1 (ilen a0) 0):=by kernel_rfl
theorem z0e.l4_eq (k:Nat) (n4:Nat) (x0:Ty.D (.slc tDot)) (x1:Ty.D (.slc tDot)) (x12:Ty.D (.int .i64)) (x13:Ty.D (.int .i64)):z0e.l4 k (n4+1) x0 x1 x12 x13=br (ilt x13 x12) (br (inL x13 x0) (br (inL x13 x1) (br (bnot (deq tDot (rd tDot x0 (natOf x13)) (rd tDot x1 (natOf x13)))) (some false) (z0e.l4 k n4 x0 x1 x12 (iadd .i64 x13 1))) none) none) (some true):=by kernel_rfl
def z0e.e (k:Nat):Entry:=Sg.entry z0e.sg fun x=>z0e.f k x.1 x.2
theorem z0e.ok (k:Nat):CallOK Tryz.prog 179 (z0e.e k):=fn_ok (c:=z0e.cx k) (code:=z0e.body) (TT.of tt_ok pp_ok mm_ok) (fns_ok trivial) mixed Tryz.func179 (by kernel_rfl) (by kernel_rfl) (by kernel_rfl) (by kernel_rfl) (by kernel_rfl) (by kernel_rfl) (fun x=>by kernel_rfl)
def z2k.body:Go.Code:=Tryz.f128.body.getD .skip
def z2k.rs:List Go.ResultVar:=Tryz.f128.results.toList
def z2k.regs:List (Nat × RInfo):=[(0,⟨[2,3],[2,3],[0,1],[],0,[],[],[],[],[]⟩),(1,ri [4] [15])]
def z2k.cx (k:Nat):Cx:=⟨tt,pp,[(179,(z0e.e k))],z2k.regs,k,mm⟩
@[reducible] def z2k.sg:Sg:=⟨[.dat tDots,.dat tDots],[],.dat .bool,[]⟩
def z2k.f (k:Nat) (a0:Ty.D tDots) (a1:Ty.D tDots):Option (Sg.Out z2k.sg):=Sg.fn z2k.sg (z2k.cx k) z2k.body z2k.rs (a0,a1)
theorem z2k.f_eq (k:Nat) (a0:Ty.D tDots) (a1:Ty.D tDots):z2k.f k a0 a1=br (deq tVec a0.1 a1.1) (bnd (z0e.f k a0.2 a1.2) fun r0=>some r0) (some false):=by kernel_rfl
def z2k.e (k:Nat):Entry:=Sg.entry z2k.sg fun x=>z2k.f k x.1 x.2
theorem z2k.ok (k:Nat):CallOK Tryz.prog 128 (z2k.e k):=fn_ok (c:=z2k.cx k) (code:=z2k.body) (TT.of tt_ok pp_ok mm_ok) (fns_ok ⟨(z0e.ok k),trivial⟩) mixed Tryz.func128 (by kernel_rfl) (by kernel_rfl) (by kernel_rfl) (by kernel_rfl) (by kernel_rfl) (by kernel_rfl) (fun x=>by kernel_rfl)
def z0H.body:Go.Code:=Tryz.f131.body.getD .skip
def z0H.rs:List Go.ResultVar:=Tryz.f131.results.toList
def z0H.regs:List (Nat × RInfo):=[(0,⟨[1],[1],[0],[],0,[],[],[],[],[]⟩),(1,ri [2] [])]
def z0H.cx (k:Nat):Cx:=⟨tt,pp,[(50,(z2o.e k))],z0H.regs,k,mm⟩
@[reducible] def z0H.sg:Sg:=⟨[.dat tTxn],[],.dat .bool,[]⟩
def z0H.f (k:Nat) (a0:Ty.D tTxn):Option (Sg.Out z0H.sg):=Sg.fn z0H.sg (z0H.cx k) z0H.body z0H.rs a0
theorem z0H.f_eq (k:Nat) (a0:Ty.D tTxn):z0H.f k a0=bnd (z2o.f k a0) fun r0=>some (bnot (ieq r0 0)):=by kernel_rfl
def z0H.e (k:Nat):Entry:=Sg.entry z0H.sg fun x=>z0H.f k x
theorem z0H.ok (k:Nat):CallOK Tryz.prog 131 (z0H.e k):=fn_ok (c:=z0H.cx k) (code:=z0H.body) (TT.of tt_ok pp_ok mm_ok) (fns_ok ⟨(z2o.ok k),trivial⟩) mixed Tryz.func131 (by kernel_rfl) (by kernel_rfl) (by kernel_rfl) (by kernel_rfl) (by kernel_rfl) (by kernel_rfl) (fun x=>by kernel_rfl)
def z0a.body:Go.Code:=Tryz.f177.body.getD .skip
def z0a.rs:List Go.ResultVar:=Tryz.f177.results.toList
def z0a.regs:List (Nat × RInfo):=[(0,ri [0,1] []),(1,ri [0,1,7,8] []),(2,⟨[0,1,7,8,9],[],[],[],0,[0,1,7,8],[],[],[],[]⟩),(3,ri [0,1,5,7,8] []),(4,ri [0,1,5,7,8,16] [16]),(5,ri [4] []),(6,ri [0,1,7,8] []),(7,ri [4] [])]
def z0a.cx (k:Nat):Cx:=⟨tt,pp,[(131,(z0H.e k))],z0a.regs,k,mm⟩
@[reducible] def z0a.sg:Sg:=⟨[.dat (.slc tTxn),.fn 131 0],[],.dat (.int .i64),[]⟩
def z0a.f (k:Nat) (a0:Ty.D (.slc tTxn)):Option (Sg.Out z0a.sg):=Sg.fn z0a.sg (z0a.cx k) z0a.body z0a.rs a0
def z0a.l2 (k:Nat) (n:Nat) (x0:Ty.D (.slc tTxn)) (x7:Ty.D (.int .i64)) (x8:Ty.D (.int .i64)):Option (Sg.Out z0a.sg):=loopAt (z0a.cx k) z0a.body [1,0,1,0] 2 [0,1,7,8] [] [] (Sg.K z0a.sg (z0a.cx k) z0a.rs) n ⟨[(0,.dat (.slc tTxn) x0),(1,.fn 131 []),(7,.dat (.int .i64) x7),(8,.dat (.int .i64) x8)],[]⟩
theorem z0a.f_eq (k:Nat) (a0:Ty.D (.slc tTxn)):z0a.f k a0=z0a.l2 k k a0 (ilen a0) 0:=by kernel_rfl
theorem z0a.l2_eq (k:Nat) (n2:Nat) (x0:Ty.D (.slc tTxn)) (x7:Ty.D (.int .i64)) (x8:Ty.D (.int .i64)):z0a.l2 k (n2+1) x0 x7 x8=br (ilt x8 x7) (br (inL x8 x0) (bnd (z0H.f k (rd tTxn x0 (natOf x8))) fun r0=>br r0 (some x8) (z0a.l2 k n2 x0 x7 (iadd .i64 x8 1))) none) (some (-1)):=by kernel_rfl
def z0a.e (k:Nat):Entry:=Sg.entry z0a.sg fun x=>z0a.f k x
theorem z0a.ok (k:Nat):CallOK Tryz.prog 177 (z0a.e k):=fn_ok (c:=z0a.cx k) (code:=z0a.body) (TT.of tt_ok pp_ok mm_ok) (fns_ok ⟨(z0H.ok k),trivial⟩) mixed Tryz.func177 (by kernel_rfl) (by kernel_rfl) (by kernel_rfl) (by kernel_rfl) (by kernel_rfl) (by kernel_rfl) (fun x=>by kernel_rfl)
def z05.body:Go.Code:=Tryz.f126.body.getD .skip
def z05.rs:List Go.ResultVar:=Tryz.f126.results.toList
def z05.regs:List (Nat × RInfo):=[(0,ri [0,1] []),(1,ri [4] [])]
def z05.cx (k:Nat):Cx:=⟨tt,pp,[(177,(z0a.e k)),(131,(z0H.e k))],z05.regs,k,mm⟩
@[reducible] def z05.sg:Sg:=⟨[.dat (.slc tTxn),.fn 131 0],[],.dat .bool,[]⟩
def z05.f (k:Nat) (a0:Ty.D (.slc tTxn)):Option (Sg.Out z05.sg):=Sg.fn z05.sg (z05.cx k) z05.body z05.rs a0
theorem z05.f_eq (k:Nat) (a0:Ty.D (.slc tTxn)):z05.f k a0=bnd (z0a.f k a0) fun r0=>some (ile 0 r0):=by kernel_rfl
def z05.e (k:Nat):Entry:=Sg.entry z05.sg fun x=>z05.f k x
theorem z05.ok (k:Nat):CallOK Tryz.prog 126 (z05.e k):=fn_ok (c:=z05.cx k) (code:=z05.body) (TT.of tt_ok pp_ok mm_ok) (fns_ok ⟨(z0a.ok k),(z0H.ok k),trivial⟩) mixed Tryz.func126 (by kernel_rfl) (by kernel_rfl) (by kernel_rfl) (by kernel_rfl) (by kernel_rfl) (by kernel_rfl) (fun x=>by kernel_rfl)
def z0L.body:Go.Code:=Tryz.f132.body.getD .skip
def z0L.rs:List Go.ResultVar:=Tryz.f132.results.toList
def z0L.regs:List (Nat × RInfo):=[(0,ri [1] [1]),(1,ri [2] [])]
def z0L.cx (k:Nat):Cx:=⟨tt,pp,[(119,(z2t.e k))],z0L.regs,k,mm⟩
@[reducible] def z0L.sg:Sg:=⟨[.dat tDot],[],.dat .bool,[]⟩
def z0L.f (k:Nat) (a0:Ty.D tDot):Option (Sg.Out z0L.sg):=Sg.fn z0L.sg (z0L.cx k) z0L.body z0L.rs a0
theorem z0L.f_eq (k:Nat) (a0:Ty.D tDot):z0L.f k a0=bnd (z2t.f k a0) fun r0=>some (bnot r0):=by kernel_rfl
def z0L.e (k:Nat):Entry:=Sg.entry z0L.sg fun x=>z0L.f k x
theorem z0L.ok (k:Nat):CallOK Tryz.prog 132 (z0L.e k):=fn_ok (c:=z0L.cx k) (code:=z0L.body) (TT.of tt_ok pp_ok mm_ok) (fns_ok ⟨(z2t.ok k),trivial⟩) mixed Tryz.func132 (by kernel_rfl) (by kernel_rfl) (by kernel_rfl) (by kernel_rfl) (by kernel_rfl) (by kernel_rfl) (fun x=>by kernel_rfl)
def z0b.body:Go.Code:=Tryz.f178.body.getD .skip
def z0b.rs:List Go.ResultVar:=Tryz.f178.results.toList
def z0b.regs:List (Nat × RInfo):=[(0,ri [0,1] []),(1,ri [0,1,7,8] []),(2,⟨[0,1,7,8,9],[],[],[],0,[0,1,7,8],[],[],[],[]⟩),(3,ri [0,1,5,7,8] []),(4,ri [0,1,5,7,8,16] [16]),(5,ri [4] []),(6,ri [0,1,7,8] []),(7,ri [4] [])]
def z0b.cx (k:Nat):Cx:=⟨tt,pp,[(132,(z0L.e k))],z0b.regs,k,mm⟩
@[reducible] def z0b.sg:Sg:=⟨[.dat (.slc tDot),.fn 132 0],[],.dat (.int .i64),[]⟩
def z0b.f (k:Nat) (a0:Ty.D (.slc tDot)):Option (Sg.Out z0b.sg):=Sg.fn z0b.sg (z0b.cx k) z0b.body z0b.rs a0
def z0b.l2 (k:Nat) (n:Nat) (x0:Ty.D (.slc tDot)) (x7:Ty.D (.int .i64)) (x8:Ty.D (.int .i64)):Option (Sg.Out z0b.sg):=loopAt (z0b.cx k) z0b.body [1,0,1,0] 2 [0,1,7,8] [] [] (Sg.K z0b.sg (z0b.cx k) z0b.rs) n ⟨[(0,.dat (.slc tDot) x0),(1,.fn 132 []),(7,.dat (.int .i64) x7),(8,.dat (.int .i64) x8)],[]⟩
theorem z0b.f_eq (k:Nat) (a0:Ty.D (.slc tDot)):z0b.f k a0=z0b.l2 k k a0 (ilen a0) 0:=by kernel_rfl
theorem z0b.l2_eq (k:Nat) (n2:Nat) (x0:Ty.D (.slc tDot)) (x7:Ty.D (.int .i64)) (x8:Ty.D (.int .i64)):z0b.l2 k (n2+1) x0 x7 x8=br (ilt x8 x7) (br (inL x8 x0) (bnd (z0L.f k (rd tDot x0 (natOf x8))) fun r0=>br r0 (some x8) (z0b.l2 k n2 x0 x7 (iadd .i64 x8 1))) none) (some (-1)):=by kernel_rfl
def z0b.e (k:Nat):Entry:=Sg.entry z0b.sg fun x=>z0b.f k x
theorem z0b.ok (k:Nat):CallOK Tryz.prog 178 (z0b.e k):=fn_ok (c:=z0b.cx k) (code:=z0b.body) (TT.of tt_ok pp_ok mm_ok) (fns_ok ⟨(z0L.ok k),trivial⟩) mixed Tryz.func178 (by kernel_rfl) (by kernel_rfl) (by kernel_rfl) (by kernel_rfl) (by kernel_rfl) (by kernel_rfl) (fun x=>by kernel_rfl)
def z06.body:Go.Code:=Tryz.f127.body.getD .skip
def z06.rs:List Go.ResultVar:=Tryz.f127.results.toList
def z06.regs:List (Nat × RInfo):=[(0,ri [0,1] []),(1,ri [4] [])]
def z06.cx (k:Nat):Cx:=⟨tt,pp,[(178,(z0b.e k)),(132,(z0L.e k))],z06.regs,k,mm⟩
@[reducible] def z06.sg:Sg:=⟨[.dat (.slc tDot),.fn 132 0],[],.dat .bool,[]⟩
def z06.f (k:Nat) (a0:Ty.D (.slc tDot)):Option (Sg.Out z06.sg):=Sg.fn z06.sg (z06.cx k) z06.body z06.rs a0
theorem z06.f_eq (k:Nat) (a0:Ty.D (.slc tDot)):z06.f k a0=bnd (z0b.f k a0) fun r0=>some (ile 0 r0):=by kernel_rfl
def z06.e (k:Nat):Entry:=Sg.entry z06.sg fun x=>z06.f k x
theorem z06.ok (k:Nat):CallOK Tryz.prog 127 (z06.e k):=fn_ok (c:=z06.cx k) (code:=z06.body) (TT.of tt_ok pp_ok mm_ok) (fns_ok ⟨(z0b.ok k),(z0L.ok k),trivial⟩) mixed Tryz.func127 (by kernel_rfl) (by kernel_rfl) (by kernel_rfl) (by kernel_rfl) (by kernel_rfl) (by kernel_rfl) (fun x=>by kernel_rfl)
def z1p.body:Go.Code:=Tryz.f54.body.getD .skip
def z1p.rs:List Go.ResultVar:=Tryz.f54.results.toList
def z1p.regs:List (Nat × RInfo):=[(0,⟨[1],[1],[0],[],0,[],[],[],[],[]⟩),(1,rq [1,30] [1] 26),(2,ri [2] [49,53]),(3,ri [1,33] [1,33]),(4,ri [2] [49,53]),(5,ri [1,35,36] [1]),(6,⟨[1,35,36,37],[1],[],[],0,[1,35,36],[1],[],[],[]⟩),(7,⟨[1,4,35,36],[1],[1],[],0,[],[],[],[],[]⟩),(8,ri [1,35,36,45] [1,44]),(9,ri [2] [49,53]),(10,ri [1,35,36] [1]),(11,ri [2] [49,53])]
def z1p.cx (k:Nat):Cx:=⟨tt,pp,[(125,(z2m.e k)),(52,(z1e.e k)),(130,(z1d.e k)),(129,(z2S.e k)),(128,(z2k.e k)),(126,(z05.e k)),(131,(z0H.e k)),(127,(z06.e k)),(132,(z0L.e k)),(133,(z1I.e k))],z1p.regs,k,mm⟩
@[reducible] def z1p.sg:Sg:=⟨[.dat tState],[],.dat .bool,[]⟩
def z1p.f (k:Nat) (a0:Ty.D tState):Option (Sg.Out z1p.sg):=Sg.fn z1p.sg (z1p.cx k) z1p.body z1p.rs a0
def z1p.l6 (k:Nat) (n:Nat) (x35:Ty.D (.arr 8 (.slc tDot))) (x36:Ty.D (.int .i64)) (m1:Ty.D tState):Option (Sg.Out z1p.sg):=loopAt (z1p.cx k) z1p.body [1,1,1,0,1,0] 6 [1,35,36] [1] [] (Sg.K z1p.sg (z1p.cx k) z1p.rs) n ⟨[(1,.ref 1 []),(35,.dat (.arr 8 (.slc tDot)) x35),(36,.dat (.int .i64) x36)],[(1,.dat tState m1)]⟩
theorem z1p.f_eq (k:Nat) (a0:Ty.D tState):z1p.f k a0=br (ilt 1000 (ilen a0.1)) (some false) (bnd (z2m.f k a0.1) fun r0=>br (bnot r0) (some false) (bnd (z1e.f k a0.2.1) fun r1=>br (bnot r1) (some false) (bnd (z1d.f k a0.1) fun r2=>bnd (z2S.f k r2) fun r3=>bnd (z2k.f k a0.2.2.1 r3) fun r4=>br (bnot r4) (some false) (bnd (z05.f k a0.1) fun r5=>br r5 (some false) (z1p.l6 k k a0.2.2.2.2 0 a0))))):=by kernel_rfl
theorem z1p.l6_eq (k:Nat) (n6:Nat) (x35:Ty.D (.arr 8 (.slc tDot))) (x36:Ty.D (.int .i64)) (m1:Ty.D tState):z1p.l6 k (n6+1) x35 x36 m1=br (ilt x36 8) (br (inB x36 8) (br (ilt 1000 (ilen (rd (.slc tDot) x35 (natOf x36)))) (some false) (bnd (z06.f k (rd (.slc tDot) x35 (natOf x36))) fun r0=>br r0 (some false) (z1p.l6 k n6 x35 (iadd .i64 x36 1) m1))) none) (bnd (z1I.f k m1.2.2.1) fun r1=>br r1 (bnd (z1I.f k m1.2.2.2.1) fun r2=>some r2) (some false)):=by kernel_rfl
def z1p.e (k:Nat):Entry:=Sg.entry z1p.sg fun x=>z1p.f k x
theorem z1p.ok (k:Nat):CallOK Tryz.prog 54 (z1p.e k):=fn_ok (c:=z1p.cx k) (code:=z1p.body) (TT.of tt_ok pp_ok mm_ok) (fns_ok ⟨(z2m.ok k),(z1e.ok k),(z1d.ok k),(z2S.ok k),(z2k.ok k),(z05.ok k),(z0H.ok k),(z06.ok k),(z0L.ok k),(z1I.ok k),trivial⟩) mixed Tryz.func54 (by kernel_rfl) (by kernel_rfl) (by kernel_rfl) (by kernel_rfl) (by kernel_rfl) (by kernel_rfl) (fun x=>by kernel_rfl)
def z27.body:Go.Code:=Tryz.f107.body.getD .skip
def z27.rs:List Go.ResultVar:=Tryz.f107.results.toList
def z27.regs:List (Nat × RInfo):=[(0,ri [0,2] [2,1000000]),(1,⟨[0,2,3],[2,3,1000000],[8],[],0,[],[],[],[],[]⟩),(2,ri [0,2,3,12] [2,3,1000000]),(3,⟨[0,2,3,12,13],[2,3,1000000],[],[],0,[0,2,3,12],[2,3,1000000],[],[],[]⟩),(4,ri [0,2,3,4,12] [2,3,1000000]),(5,⟨[0,2,3,12],[2,3,1000000],[5],[],0,[],[],[],[],[]⟩),(6,ri [0,2,3,12] [2,3,1000000]),(7,⟨[0,2,3],[2,3,1000000],[5],[],0,[],[],[],[],[]⟩),(8,ri [0,2,3,33] [2,3,1000000]),(9,ri [0,2,3] [2,3,1000000]),(10,ri [2,3,38] [2,3,1000000]),(11,⟨[2],[2,1000000],[1],[],0,[],[],[],[],[]⟩),(12,⟨[2],[2,1000000],[1],[],0,[],[],[],[],[]⟩)]
def z27.cx (k:Nat):Cx:=⟨tt,pp,[(92,(z0U.e k)),(93,(z1w.e k)),(160,(z2p.e k)),(94,(z0M.e k)),(130,(z1d.e k)),(129,(z2S.e k)),(34,(z0i.e k)),(54,(z1p.e k)),(89,(z0o.e k))],z27.regs,k,mm⟩
@[reducible] def z27.sg:Sg:=⟨[.ref],[tpackReader],.dat tState,[tpackReader]⟩
def z27.f (k:Nat) (o0:Ty.D tpackReader):Option (Sg.Out z27.sg):=Sg.fn z27.sg (z27.cx k) z27.body z27.rs o0
def z27.l3 (k:Nat) (n:Nat) (x12:Ty.D (.int .i64)) (m2a:List (Ty.D tTxn)) (m2ba:List (Ty.D tUndo)) (m2bbaa:Ty.D tVec) (m2bbab:List (Ty.D tDot)) (m2bbbaa:Ty.D tVec) (m2bbbab:List (Ty.D tDot)) (m2bbbb:Ty.D (.arr 8 (.slc tDot))) (m3a:Ty.D (.slc tTxn)) (m3ba:Ty.D (.slc tUndo)) (m3bbaa:Ty.D tVec) (m3bbab:List (Ty.D tDot)) (m3bbb:Ty.D (.pair tDots (.arr 8 (.slc tDot)))) (m1000000:Ty.D tpackReader):Option (Sg.Out z27.sg):=loopAt (z27.cx k) z27.body [1,1,0,1,0] 3 [0,2,3,12] [2,3,1000000] [] (Sg.K z27.sg (z27.cx k) z27.rs) n ⟨[(0,.ref 1000000 []),(2,.ref 2 []),(3,.ref 3 []),(12,.dat (.int .i64) x12)],[(2,.pr (.own tTxn m2a) (.pr (.own tUndo m2ba) (.pr (.pr (.dat tVec m2bbaa) (.own tDot m2bbab)) (.pr (.pr (.dat tVec m2bbbaa) (.own tDot m2bbbab)) (.dat (.arr 8 (.slc tDot)) m2bbbb))))),(3,.pr (.dat (.slc tTxn) m3a) (.pr (.dat (.slc tUndo) m3ba) (.pr (.pr (.dat tVec m3bbaa) (.own tDot m3bbab)) (.dat (.pair tDots (.arr 8 (.slc tDot))) m3bbb)))),(1000000,.dat tpackReader m1000000)]⟩
theorem z27.f_eq (k:Nat) (o0:Ty.D tpackReader):z27.f k o0=bnd (z0U.f k 1000 o0) fun r0=>bnd (z1w.f k 1048576 r0.2) fun r1=>bnd (z2p.f k r1.2) fun r2=>z27.l3 k k 0 [] [] (zarr 16 0) [] (zarr 16 0) [] (zarr 8 []) r0.1 r1.1 (zarr 16 0) [] (r2.1,(zarr 8 [])) r2.2:=by kernel_rfl
theorem z27.l3_eq (k:Nat) (n3:Nat) (x12:Ty.D (.int .i64)) (m2a:List (Ty.D tTxn)) (m2ba:List (Ty.D tUndo)) (m2bbaa:Ty.D tVec) (m2bbab:List (Ty.D tDot)) (m2bbbaa:Ty.D tVec) (m2bbbab:List (Ty.D tDot)) (m2bbbb:Ty.D (.arr 8 (.slc tDot))) (m3a:Ty.D (.slc tTxn)) (m3ba:Ty.D (.slc tUndo)) (m3bbaa:Ty.D tVec) (m3bbab:List (Ty.D tDot)) (m3bbb:Ty.D (.pair tDots (.arr 8 (.slc tDot)))) (m1000000:Ty.D tpackReader):z27.l3 k (n3+1) x12 m2a m2ba m2bbaa m2bbab m2bbbaa m2bbbab m2bbbb m3a m3ba m3bbaa m3bbab m3bbb m1000000=br (ilt x12 8) (bnd (z0M.f k 1000 m1000000) fun r0=>br (inB x12 8) (z27.l3 k n3 (iadd .i64 x12 1) m2a m2ba m2bbaa m2bbab m2bbbaa m2bbbab m2bbbb m3a m3ba m3bbaa m3bbab (m3bbb.1,(upd m3bbb.2 (natOf x12) r0.1)) r0.2) none) (bnd (z1d.f k m3a) fun r1=>bnd (z2S.f k r1) fun r2=>bnd (z0i.f k m1000000) fun r3=>br (ieq r3.1 0) (bnd (z1p.f k (m3a,(m3ba,(r2,m3bbb)))) fun r4=>br (bnot r4) (bnd (z0o.f k 2 r3.2) fun r5=>bnd (z0i.f k r5.2) fun r6=>br (bnot (ieq r6.1 0)) (some (([],([],(((zarr 16 0),[]),(((zarr 16 0),[]),(zarr 8 []))))),r6.2)) (some ((m3a,(m3ba,(r2,m3bbb))),r6.2))) (bnd (z0i.f k r3.2) fun r7=>br (bnot (ieq r7.1 0)) (some (([],([],(((zarr 16 0),[]),(((zarr 16 0),[]),(zarr 8 []))))),r7.2)) (some ((m3a,(m3ba,(r2,m3bbb))),r7.2)))) (bnd (z0i.f k r3.2) fun r8=>br (bnot (ieq r8.1 0)) (some (([],([],(((zarr 16 0),[]),(((zarr 16 0),[]),(zarr 8 []))))),r8.2)) (some ((m3a,(m3ba,(r2,m3bbb))),r8.2)))):=by kernel_rfl
def z27.e (k:Nat):Entry:=Sg.entry z27.sg fun x=>z27.f k x
theorem z27.ok (k:Nat):CallOK Tryz.prog 107 (z27.e k):=fn_ok (c:=z27.cx k) (code:=z27.body) (TT.of tt_ok pp_ok mm_ok) (fns_ok ⟨(z0U.ok k),(z1w.ok k),(z2p.ok k),(z0M.ok k),(z1d.ok k),(z2S.ok k),(z0i.ok k),(z1p.ok k),(z0o.ok k),trivial⟩) mixed Tryz.func107 (by kernel_rfl) (by kernel_rfl) (by kernel_rfl) (by kernel_rfl) (by kernel_rfl) (by kernel_rfl) (fun x=>by kernel_rfl)
def z0p.body:Go.Code:=Tryz.f35.body.getD .skip
def z0p.rs:List Go.ResultVar:=Tryz.f35.results.toList
def z0p.regs:List (Nat × RInfo):=[(0,ri [0] [1000000]),(1,ri [0,5] [1000000]),(2,ri [2] [1000000]),(3,ri [2] [1000000])]
def z0p.cx (k:Nat):Cx:=⟨tt,pp,[(98,(z0q.e k))],z0p.regs,k,mm⟩
@[reducible] def z0p.sg:Sg:=⟨[.ref],[tpackReader],.dat (.int .i64),[tpackReader]⟩
def z0p.f (k:Nat) (o0:Ty.D tpackReader):Option (Sg.Out z0p.sg):=Sg.fn z0p.sg (z0p.cx k) z0p.body z0p.rs o0
theorem z0p.f_eq (k:Nat) (o0:Ty.D tpackReader):z0p.f k o0=bnd (z0q.f k o0) fun r0=>br (bnot r0.1) (some (0,r0.2)) (some ((ilen r0.2.1),r0.2)):=by kernel_rfl
def z0p.e (k:Nat):Entry:=Sg.entry z0p.sg fun x=>z0p.f k x
theorem z0p.ok (k:Nat):CallOK Tryz.prog 35 (z0p.e k):=fn_ok (c:=z0p.cx k) (code:=z0p.body) (TT.of tt_ok pp_ok mm_ok) (fns_ok ⟨(z0q.ok k),trivial⟩) mixed Tryz.func35 (by kernel_rfl) (by kernel_rfl) (by kernel_rfl) (by kernel_rfl) (by kernel_rfl) (by kernel_rfl) (fun x=>by kernel_rfl)
def z0A.body:Go.Code:=Tryz.f41.body.getD .skip
def z0A.rs:List Go.ResultVar:=Tryz.f41.results.toList
def z0A.regs:List (Nat × RInfo):=[(0,ri [0] [1000000]),(1,ri [0,5] [1000000]),(2,ri [0] [1000000]),(3,ri [2] [9,1000000])]
def z0A.cx (k:Nat):Cx:=⟨tt,pp,[(35,(z0p.e k)),(89,(z0o.e k)),(34,(z0i.e k))],z0A.regs,k,mm⟩
@[reducible] def z0A.sg:Sg:=⟨[.ref],[tpackReader],.dat (.int .i64),[tpackReader]⟩
def z0A.f (k:Nat) (o0:Ty.D tpackReader):Option (Sg.Out z0A.sg):=Sg.fn z0A.sg (z0A.cx k) z0A.body z0A.rs o0
theorem z0A.f_eq (k:Nat) (o0:Ty.D tpackReader):z0A.f k o0=bnd (z0p.f k o0) fun r0=>br (ilt 0 r0.1) (bnd (z0o.f k 3 r0.2) fun r1=>bnd (z0i.f k r1.2) fun r2=>some (r2.1,r2.2)) (bnd (z0i.f k r0.2) fun r3=>some (r3.1,r3.2)):=by kernel_rfl
def z0A.e (k:Nat):Entry:=Sg.entry z0A.sg fun x=>z0A.f k x
theorem z0A.ok (k:Nat):CallOK Tryz.prog 41 (z0A.e k):=fn_ok (c:=z0A.cx k) (code:=z0A.body) (TT.of tt_ok pp_ok mm_ok) (fns_ok ⟨(z0p.ok k),(z0o.ok k),(z0i.ok k),trivial⟩) mixed Tryz.func41 (by kernel_rfl) (by kernel_rfl) (by kernel_rfl) (by kernel_rfl) (by kernel_rfl) (by kernel_rfl) (fun x=>by kernel_rfl)
def z0Z.body:Go.Code:=Tryz.f51.body.getD .skip
def z0Z.rs:List Go.ResultVar:=Tryz.f51.results.toList
def z0Z.regs:List (Nat × RInfo):=[(0,ri [0] []),(1,ri [2] [])]
def z0Z.cx (k:Nat):Cx:=⟨tt,pp,[],z0Z.regs,k,mm⟩
@[reducible] def z0Z.sg:Sg:=⟨[.dat (.int .i64)],[],.dat .bool,[]⟩
def z0Z.f (k:Nat) (a0:Ty.D (.int .i64)):Option (Sg.Out z0Z.sg):=Sg.fn z0Z.sg (z0Z.cx k) z0Z.body z0Z.rs a0
theorem z0Z.f_eq (k:Nat) (a0:Ty.D (.int .i64)):z0Z.f k a0=br (ile 0 a0) (some (ilt a0 8)) (some false):=by kernel_rfl
def z0Z.e (k:Nat):Entry:=Sg.entry z0Z.sg fun x=>z0Z.f k x
theorem z0Z.ok (k:Nat):CallOK Tryz.prog 51 (z0Z.e k):=fn_ok (c:=z0Z.cx k) (code:=z0Z.body) (TT.of tt_ok pp_ok mm_ok) (fns_ok trivial) mixed Tryz.func51 (by kernel_rfl) (by kernel_rfl) (by kernel_rfl) (by kernel_rfl) (by kernel_rfl) (by kernel_rfl) (fun x=>by kernel_rfl)
def z0E.body:Go.Code:=Tryz.f123.body.getD .skip
def z0E.rs:List Go.ResultVar:=Tryz.f123.results.toList
def z0E.regs:List (Nat × RInfo):=[(0,⟨[1],[1],[0],[],0,[],[],[],[],[]⟩),(1,ri [2] [])]
def z0E.cx (k:Nat):Cx:=⟨tt,pp,[(50,(z2o.e k))],z0E.regs,k,mm⟩
@[reducible] def z0E.sg:Sg:=⟨[.dat tTxn],[],.dat .bool,[]⟩
def z0E.f (k:Nat) (a0:Ty.D tTxn):Option (Sg.Out z0E.sg):=Sg.fn z0E.sg (z0E.cx k) z0E.body z0E.rs a0
theorem z0E.f_eq (k:Nat) (a0:Ty.D tTxn):z0E.f k a0=bnd (z2o.f k a0) fun r0=>some (bnot (ieq r0 0)):=by kernel_rfl
def z0E.e (k:Nat):Entry:=Sg.entry z0E.sg fun x=>z0E.f k x
theorem z0E.ok (k:Nat):CallOK Tryz.prog 123 (z0E.e k):=fn_ok (c:=z0E.cx k) (code:=z0E.body) (TT.of tt_ok pp_ok mm_ok) (fns_ok ⟨(z2o.ok k),trivial⟩) mixed Tryz.func123 (by kernel_rfl) (by kernel_rfl) (by kernel_rfl) (by kernel_rfl) (by kernel_rfl) (by kernel_rfl) (fun x=>by kernel_rfl)
def z07.body:Go.Code:=Tryz.f177.body.getD .skip
def z07.rs:List Go.ResultVar:=Tryz.f177.results.toList
def z07.regs:List (Nat × RInfo):=[(0,ri [0,1] []),(1,ri [0,1,7,8] []),(2,⟨[0,1,7,8,9],[],[],[],0,[0,1,7,8],[],[],[],[]⟩),(3,ri [0,1,5,7,8] []),(4,ri [0,1,5,7,8,16] [16]),(5,ri [4] []),(6,ri [0,1,7,8] []),(7,ri [4] [])]
def z07.cx (k:Nat):Cx:=⟨tt,pp,[(123,(z0E.e k))],z07.regs,k,mm⟩
@[reducible] def z07.sg:Sg:=⟨[.dat (.slc tTxn),.fn 123 0],[],.dat (.int .i64),[]⟩
def z07.f (k:Nat) (a0:Ty.D (.slc tTxn)):Option (Sg.Out z07.sg):=Sg.fn z07.sg (z07.cx k) z07.body z07.rs a0
def z07.l2 (k:Nat) (n:Nat) (x0:Ty.D (.slc tTxn)) (x7:Ty.D (.int .i64)) (x8:Ty.D (.int .i64)):Option (Sg.Out z07.sg):=loopAt (z07.cx k) z07.body [1,0,1,0] 2 [0,1,7,8] [] [] (Sg.K z07.sg (z07.cx k) z07.rs) n ⟨[(0,.dat (.slc tTxn) x0),(1,.fn 123 []),(7,.dat (.int .i64) x7),(8,.dat (.int .i64) x8)],[]⟩
theorem z07.f_eq (k:Nat) (a0:Ty.D (.slc tTxn)):z07.f k a0=z07.l2 k k a0 (ilen a0) 0:=by kernel_rfl
theorem z07.l2_eq (k:Nat) (n2:Nat) (x0:Ty.D (.slc tTxn)) (x7:Ty.D (.int .i64)) (x8:Ty.D (.int .i64)):z07.l2 k (n2+1) x0 x7 x8=br (ilt x8 x7) (br (inL x8 x0) (bnd (z0E.f k (rd tTxn x0 (natOf x8))) fun r0=>br r0 (some x8) (z07.l2 k n2 x0 x7 (iadd .i64 x8 1))) none) (some (-1)):=by kernel_rfl
def z07.e (k:Nat):Entry:=Sg.entry z07.sg fun x=>z07.f k x
theorem z07.ok (k:Nat):CallOK Tryz.prog 177 (z07.e k):=fn_ok (c:=z07.cx k) (code:=z07.body) (TT.of tt_ok pp_ok mm_ok) (fns_ok ⟨(z0E.ok k),trivial⟩) mixed Tryz.func177 (by kernel_rfl) (by kernel_rfl) (by kernel_rfl) (by kernel_rfl) (by kernel_rfl) (by kernel_rfl) (fun x=>by kernel_rfl)
def z03.body:Go.Code:=Tryz.f126.body.getD .skip
def z03.rs:List Go.ResultVar:=Tryz.f126.results.toList
def z03.regs:List (Nat × RInfo):=[(0,ri [0,1] []),(1,ri [4] [])]
def z03.cx (k:Nat):Cx:=⟨tt,pp,[(177,(Entry.alt z0a.sg (z0a.e k) (z07.e k))),(123,(z0E.e k))],z03.regs,k,mm⟩
@[reducible] def z03.sg:Sg:=⟨[.dat (.slc tTxn),.fn 123 0],[],.dat .bool,[]⟩
def z03.f (k:Nat) (a0:Ty.D (.slc tTxn)):Option (Sg.Out z03.sg):=Sg.fn z03.sg (z03.cx k) z03.body z03.rs a0
theorem z03.f_eq (k:Nat) (a0:Ty.D (.slc tTxn)):z03.f k a0=bnd (z07.f k a0) fun r0=>some (ile 0 r0):=by kernel_rfl
def z03.e (k:Nat):Entry:=Sg.entry z03.sg fun x=>z03.f k x
theorem z03.ok (k:Nat):CallOK Tryz.prog 126 (z03.e k):=fn_ok (c:=z03.cx k) (code:=z03.body) (TT.of tt_ok pp_ok mm_ok) (fns_ok ⟨(alt_ok (z0a.ok k) (z07.ok k)),(z0E.ok k),trivial⟩) mixed Tryz.func126 (by kernel_rfl) (by kernel_rfl) (by kernel_rfl) (by kernel_rfl) (by kernel_rfl) (by kernel_rfl) (fun x=>by kernel_rfl)
def z0F.body:Go.Code:=Tryz.f124.body.getD .skip
def z0F.rs:List Go.ResultVar:=Tryz.f124.results.toList
def z0F.regs:List (Nat × RInfo):=[(0,ri [1] [1]),(1,ri [2] [])]
def z0F.cx (k:Nat):Cx:=⟨tt,pp,[(119,(z2t.e k))],z0F.regs,k,mm⟩
@[reducible] def z0F.sg:Sg:=⟨[.dat tDot],[],.dat .bool,[]⟩
def z0F.f (k:Nat) (a0:Ty.D tDot):Option (Sg.Out z0F.sg):=Sg.fn z0F.sg (z0F.cx k) z0F.body z0F.rs a0
theorem z0F.f_eq (k:Nat) (a0:Ty.D tDot):z0F.f k a0=bnd (z2t.f k a0) fun r0=>some (bnot r0):=by kernel_rfl
def z0F.e (k:Nat):Entry:=Sg.entry z0F.sg fun x=>z0F.f k x
theorem z0F.ok (k:Nat):CallOK Tryz.prog 124 (z0F.e k):=fn_ok (c:=z0F.cx k) (code:=z0F.body) (TT.of tt_ok pp_ok mm_ok) (fns_ok ⟨(z2t.ok k),trivial⟩) mixed Tryz.func124 (by kernel_rfl) (by kernel_rfl) (by kernel_rfl) (by kernel_rfl) (by kernel_rfl) (by kernel_rfl) (fun x=>by kernel_rfl)
def z08.body:Go.Code:=Tryz.f178.body.getD .skip
def z08.rs:List Go.ResultVar:=Tryz.f178.results.toList
def z08.regs:List (Nat × RInfo):=[(0,ri [0,1] []),(1,ri [0,1,7,8] []),(2,⟨[0,1,7,8,9],[],[],[],0,[0,1,7,8],[],[],[],[]⟩),(3,ri [0,1,5,7,8] []),(4,ri [0,1,5,7,8,16] [16]),(5,ri [4] []),(6,ri [0,1,7,8] []),(7,ri [4] [])]
def z08.cx (k:Nat):Cx:=⟨tt,pp,[(124,(z0F.e k))],z08.regs,k,mm⟩
@[reducible] def z08.sg:Sg:=⟨[.dat (.slc tDot),.fn 124 0],[],.dat (.int .i64),[]⟩
def z08.f (k:Nat) (a0:Ty.D (.slc tDot)):Option (Sg.Out z08.sg):=Sg.fn z08.sg (z08.cx k) z08.body z08.rs a0
def z08.l2 (k:Nat) (n:Nat) (x0:Ty.D (.slc tDot)) (x7:Ty.D (.int .i64)) (x8:Ty.D (.int .i64)):Option (Sg.Out z08.sg):=loopAt (z08.cx k) z08.body [1,0,1,0] 2 [0,1,7,8] [] [] (Sg.K z08.sg (z08.cx k) z08.rs) n ⟨[(0,.dat (.slc tDot) x0),(1,.fn 124 []),(7,.dat (.int .i64) x7),(8,.dat (.int .i64) x8)],[]⟩
theorem z08.f_eq (k:Nat) (a0:Ty.D (.slc tDot)):z08.f k a0=z08.l2 k k a0 (ilen a0) 0:=by kernel_rfl
theorem z08.l2_eq (k:Nat) (n2:Nat) (x0:Ty.D (.slc tDot)) (x7:Ty.D (.int .i64)) (x8:Ty.D (.int .i64)):z08.l2 k (n2+1) x0 x7 x8=br (ilt x8 x7) (br (inL x8 x0) (bnd (z0F.f k (rd tDot x0 (natOf x8))) fun r0=>br r0 (some x8) (z08.l2 k n2 x0 x7 (iadd .i64 x8 1))) none) (some (-1)):=by kernel_rfl
def z08.e (k:Nat):Entry:=Sg.entry z08.sg fun x=>z08.f k x
theorem z08.ok (k:Nat):CallOK Tryz.prog 178 (z08.e k):=fn_ok (c:=z08.cx k) (code:=z08.body) (TT.of tt_ok pp_ok mm_ok) (fns_ok ⟨(z0F.ok k),trivial⟩) mixed Tryz.func178 (by kernel_rfl) (by kernel_rfl) (by kernel_rfl) (by kernel_rfl) (by kernel_rfl) (by kernel_rfl) (fun x=>by kernel_rfl)
def z04.body:Go.Code:=Tryz.f127.body.getD .skip
def z04.rs:List Go.ResultVar:=Tryz.f127.results.toList
def z04.regs:List (Nat × RInfo):=[(0,ri [0,1] []),(1,ri [4] [])]
def z04.cx (k:Nat):Cx:=⟨tt,pp,[(178,(Entry.alt z0b.sg (z0b.e k) (z08.e k))),(124,(z0F.e k))],z04.regs,k,mm⟩
@[reducible] def z04.sg:Sg:=⟨[.dat (.slc tDot),.fn 124 0],[],.dat .bool,[]⟩
def z04.f (k:Nat) (a0:Ty.D (.slc tDot)):Option (Sg.Out z04.sg):=Sg.fn z04.sg (z04.cx k) z04.body z04.rs a0
theorem z04.f_eq (k:Nat) (a0:Ty.D (.slc tDot)):z04.f k a0=bnd (z08.f k a0) fun r0=>some (ile 0 r0):=by kernel_rfl
def z04.e (k:Nat):Entry:=Sg.entry z04.sg fun x=>z04.f k x
theorem z04.ok (k:Nat):CallOK Tryz.prog 127 (z04.e k):=fn_ok (c:=z04.cx k) (code:=z04.body) (TT.of tt_ok pp_ok mm_ok) (fns_ok ⟨(alt_ok (z0b.ok k) (z08.ok k)),(z0F.ok k),trivial⟩) mixed Tryz.func127 (by kernel_rfl) (by kernel_rfl) (by kernel_rfl) (by kernel_rfl) (by kernel_rfl) (by kernel_rfl) (fun x=>by kernel_rfl)
def z0Q.body:Go.Code:=Tryz.f53.body.getD .skip
def z0Q.rs:List Go.ResultVar:=Tryz.f53.results.toList
def z0Q.regs:List (Nat × RInfo):=[(0,⟨[1],[1],[0],[],0,[],[],[],[],[]⟩),(1,ri [1,3] [1]),(2,ri [1,3,4] [1]),(3,ri [2] [12,24])]
def z0Q.cx (k:Nat):Cx:=⟨tt,pp,[(123,(z0E.e k)),(124,(z0F.e k)),(125,(z2m.e k)),(126,(Entry.alt z05.sg (z05.e k) (z03.e k))),(52,(z1e.e k)),(127,(Entry.alt z06.sg (z06.e k) (z04.e k)))],z0Q.regs,k,mm⟩
@[reducible] def z0Q.sg:Sg:=⟨[.dat tDelta],[],.dat .bool,[]⟩
def z0Q.f (k:Nat) (a0:Ty.D tDelta):Option (Sg.Out z0Q.sg):=Sg.fn z0Q.sg (z0Q.cx k) z0Q.body z0Q.rs a0
theorem z0Q.f_eq (k:Nat) (a0:Ty.D tDelta):z0Q.f k a0=br (ile (ilen a0.1) 1000) (bnd (z2m.f k a0.1) fun r0=>br r0 (bnd (z03.f k a0.1) fun r1=>br (bnot r1) (bnd (z1e.f k a0.2.1) fun r2=>br r2 (bnd (z04.f k a0.2.2) fun r3=>some (bnot r3)) (some false)) (some false)) (some false)) (some false):=by kernel_rfl
def z0Q.e (k:Nat):Entry:=Sg.entry z0Q.sg fun x=>z0Q.f k x
theorem z0Q.ok (k:Nat):CallOK Tryz.prog 53 (z0Q.e k):=fn_ok (c:=z0Q.cx k) (code:=z0Q.body) (TT.of tt_ok pp_ok mm_ok) (fns_ok ⟨(z0E.ok k),(z0F.ok k),(z2m.ok k),(alt_ok (z05.ok k) (z03.ok k)),(z1e.ok k),(alt_ok (z06.ok k) (z04.ok k)),trivial⟩) mixed Tryz.func53 (by kernel_rfl) (by kernel_rfl) (by kernel_rfl) (by kernel_rfl) (by kernel_rfl) (by kernel_rfl) (fun x=>by kernel_rfl)
def z0V.body:Go.Code:=Tryz.f13.body.getD .skip
def z0V.rs:List Go.ResultVar:=Tryz.f13.results.toList
def z0V.regs:List (Nat × RInfo):=[(0,⟨[1],[1],[0],[],0,[],[],[],[],[]⟩),(1,ri [1,4] [1]),(2,ri [1,4,5] [1]),(3,ri [2] [15,20,36,41]),(4,ri [1,4,11] [1]),(5,ri [2] [15,20,36,41]),(6,ri [1,4,32] [1]),(7,ri [2] [15,20,36,41]),(8,ri [1,37] [1]),(9,ri [2] [15,20,36,41]),(10,ri [2] [15,20,36,41])]
def z0V.cx (k:Nat):Cx:=⟨tt,pp,[(50,(z2o.e k)),(51,(z0Z.e k)),(52,(z1e.e k)),(53,(z0Q.e k)),(54,(z1p.e k))],z0V.regs,k,mm⟩
@[reducible] def z0V.sg:Sg:=⟨[.dat tRecord],[],.dat .bool,[]⟩
def z0V.f (k:Nat) (a0:Ty.D tRecord):Option (Sg.Out z0V.sg):=Sg.fn z0V.sg (z0V.cx k) z0V.body z0V.rs a0
theorem z0V.f_eq (k:Nat) (a0:Ty.D tRecord):z0V.f k a0=br (ieq a0.1 1) (bnd (z2o.f k a0.2.1) fun r0=>some (ieq r0 0)) (br (ieq a0.1 2) (bnd (z0Z.f k a0.2.2.1) fun r1=>br r1 (bnd (z1e.f k (a0.2.2.2.1::[])) fun r2=>br r2 (br (ile 0 a0.2.2.2.2.1) (some (ile a0.2.2.2.2.1 2)) (some false)) (some false)) (some false)) (br (ieq a0.1 3) (bnd (z0Q.f k a0.2.2.2.2.2.1) fun r3=>some r3) (br (ieq a0.1 4) (bnd (z1p.f k a0.2.2.2.2.2.2) fun r4=>some r4) (some false)))):=by kernel_rfl
def z0V.e (k:Nat):Entry:=Sg.entry z0V.sg fun x=>z0V.f k x
theorem z0V.ok (k:Nat):CallOK Tryz.prog 13 (z0V.e k):=fn_ok (c:=z0V.cx k) (code:=z0V.body) (TT.of tt_ok pp_ok mm_ok) (fns_ok ⟨(z2o.ok k),(z0Z.ok k),(z1e.ok k),(z0Q.ok k),(z1p.ok k),trivial⟩) mixed Tryz.func13 (by kernel_rfl) (by kernel_rfl) (by kernel_rfl) (by kernel_rfl) (by kernel_rfl) (by kernel_rfl) (fun x=>by kernel_rfl)
def z0T.body:Go.Code:=Tryz.f42.body.getD .skip
def z0T.rs:List Go.ResultVar:=Tryz.f42.results.toList
def z0T.regs:List (Nat × RInfo):=[(0,ri [0,2] [2]),(1,ri [2,4] [2,8]),(2,⟨[2,4,5],[2,5,8],[4],[],0,[],[],[],[],[]⟩),(3,ri [2,4,5,13] [2,5,8]),(5,ri [2,4,5,13,16] [2,5,8]),(6,⟨[2,4,5],[2,5,8],[3],[],0,[],[],[],[],[]⟩),(7,ri [2,4,5,13,21] [2,5,8]),(8,ri [2,4,5] [2,5,8]),(9,ri [2,4,5] [2,5,8]),(10,ri [2,4,5] [2,5,8]),(11,ri [2,4,5,13,35] [2,5,8]),(12,⟨[2,4,5],[2,5,8],[3],[],0,[],[],[],[],[]⟩),(13,ri [2,4,5,40] [2,5,8]),(14,⟨[2,4,5],[2,5,8],[3],[],0,[],[],[],[],[]⟩),(4,ri [2,4,5] [2,5,8]),(15,ri [2,5,6] [2,5,46]),(16,ri [2,5,6,48] [2,5,46]),(17,⟨[2,3],[2,46],[2],[],0,[],[],[],[],[]⟩),(18,ri [2,5,53] [2,5]),(19,⟨[2,3],[2,46],[1],[],0,[],[],[],[],[]⟩),(20,⟨[2,3],[2,46],[1],[],0,[],[],[],[],[]⟩)]
def z0T.cx (k:Nat):Cx:=⟨tt,pp,[(30,(z2s.e k)),(87,(z0y.e k)),(105,(z2G.e k)),(106,(z2C.e k)),(32,(z0m.e k)),(107,(z27.e k)),(89,(z0o.e k)),(41,(z0A.e k)),(13,(z0V.e k))],z0T.regs,k,mm⟩
@[reducible] def z0T.sg:Sg:=⟨[.dat .str],[],.t2 (.dat tRecord) (.dat (.int .i64)),[]⟩
def z0T.f (k:Nat) (a0:Ty.D .str):Option (Sg.Out z0T.sg):=Sg.fn z0T.sg (z0T.cx k) z0T.body z0T.rs a0
theorem z0T.f_eq (k:Nat) (a0:Ty.D .str):z0T.f k a0=bnd (z2s.f k a0) fun r0=>bnd (z0y.f k r0.2) fun r1=>br (ieq r1.1 1) (bnd (z2G.f k r1.2) fun r2=>bnd (z0A.f k r2.2) fun r3=>br (bnot (ieq r3.1 0)) (some ((0,(((0,0),(0,(0,(false,[])))),(0,(((0,0),0),(0,(([],([],[])),([],([],(((zarr 16 0),[]),(((zarr 16 0),[]),(zarr 8 []))))))))))),r3.1)) (bnd (z0V.f k (r1.1,(r2.1,(0,(((0,0),0),(0,(([],([],[])),([],([],(((zarr 16 0),[]),(((zarr 16 0),[]),(zarr 8 [])))))))))))) fun r4=>br (bnot r4) (some ((0,(((0,0),(0,(0,(false,[])))),(0,(((0,0),0),(0,(([],([],[])),([],([],(((zarr 16 0),[]),(((zarr 16 0),[]),(zarr 8 []))))))))))),2)) (some ((r1.1,(r2.1,(0,(((0,0),0),(0,(([],([],[])),([],([],(((zarr 16 0),[]),(((zarr 16 0),[]),(zarr 8 []))))))))))),0)))) (br (ieq r1.1 2) (bnd (z0y.f k r1.2) fun r5=>bnd (z2C.f k r5.2) fun r6=>bnd (z0y.f k r6.2) fun r7=>bnd (z0y.f k r7.2) fun r8=>bnd (z0A.f k r8.2) fun r9=>br (bnot (ieq r9.1 0)) (some ((0,(((0,0),(0,(0,(false,[])))),(0,(((0,0),0),(0,(([],([],[])),([],([],(((zarr 16 0),[]),(((zarr 16 0),[]),(zarr 8 []))))))))))),r9.1)) (bnd (z0V.f k (r1.1,(((0,0),(0,(0,(false,[])))),(r5.1,((r6.1,r7.1),(r8.1,(([],([],[])),([],([],(((zarr 16 0),[]),(((zarr 16 0),[]),(zarr 8 [])))))))))))) fun r10=>br (bnot r10) (some ((0,(((0,0),(0,(0,(false,[])))),(0,(((0,0),0),(0,(([],([],[])),([],([],(((zarr 16 0),[]),(((zarr 16 0),[]),(zarr 8 []))))))))))),2)) (some ((r1.1,(((0,0),(0,(0,(false,[])))),(r5.1,((r6.1,r7.1),(r8.1,(([],([],[])),([],([],(((zarr 16 0),[]),(((zarr 16 0),[]),(zarr 8 []))))))))))),0)))) (br (ieq r1.1 3) (bnd (z0m.f k r1.2) fun r11=>bnd (z0A.f k r11.2) fun r12=>br (bnot (ieq r12.1 0)) (some ((0,(((0,0),(0,(0,(false,[])))),(0,(((0,0),0),(0,(([],([],[])),([],([],(((zarr 16 0),[]),(((zarr 16 0),[]),(zarr 8 []))))))))))),r12.1)) (bnd (z0V.f k (r1.1,(((0,0),(0,(0,(false,[])))),(0,(((0,0),0),(0,(r11.1,([],([],(((zarr 16 0),[]),(((zarr 16 0),[]),(zarr 8 [])))))))))))) fun r13=>br (bnot r13) (some ((0,(((0,0),(0,(0,(false,[])))),(0,(((0,0),0),(0,(([],([],[])),([],([],(((zarr 16 0),[]),(((zarr 16 0),[]),(zarr 8 []))))))))))),2)) (some ((r1.1,(((0,0),(0,(0,(false,[])))),(0,(((0,0),0),(0,(r11.1,([],([],(((zarr 16 0),[]),(((zarr 16 0),[]),(zarr 8 []))))))))))),0)))) (br (ieq r1.1 4) (bnd (z27.f k r1.2) fun r14=>bnd (z0A.f k r14.2) fun r15=>br (bnot (ieq r15.1 0)) (some ((0,(((0,0),(0,(0,(false,[])))),(0,(((0,0),0),(0,(([],([],[])),([],([],(((zarr 16 0),[]),(((zarr 16 0),[]),(zarr 8 []))))))))))),r15.1)) (bnd (z0V.f k (r1.1,(((0,0),(0,(0,(false,[])))),(0,(((0,0),0),(0,(([],([],[])),r14.1))))))) fun r16=>br (bnot r16) (some ((0,(((0,0),(0,(0,(false,[])))),(0,(((0,0),0),(0,(([],([],[])),([],([],(((zarr 16 0),[]),(((zarr 16 0),[]),(zarr 8 []))))))))))),2)) (some ((r1.1,(((0,0),(0,(0,(false,[])))),(0,(((0,0),0),(0,(([],([],[])),r14.1)))))),0)))) (bnd (z0o.f k 18 r1.2) fun r17=>bnd (z0A.f k r17.2) fun r18=>br (bnot (ieq r18.1 0)) (some ((0,(((0,0),(0,(0,(false,[])))),(0,(((0,0),0),(0,(([],([],[])),([],([],(((zarr 16 0),[]),(((zarr 16 0),[]),(zarr 8 []))))))))))),r18.1)) (bnd (z0V.f k (r1.1,(((0,0),(0,(0,(false,[])))),(0,(((0,0),0),(0,(([],([],[])),([],([],(((zarr 16 0),[]),(((zarr 16 0),[]),(zarr 8 [])))))))))))) fun r19=>br (bnot r19) (some ((0,(((0,0),(0,(0,(false,[])))),(0,(((0,0),0),(0,(([],([],[])),([],([],(((zarr 16 0),[]),(((zarr 16 0),[]),(zarr 8 []))))))))))),2)) (some ((r1.1,(((0,0),(0,(0,(false,[])))),(0,(((0,0),0),(0,(([],([],[])),([],([],(((zarr 16 0),[]),(((zarr 16 0),[]),(zarr 8 []))))))))))),0))))))):=by kernel_rfl
def z0T.e (k:Nat):Entry:=Sg.entry z0T.sg fun x=>z0T.f k x
theorem z0T.ok (k:Nat):CallOK Tryz.prog 42 (z0T.e k):=fn_ok (c:=z0T.cx k) (code:=z0T.body) (TT.of tt_ok pp_ok mm_ok) (fns_ok ⟨(z2s.ok k),(z0y.ok k),(z2G.ok k),(z2C.ok k),(z0m.ok k),(z27.ok k),(z0o.ok k),(z0A.ok k),(z0V.ok k),trivial⟩) mixed Tryz.func42 (by kernel_rfl) (by kernel_rfl) (by kernel_rfl) (by kernel_rfl) (by kernel_rfl) (by kernel_rfl) (fun x=>by kernel_rfl)
end Go.Proofs.YtggcagclpkhlhaaGreatDoor
end
