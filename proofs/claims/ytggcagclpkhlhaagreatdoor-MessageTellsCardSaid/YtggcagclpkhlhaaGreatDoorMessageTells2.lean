/- The functions that the statement reaches, and what they come to. Part 2. -/
import Derived.Test.YtggcagclpkhlhaaGreatDoorFw1
import Derived.Test.YtggcagclpkhlhaaGreatDoorFw2
import Derived.Test.YtggcagclpkhlhaaGreatDoorFw3
import Derived.Test.YtggcagclpkhlhaaGreatDoorMessageTells1
set_option linter.unusedVariables false
set_option linter.unusedSimpArgs false
set_option linter.unusedSectionVars false
noncomputable section
/- The program's functions, as plain equations. -/
namespace Go.Proofs.YtggcagclpkhlhaaGreatDoor
open Pal
set_option maxRecDepth 100000
@[reducible] def ref02_Reader_Int.sg:Sg:=⟨[.ref],[tref02Reader],.dat (.int .i64),[tref02Reader]⟩
def z12.body:Go.Code:=Tryz.f77.body.getD .skip
def z12.rs:List Go.ResultVar:=Tryz.f77.results.toList
def z12.regs:List (Nat × RInfo):=[(0,ri [1] [1]),(1,ri [2] [])]
def z12.cx (k:Nat):Cx:=⟨tt,pp,[],z12.regs,k,mm⟩
@[reducible] def z12.sg:Sg:=⟨[.dat tDot],[],.dat .bool,[]⟩
def z12.f (k:Nat) (a0:Ty.D tDot):Option (Sg.Out z12.sg):=Sg.fn z12.sg (z12.cx k) z12.body z12.rs a0
theorem z12.f_eq (k:Nat) (a0:Ty.D tDot):z12.f k a0=br (ile 0 a0.1) (br (ile a0.1 15) (br (ile 1 a0.2) (some (ile a0.2 1048576)) (some false)) (some false)) (some false):=by kernel_rfl
def z12.e (k:Nat):Entry:=Sg.entry z12.sg fun x=>z12.f k x
theorem z12.ok (k:Nat):CallOK Tryz.prog 77 (z12.e k):=fn_ok (c:=z12.cx k) (code:=z12.body) (TT.of tt_ok pp_ok mm_ok) (fns_ok trivial) mixed Tryz.func77 (by kernel_rfl) (by kernel_rfl) (by kernel_rfl) (by kernel_rfl) (by kernel_rfl) (by kernel_rfl) (fun x=>by kernel_rfl)
@[reducible] def ref04_Read.sg:Sg:=⟨[.ref],[tref02Reader],.dat tDot,[tref02Reader]⟩
@[reducible] def ref02_Reader_Fail.sg:Sg:=⟨[.ref,.dat (.int .i64)],[tref02Reader],.unit,[tref02Reader]⟩
@[reducible] def ref02_Reader_Many.sg:Sg:=⟨[.ref,.dat (.int .i64)],[tref02Reader],.dat (.int .i64),[tref02Reader]⟩
@[reducible] def ref02_Reader_Text.sg:Sg:=⟨[.ref],[tref02Reader],.dat .str,[tref02Reader]⟩
def z1i.body:Go.Code:=Tryz.f244.body.getD .skip
def z1i.rs:List Go.ResultVar:=Tryz.f244.results.toList
def z1i.regs:List (Nat × RInfo):=[(0,ri [0] []),(1,ri [0,10] []),(2,ri [2,3] []),(3,ri [0,4] []),(4,ri [0,4] []),(6,ri [0,4,14] []),(7,ri [2,3] []),(8,ri [0,4,18] []),(9,ri [0,4,5,6] []),(10,ri [0,4,27] []),(11,ri [0,4,5,6] []),(12,ri [0,4,36] []),(13,ri [0,4,5,6] []),(5,ri [2,3] []),(14,ri [0,4,5,6,48] []),(15,ri [2,3] []),(16,ri [0,4,5,6,7] []),(17,⟨[0,4,5,6,7,51],[],[],[],0,[0,4,5,6,7],[],[],[],[]⟩),(19,ri [0,4,5,6,7,63] []),(20,ri [2,3] []),(21,ri [0,4,5,6,7] []),(18,ri [0,4,5,6,7] []),(22,ri [4,5,86] []),(23,ri [2,3] []),(24,ri [2,3] [])]
def z1i.cx (k:Nat):Cx:=⟨tt,pp,[],z1i.regs,k,mm⟩
@[reducible] def z1i.sg:Sg:=⟨[.dat .str],[],.t2 (.dat (.int .i64)) (.dat (.int .i64)),[]⟩
def z1i.f (k:Nat) (a0:Ty.D .str):Option (Sg.Out z1i.sg):=Sg.fn z1i.sg (z1i.cx k) z1i.body z1i.rs a0
def z1i.l17 (k:Nat) (n:Nat) (x0:Ty.D .str) (x4:Ty.D (.int .i64)) (x5:Ty.D (.int .i64)) (x6:Ty.D (.int .i64)) (x7:Ty.D (.int .i64)):Option (Sg.Out z1i.sg):=loopAt (z1i.cx k) z1i.body [1,1,1,1,1,1,0,1,0] 17 [0,4,5,6,7] [] [] (Sg.K z1i.sg (z1i.cx k) z1i.rs) n ⟨[(0,.dat .str x0),(4,.dat (.int .i64) x4),(5,.dat (.int .i64) x5),(6,.dat (.int .i64) x6),(7,.dat (.int .i64) x7)],[]⟩
theorem z1i.f_eq (k:Nat) (a0:Ty.D .str):z1i.f k a0=br (ieq (ilen a0) 0) (some (0,0)) (br (inL 0 a0) (br (ilt (iwrap .i64 (byteAt a0 0)) 128) (some ((iwrap .i64 (byteAt a0 0)),1)) (br (ile 194 (iwrap .i64 (byteAt a0 0))) (br (ilt (iwrap .i64 (byteAt a0 0)) 224) (br (ilt (ilen a0) 2) (some (0,0)) (z1i.l17 k k a0 (isub .i64 (iwrap .i64 (byteAt a0 0)) 192) 2 128 1)) (br (ile 224 (iwrap .i64 (byteAt a0 0))) (br (ilt (iwrap .i64 (byteAt a0 0)) 240) (br (ilt (ilen a0) 3) (some (0,0)) (z1i.l17 k k a0 (isub .i64 (iwrap .i64 (byteAt a0 0)) 224) 3 2048 1)) (br (ile 240 (iwrap .i64 (byteAt a0 0))) (br (ilt (iwrap .i64 (byteAt a0 0)) 245) (br (ilt (ilen a0) 4) (some (0,0)) (z1i.l17 k k a0 (isub .i64 (iwrap .i64 (byteAt a0 0)) 240) 4 65536 1)) (some (0,0))) (some (0,0)))) (br (ile 240 (iwrap .i64 (byteAt a0 0))) (br (ilt (iwrap .i64 (byteAt a0 0)) 245) (br (ilt (ilen a0) 4) (some (0,0)) (z1i.l17 k k a0 (isub .i64 (iwrap .i64 (byteAt a0 0)) 240) 4 65536 1)) (some (0,0))) (some (0,0))))) (br (ile 224 (iwrap .i64 (byteAt a0 0))) (br (ilt (iwrap .i64 (byteAt a0 0)) 240) (br (ilt (ilen a0) 3) (some (0,0)) (z1i.l17 k k a0 (isub .i64 (iwrap .i64 (byteAt a0 0)) 224) 3 2048 1)) (br (ile 240 (iwrap .i64 (byteAt a0 0))) (br (ilt (iwrap .i64 (byteAt a0 0)) 245) (br (ilt (ilen a0) 4) (some (0,0)) (z1i.l17 k k a0 (isub .i64 (iwrap .i64 (byteAt a0 0)) 240) 4 65536 1)) (some (0,0))) (some (0,0)))) (br (ile 240 (iwrap .i64 (byteAt a0 0))) (br (ilt (iwrap .i64 (byteAt a0 0)) 245) (br (ilt (ilen a0) 4) (some (0,0)) (z1i.l17 k k a0 (isub .i64 (iwrap .i64 (byteAt a0 0)) 240) 4 65536 1)) (some (0,0))) (some (0,0)))))) none):=by kernel_rfl
theorem z1i.l17_eq (k:Nat) (n17:Nat) (x0:Ty.D .str) (x4:Ty.D (.int .i64)) (x5:Ty.D (.int .i64)) (x6:Ty.D (.int .i64)) (x7:Ty.D (.int .i64)):z1i.l17 k (n17+1) x0 x4 x5 x6 x7=br (ilt x7 x5) (br (inL x7 x0) (br (ilt (byteAt x0 x7) 128) (some (0,0)) (br (inL x7 x0) (br (ilt 191 (byteAt x0 x7)) (some (0,0)) (br (inL x7 x0) (z1i.l17 k n17 x0 (isub .i64 (iadd .i64 (imul .i64 64 x4) (iwrap .i64 (byteAt x0 x7))) 128) x5 x6 (iadd .i64 x7 1)) none)) none)) none) (br (ilt x4 x6) (some (0,0)) (br (ilt 1114111 x4) (some (0,0)) (br (ile 55296 x4) (br (ile x4 57343) (some (0,0)) (some (x4,x5))) (some (x4,x5))))):=by kernel_rfl
def z1i.e (k:Nat):Entry:=Sg.entry z1i.sg fun x=>z1i.f k x
theorem z1i.ok (k:Nat):CallOK Tryz.prog 244 (z1i.e k):=fn_ok (c:=z1i.cx k) (code:=z1i.body) (TT.of tt_ok pp_ok mm_ok) (fns_ok trivial) mixed Tryz.func244 (by kernel_rfl) (by kernel_rfl) (by kernel_rfl) (by kernel_rfl) (by kernel_rfl) (by kernel_rfl) (fun x=>by kernel_rfl)
def z0X.body:Go.Code:=Tryz.f219.body.getD .skip
def z0X.rs:List Go.ResultVar:=Tryz.f219.results.toList
def z0X.regs:List (Nat × RInfo):=[(0,ri [0] []),(1,ri [0,4] []),(2,ri [0,4,5] []),(3,⟨[0,4,5,11],[],[],[],0,[0,4,5],[],[],[],[]⟩),(4,ri [0,4,5,6,7] [16]),(5,ri [0,4,5,6,7,20] [16]),(6,ri [2,3] []),(7,⟨[0,4,5,7],[16],[0,3,4],[],0,[],[],[],[],[]⟩),(8,ri [0,4,5] []),(9,⟨[2,3],[],[0,1],[],0,[],[],[],[],[]⟩)]
def z0X.cx (k:Nat):Cx:=⟨tt,pp,[(244,(z1i.e k))],z0X.regs,k,mm⟩
@[reducible] def z0X.sg:Sg:=⟨[.dat .str],[],.t2 (.dat (.slc (.int .i64))) (.dat .bool),[]⟩
def z0X.f (k:Nat) (a0:Ty.D .str):Option (Sg.Out z0X.sg):=Sg.fn z0X.sg (z0X.cx k) z0X.body z0X.rs a0
def z0X.l3 (k:Nat) (n:Nat) (x0:Ty.D .str) (x4:List (Ty.D (.int .i64))) (x5:Ty.D (.int .i64)):Option (Sg.Out z0X.sg):=loopAt (z0X.cx k) z0X.body [1,1,0,1,0] 3 [0,4,5] [] [] (Sg.K z0X.sg (z0X.cx k) z0X.rs) n ⟨[(0,.dat .str x0),(4,.own (.int .i64) x4),(5,.dat (.int .i64) x5)],[]⟩
theorem z0X.f_eq (k:Nat) (a0:Ty.D .str):z0X.f k a0=z0X.l3 k k a0 [] 0:=by kernel_rfl
theorem z0X.l3_eq (k:Nat) (n3:Nat) (x0:Ty.D .str) (x4:List (Ty.D (.int .i64))) (x5:Ty.D (.int .i64)):z0X.l3 k (n3+1) x0 x4 x5=br (ilt x5 (ilen x0)) (br (inS x5 (ilen x0) (ilen x0)) (bnd (z1i.f k (piece x0 x5 (ilen x0))) fun r0=>br (ieq r0.2 0) (some ([],false)) (br (room x4 (r0.1::[])) (z0X.l3 k n3 x0 (app x4 (r0.1::[])) (iadd .i64 x5 r0.2)) none)) none) (some (x4,true)):=by kernel_rfl
def z0X.e (k:Nat):Entry:=Sg.entry z0X.sg fun x=>z0X.f k x
theorem z0X.ok (k:Nat):CallOK Tryz.prog 219 (z0X.e k):=fn_ok (c:=z0X.cx k) (code:=z0X.body) (TT.of tt_ok pp_ok mm_ok) (fns_ok ⟨(z1i.ok k),trivial⟩) mixed Tryz.func219 (by kernel_rfl) (by kernel_rfl) (by kernel_rfl) (by kernel_rfl) (by kernel_rfl) (by kernel_rfl) (fun x=>by kernel_rfl)
def z2a.body:Go.Code:=Tryz.f243.body.getD .skip
def z2a.rs:List Go.ResultVar:=Tryz.f243.results.toList
def z2a.regs:List (Nat × RInfo):=[(0,ri [0] []),(1,ri [2] [])]
def z2a.cx (k:Nat):Cx:=⟨tt,pp,[],z2a.regs,k,mm⟩
@[reducible] def z2a.sg:Sg:=⟨[.dat (.int .i64)],[],.dat .bool,[]⟩
def z2a.f (k:Nat) (a0:Ty.D (.int .i64)):Option (Sg.Out z2a.sg):=Sg.fn z2a.sg (z2a.cx k) z2a.body z2a.rs a0
theorem z2a.f_eq (k:Nat) (a0:Ty.D (.int .i64)):z2a.f k a0=br (ile 32 a0) (br (ilt a0 127) (some (bnot (ieq a0 65533))) (br (ilt 159 a0) (some (bnot (ieq a0 65533))) (some false))) (some false):=by kernel_rfl
def z2a.e (k:Nat):Entry:=Sg.entry z2a.sg fun x=>z2a.f k x
theorem z2a.ok (k:Nat):CallOK Tryz.prog 243 (z2a.e k):=fn_ok (c:=z2a.cx k) (code:=z2a.body) (TT.of tt_ok pp_ok mm_ok) (fns_ok trivial) mixed Tryz.func243 (by kernel_rfl) (by kernel_rfl) (by kernel_rfl) (by kernel_rfl) (by kernel_rfl) (by kernel_rfl) (fun x=>by kernel_rfl)
def z0W.body:Go.Code:=Tryz.f218.body.getD .skip
def z0W.rs:List Go.ResultVar:=Tryz.f218.results.toList
def z0W.regs:List (Nat × RInfo):=[(0,ri [0] []),(1,⟨[3,4],[8],[5],[],0,[],[],[],[],[]⟩),(2,ri [3,4,5] [8]),(3,⟨[3,4,5,14],[8],[],[],0,[3,4,5],[8],[],[],[]⟩),(5,ri [3,4,5,22] [8]),(6,ri [2] [8]),(4,ri [3,4,5] [8]),(7,ri [2] [8])]
def z0W.cx (k:Nat):Cx:=⟨tt,pp,[(219,(z0X.e k)),(243,(z2a.e k))],z0W.regs,k,mm⟩
@[reducible] def z0W.sg:Sg:=⟨[.dat .str],[],.dat .bool,[]⟩
def z0W.f (k:Nat) (a0:Ty.D .str):Option (Sg.Out z0W.sg):=Sg.fn z0W.sg (z0W.cx k) z0W.body z0W.rs a0
def z0W.l3 (k:Nat) (n:Nat) (x3:Ty.D (.slc (.int .i64))) (x4:Ty.D .bool) (x5:Ty.D (.int .i64)):Option (Sg.Out z0W.sg):=loopAt (z0W.cx k) z0W.body [1,1,0,1,0] 3 [3,4,5] [8] [] (Sg.K z0W.sg (z0W.cx k) z0W.rs) n ⟨[(3,.dat (.slc (.int .i64)) x3),(4,.dat .bool x4),(5,.dat (.int .i64) x5)],[]⟩
theorem z0W.f_eq (k:Nat) (a0:Ty.D .str):z0W.f k a0=bnd (z0X.f k a0) fun r0=>z0W.l3 k k r0.1 r0.2 0:=by kernel_rfl
theorem z0W.l3_eq (k:Nat) (n3:Nat) (x3:Ty.D (.slc (.int .i64))) (x4:Ty.D .bool) (x5:Ty.D (.int .i64)):z0W.l3 k (n3+1) x3 x4 x5=br (ilt x5 (ilen x3)) (br (inL x5 x3) (bnd (z2a.f k (rd (.int .i64) x3 (natOf x5))) fun r0=>br (bnot r0) (some false) (z0W.l3 k n3 x3 x4 (iadd .i64 x5 1))) none) (br x4 (br (ile 1 (ilen x3)) (some (ile (ilen x3) 24)) (some false)) (some false)):=by kernel_rfl
def z0W.e (k:Nat):Entry:=Sg.entry z0W.sg fun x=>z0W.f k x
theorem z0W.ok (k:Nat):CallOK Tryz.prog 218 (z0W.e k):=fn_ok (c:=z0W.cx k) (code:=z0W.body) (TT.of tt_ok pp_ok mm_ok) (fns_ok ⟨(z0X.ok k),(z2a.ok k),trivial⟩) mixed Tryz.func218 (by kernel_rfl) (by kernel_rfl) (by kernel_rfl) (by kernel_rfl) (by kernel_rfl) (by kernel_rfl) (fun x=>by kernel_rfl)
def z0M.body:Go.Code:=Tryz.f168.body.getD .skip
def z0M.rs:List Go.ResultVar:=Tryz.f168.results.toList
def z0M.regs:List (Nat × RInfo):=[(0,ri [0] []),(1,ri [0,6] []),(2,ri [2] []),(3,ri [0,9] []),(4,ri [2] []),(5,ri [0,3] []),(6,⟨[0,3,13],[],[],[],0,[0,3],[],[],[],[]⟩),(8,ri [0,3,21] []),(9,ri [2] []),(7,ri [0,3] []),(10,ri [2] [])]
def z0M.cx (k:Nat):Cx:=⟨tt,pp,[(218,(z0W.e k))],z0M.regs,k,mm⟩
@[reducible] def z0M.sg:Sg:=⟨[.dat (.slc .str)],[],.dat (.int .i64),[]⟩
def z0M.f (k:Nat) (a0:Ty.D (.slc .str)):Option (Sg.Out z0M.sg):=Sg.fn z0M.sg (z0M.cx k) z0M.body z0M.rs a0
def z0M.l6 (k:Nat) (n:Nat) (x0:Ty.D (.slc .str)) (x3:Ty.D (.int .i64)):Option (Sg.Out z0M.sg):=loopAt (z0M.cx k) z0M.body [1,1,1,0,1,0] 6 [0,3] [] [] (Sg.K z0M.sg (z0M.cx k) z0M.rs) n ⟨[(0,.dat (.slc .str) x0),(3,.dat (.int .i64) x3)],[]⟩
theorem z0M.f_eq (k:Nat) (a0:Ty.D (.slc .str)):z0M.f k a0=br (ieq (ilen a0) 0) (some 8) (br (ilt 8 (ilen a0)) (some 9) (z0M.l6 k k a0 0)):=by kernel_rfl
theorem z0M.l6_eq (k:Nat) (n6:Nat) (x0:Ty.D (.slc .str)) (x3:Ty.D (.int .i64)):z0M.l6 k (n6+1) x0 x3=br (ilt x3 (ilen x0)) (br (inL x3 x0) (bnd (z0W.f k (rd .str x0 (natOf x3))) fun r0=>br (bnot r0) (some 8) (z0M.l6 k n6 x0 (iadd .i64 x3 1))) none) (some 0):=by kernel_rfl
def z0M.e (k:Nat):Entry:=Sg.entry z0M.sg fun x=>z0M.f k x
theorem z0M.ok (k:Nat):CallOK Tryz.prog 168 (z0M.e k):=fn_ok (c:=z0M.cx k) (code:=z0M.body) (TT.of tt_ok pp_ok mm_ok) (fns_ok ⟨(z0W.ok k),trivial⟩) mixed Tryz.func168 (by kernel_rfl) (by kernel_rfl) (by kernel_rfl) (by kernel_rfl) (by kernel_rfl) (by kernel_rfl) (fun x=>by kernel_rfl)
@[reducible] def ref10_Read.sg:Sg:=⟨[.ref],[tref02Reader],.own .str,[tref02Reader]⟩
def z0A.body:Go.Code:=Tryz.f214.body.getD .skip
def z0A.rs:List Go.ResultVar:=Tryz.f214.results.toList
def z0A.regs:List (Nat × RInfo):=[(0,ri [0] []),(1,ri [0,5] []),(2,ri [2] []),(3,ri [2] [])]
def z0A.cx (k:Nat):Cx:=⟨tt,pp,[],z0A.regs,k,mm⟩
@[reducible] def z0A.sg:Sg:=⟨[.dat (.int .i64)],[],.dat (.int .i64),[]⟩
def z0A.f (k:Nat) (a0:Ty.D (.int .i64)):Option (Sg.Out z0A.sg):=Sg.fn z0A.sg (z0A.cx k) z0A.body z0A.rs a0
theorem z0A.f_eq (k:Nat) (a0:Ty.D (.int .i64)):z0A.f k a0=br (ieq (irem a0 2) 0) (some (iquo .i64 a0 2)) (some (isub .i64 (isub .i64 0 (iquo .i64 a0 2)) 1)):=by kernel_rfl
def z0V.body:Go.Code:=Tryz.f169.body.getD .skip
def z0V.rs:List Go.ResultVar:=Tryz.f169.results.toList
def z0V.regs:List (Nat × RInfo):=[(0,ri [1] [1]),(1,ri [1,7] [1]),(2,ri [2] [27]),(3,ri [1,23] [1]),(4,⟨[1,4],[1,27],[6],[],0,[],[],[],[],[]⟩),(5,ri [2] [27]),(6,ri [2] [27])]
def z0V.cx (k:Nat):Cx:=⟨tt,pp,[(219,(z0X.e k))],z0V.regs,k,mm⟩
@[reducible] def z0V.sg:Sg:=⟨[.dat tValue],[],.dat .bool,[]⟩
def z0V.f (k:Nat) (a0:Ty.D tValue):Option (Sg.Out z0V.sg):=Sg.fn z0V.sg (z0V.cx k) z0V.body z0V.rs a0
theorem z0V.f_eq (k:Nat) (a0:Ty.D tValue):z0V.f k a0=br (ieq a0.1 1) (br (seq a0.2.2 []) (br (ile (-2147483647) a0.2.1) (some (ile a0.2.1 2147483647)) (some false)) (some false)) (br (ieq a0.1 2) (bnd (z0X.f k a0.2.2) fun r0=>br (ieq a0.2.1 0) (br r0.2 (some (ile (ilen a0.2.2) 64)) (some false)) (some false)) (br (ieq a0.1 3) (br (seq a0.2.2 []) (br (ile 0 a0.2.1) (some (ile a0.2.1 1)) (some false)) (some false)) (some false))):=by kernel_rfl
def z0V.e (k:Nat):Entry:=Sg.entry z0V.sg fun x=>z0V.f k x
theorem z0V.ok (k:Nat):CallOK Tryz.prog 169 (z0V.e k):=fn_ok (c:=z0V.cx k) (code:=z0V.body) (TT.of tt_ok pp_ok mm_ok) (fns_ok ⟨(z0X.ok k),trivial⟩) mixed Tryz.func169 (by kernel_rfl) (by kernel_rfl) (by kernel_rfl) (by kernel_rfl) (by kernel_rfl) (by kernel_rfl) (fun x=>by kernel_rfl)
@[reducible] def ref09_Read.sg:Sg:=⟨[.ref],[tref02Reader],.dat tValue,[tref02Reader]⟩
def z1m.body:Go.Code:=Tryz.f171.body.getD .skip
def z1m.rs:List Go.ResultVar:=Tryz.f171.results.toList
def z1m.regs:List (Nat × RInfo):=[(0,ri [0,1] []),(1,ri [0,1,7] []),(2,ri [4] []),(3,ri [10] []),(4,ri [4] []),(5,ri [4] [])]
def z1m.cx (k:Nat):Cx:=⟨tt,pp,[],z1m.regs,k,mm⟩
@[reducible] def z1m.sg:Sg:=⟨[.dat (.int .i64),.dat (.int .i64)],[],.dat (.int .i64),[]⟩
def z1m.f (k:Nat) (a0:Ty.D (.int .i64)) (a1:Ty.D (.int .i64)):Option (Sg.Out z1m.sg):=Sg.fn z1m.sg (z1m.cx k) z1m.body z1m.rs (a0,a1)
theorem z1m.f_eq (k:Nat) (a0:Ty.D (.int .i64)) (a1:Ty.D (.int .i64)):z1m.f k a0 a1=br (ilt a0 a1) (some (-1)) (br (ilt a1 a0) (some 1) (some 0)):=by kernel_rfl
def z1m.e (k:Nat):Entry:=Sg.entry z1m.sg fun x=>z1m.f k x.1 x.2
theorem z1m.ok (k:Nat):CallOK Tryz.prog 171 (z1m.e k):=fn_ok (c:=z1m.cx k) (code:=z1m.body) (TT.of tt_ok pp_ok mm_ok) (fns_ok trivial) mixed Tryz.func171 (by kernel_rfl) (by kernel_rfl) (by kernel_rfl) (by kernel_rfl) (by kernel_rfl) (by kernel_rfl) (fun x=>by kernel_rfl)
def z0t.body:Go.Code:=Tryz.f118.body.getD .skip
def z0t.rs:List Go.ResultVar:=Tryz.f118.results.toList
def z0t.regs:List (Nat × RInfo):=[(0,ri [2,3] [2,3]),(1,ri [2,3,9] [2,3]),(2,ri [4] [14,19]),(3,ri [4] [14,19])]
def z0t.cx (k:Nat):Cx:=⟨tt,pp,[(171,(z1m.e k))],z0t.regs,k,mm⟩
@[reducible] def z0t.sg:Sg:=⟨[.dat tDot,.dat tDot],[],.dat (.int .i64),[]⟩
def z0t.f (k:Nat) (a0:Ty.D tDot) (a1:Ty.D tDot):Option (Sg.Out z0t.sg):=Sg.fn z0t.sg (z0t.cx k) z0t.body z0t.rs (a0,a1)
theorem z0t.f_eq (k:Nat) (a0:Ty.D tDot) (a1:Ty.D tDot):z0t.f k a0 a1=br (bnot (ieq a0.1 a1.1)) (bnd (z1m.f k a0.1 a1.1) fun r0=>some r0) (bnd (z1m.f k a0.2 a1.2) fun r1=>some r1):=by kernel_rfl
def z0t.e (k:Nat):Entry:=Sg.entry z0t.sg fun x=>z0t.f k x.1 x.2
theorem z0t.ok (k:Nat):CallOK Tryz.prog 118 (z0t.e k):=fn_ok (c:=z0t.cx k) (code:=z0t.body) (TT.of tt_ok pp_ok mm_ok) (fns_ok ⟨(z1m.ok k),trivial⟩) mixed Tryz.func118 (by kernel_rfl) (by kernel_rfl) (by kernel_rfl) (by kernel_rfl) (by kernel_rfl) (by kernel_rfl) (fun x=>by kernel_rfl)
def z1I.body:Go.Code:=Tryz.f220.body.getD .skip
def z1I.rs:List Go.ResultVar:=Tryz.f220.results.toList
def z1I.regs:List (Nat × RInfo):=[(0,ri [2,3] [2,3]),(1,ri [2,3,10] [2,3]),(2,ri [4] [15,20]),(3,ri [4] [15,20])]
def z1I.cx (k:Nat):Cx:=⟨tt,pp,[(118,(z0t.e k)),(171,(z1m.e k))],z1I.regs,k,mm⟩
@[reducible] def z1I.sg:Sg:=⟨[.dat tUndo,.dat tUndo],[],.dat (.int .i64),[]⟩
def z1I.f (k:Nat) (a0:Ty.D tUndo) (a1:Ty.D tUndo):Option (Sg.Out z1I.sg):=Sg.fn z1I.sg (z1I.cx k) z1I.body z1I.rs (a0,a1)
theorem z1I.f_eq (k:Nat) (a0:Ty.D tUndo) (a1:Ty.D tUndo):z1I.f k a0 a1=bnd (z0t.f k a0.1 a1.1) fun r0=>br (bnot (ieq r0 0)) (bnd (z0t.f k a0.1 a1.1) fun r1=>some r1) (bnd (z1m.f k a0.2 a1.2) fun r2=>some r2):=by kernel_rfl
def z1I.e (k:Nat):Entry:=Sg.entry z1I.sg fun x=>z1I.f k x.1 x.2
theorem z1I.ok (k:Nat):CallOK Tryz.prog 220 (z1I.e k):=fn_ok (c:=z1I.cx k) (code:=z1I.body) (TT.of tt_ok pp_ok mm_ok) (fns_ok ⟨(z0t.ok k),(z1m.ok k),trivial⟩) mixed Tryz.func220 (by kernel_rfl) (by kernel_rfl) (by kernel_rfl) (by kernel_rfl) (by kernel_rfl) (by kernel_rfl) (fun x=>by kernel_rfl)
def z1c.body:Go.Code:=Tryz.f170.body.getD .skip
def z1c.rs:List Go.ResultVar:=Tryz.f170.results.toList
def z1c.regs:List (Nat × RInfo):=[(0,ri [0] []),(1,ri [0,3] []),(2,⟨[0,3,7],[],[],[],0,[0,3],[],[],[],[]⟩),(4,ri [0,3,32] []),(5,ri [2] []),(6,rq [0,3,47] [] 15),(7,ri [2] []),(3,ri [0,3] []),(8,ri [2] [])]
def z1c.cx (k:Nat):Cx:=⟨tt,pp,[(77,(z12.e k)),(220,(z1I.e k))],z1c.regs,k,mm⟩
@[reducible] def z1c.sg:Sg:=⟨[.dat (.slc tUndo)],[],.dat .bool,[]⟩
def z1c.f (k:Nat) (a0:Ty.D (.slc tUndo)):Option (Sg.Out z1c.sg):=Sg.fn z1c.sg (z1c.cx k) z1c.body z1c.rs a0
def z1c.l2 (k:Nat) (n:Nat) (x0:Ty.D (.slc tUndo)) (x3:Ty.D (.int .i64)):Option (Sg.Out z1c.sg):=loopAt (z1c.cx k) z1c.body [1,0,1,0] 2 [0,3] [] [] (Sg.K z1c.sg (z1c.cx k) z1c.rs) n ⟨[(0,.dat (.slc tUndo) x0),(3,.dat (.int .i64) x3)],[]⟩
theorem z1c.f_eq (k:Nat) (a0:Ty.D (.slc tUndo)):z1c.f k a0=z1c.l2 k k a0 0:=by kernel_rfl
theorem z1c.l2_eq (k:Nat) (n2:Nat) (x0:Ty.D (.slc tUndo)) (x3:Ty.D (.int .i64)):z1c.l2 k (n2+1) x0 x3=br (ilt x3 (ilen x0)) (br (inL x3 x0) (bnd (z12.f k ((rd tUndo x0 (natOf x3)).1)) fun r0=>br (bnot r0) (some false) (br (inL x3 x0) (br (ilt ((rd tUndo x0 (natOf x3)).2) 0) (some false) (br (inL x3 x0) (br (ilt 15 ((rd tUndo x0 (natOf x3)).2)) (some false) (br (ilt 0 x3) (br (inL (isub .i64 x3 1) x0) (br (inL x3 x0) (bnd (z1I.f k (rd tUndo x0 (natOf (isub .i64 x3 1))) (rd tUndo x0 (natOf x3))) fun r1=>br (bnot (ieq r1 (-1))) (some false) (z1c.l2 k n2 x0 (iadd .i64 x3 1))) none) none) (z1c.l2 k n2 x0 (iadd .i64 x3 1)))) none)) none)) none) (some true):=by kernel_rfl
def z1c.e (k:Nat):Entry:=Sg.entry z1c.sg fun x=>z1c.f k x
theorem z1c.ok (k:Nat):CallOK Tryz.prog 170 (z1c.e k):=fn_ok (c:=z1c.cx k) (code:=z1c.body) (TT.of tt_ok pp_ok mm_ok) (fns_ok ⟨(z12.ok k),(z1I.ok k),trivial⟩) mixed Tryz.func170 (by kernel_rfl) (by kernel_rfl) (by kernel_rfl) (by kernel_rfl) (by kernel_rfl) (by kernel_rfl) (fun x=>by kernel_rfl)
def z0P.body:Go.Code:=Tryz.f115.body.getD .skip
def z0P.rs:List Go.ResultVar:=Tryz.f115.results.toList
def z0P.regs:List (Nat × RInfo):=[(0,⟨[1],[1],[0],[],0,[],[],[],[],[]⟩),(1,ri [1,12] [1]),(2,ri [2] [15]),(3,ri [1,3] [1,15]),(4,ri [1,3,17] [1,15]),(5,ri [2] [15]),(6,ri [1,4] [1,4]),(7,ri [1,33] [1]),(8,ri [2] [15]),(9,ri [1,47] [1]),(10,ri [2] [15]),(11,ri [1,75] [1]),(12,ri [2] [15]),(13,ri [1,89] [1]),(14,ri [2] [15]),(15,ri [1,93] [1]),(16,ri [2] [15]),(17,ri [97] []),(18,ri [2] [15]),(19,ri [2] [15])]
def z0P.cx (k:Nat):Cx:=⟨tt,pp,[(168,(z0M.e k)),(169,(z0V.e k)),(170,(z1c.e k))],z0P.regs,k,mm⟩
@[reducible] def z0P.sg:Sg:=⟨[.dat tOp],[],.dat (.int .i64),[]⟩
def z0P.f (k:Nat) (a0:Ty.D tOp):Option (Sg.Out z0P.sg):=Sg.fn z0P.sg (z0P.cx k) z0P.body z0P.rs a0
theorem z0P.f_eq (k:Nat) (a0:Ty.D tOp):z0P.f k a0=br (ilt a0.1 1) (some 18) (br (ilt 5 a0.1) (some 18) (bnd (z0M.f k a0.2.1) fun r0=>br (bnot (ieq r0 0)) (some r0) (br (ieq a0.1 3) (br (bnot (deq tValue a0.2.2.1 (0,(0,[])))) (some 2) (br (bnot (ieq a0.1 3)) (br (bnot (ieq a0.1 5)) (bnd (z0V.f k a0.2.2.1) fun r1=>br (bnot r1) (some 2) (br (bnot (ieq a0.1 3)) (br (bnot (ieq a0.2.2.2.1 0)) (some 2) (br (ieq a0.1 3) (br (ieq a0.2.2.2.1 0) (some 2) (br (ilt 2147483647 a0.2.2.2.1) (some 2) (br (ilt a0.2.2.2.1 (-2147483647)) (some 2) (br (ieq a0.1 2) (br (ilt 0 (ilen a0.2.2.2.2)) (some 2) (br (ilt 256 (ilen a0.2.2.2.2)) (some 7) (bnd (z1c.f k a0.2.2.2.2) fun r2=>br (bnot r2) (some 2) (some 0)))) (br (ieq a0.1 3) (br (ilt 0 (ilen a0.2.2.2.2)) (some 2) (br (ilt 256 (ilen a0.2.2.2.2)) (some 7) (bnd (z1c.f k a0.2.2.2.2) fun r3=>br (bnot r3) (some 2) (some 0)))) (br (ilt 256 (ilen a0.2.2.2.2)) (some 7) (bnd (z1c.f k a0.2.2.2.2) fun r4=>br (bnot r4) (some 2) (some 0)))))))) (br (ieq a0.1 2) (br (ilt 0 (ilen a0.2.2.2.2)) (some 2) (br (ilt 256 (ilen a0.2.2.2.2)) (some 7) (bnd (z1c.f k a0.2.2.2.2) fun r5=>br (bnot r5) (some 2) (some 0)))) (br (ieq a0.1 3) (br (ilt 0 (ilen a0.2.2.2.2)) (some 2) (br (ilt 256 (ilen a0.2.2.2.2)) (some 7) (bnd (z1c.f k a0.2.2.2.2) fun r6=>br (bnot r6) (some 2) (some 0)))) (br (ilt 256 (ilen a0.2.2.2.2)) (some 7) (bnd (z1c.f k a0.2.2.2.2) fun r7=>br (bnot r7) (some 2) (some 0))))))) (br (ieq a0.1 3) (br (ieq a0.2.2.2.1 0) (some 2) (br (ilt 2147483647 a0.2.2.2.1) (some 2) (br (ilt a0.2.2.2.1 (-2147483647)) (some 2) (br (ieq a0.1 2) (br (ilt 0 (ilen a0.2.2.2.2)) (some 2) (br (ilt 256 (ilen a0.2.2.2.2)) (some 7) (bnd (z1c.f k a0.2.2.2.2) fun r8=>br (bnot r8) (some 2) (some 0)))) (br (ieq a0.1 3) (br (ilt 0 (ilen a0.2.2.2.2)) (some 2) (br (ilt 256 (ilen a0.2.2.2.2)) (some 7) (bnd (z1c.f k a0.2.2.2.2) fun r9=>br (bnot r9) (some 2) (some 0)))) (br (ilt 256 (ilen a0.2.2.2.2)) (some 7) (bnd (z1c.f k a0.2.2.2.2) fun r10=>br (bnot r10) (some 2) (some 0)))))))) (br (ieq a0.1 2) (br (ilt 0 (ilen a0.2.2.2.2)) (some 2) (br (ilt 256 (ilen a0.2.2.2.2)) (some 7) (bnd (z1c.f k a0.2.2.2.2) fun r11=>br (bnot r11) (some 2) (some 0)))) (br (ieq a0.1 3) (br (ilt 0 (ilen a0.2.2.2.2)) (some 2) (br (ilt 256 (ilen a0.2.2.2.2)) (some 7) (bnd (z1c.f k a0.2.2.2.2) fun r12=>br (bnot r12) (some 2) (some 0)))) (br (ilt 256 (ilen a0.2.2.2.2)) (some 7) (bnd (z1c.f k a0.2.2.2.2) fun r13=>br (bnot r13) (some 2) (some 0)))))))) (br (bnot (ieq a0.1 3)) (br (bnot (ieq a0.2.2.2.1 0)) (some 2) (br (ieq a0.1 3) (br (ieq a0.2.2.2.1 0) (some 2) (br (ilt 2147483647 a0.2.2.2.1) (some 2) (br (ilt a0.2.2.2.1 (-2147483647)) (some 2) (br (ieq a0.1 2) (br (ilt 0 (ilen a0.2.2.2.2)) (some 2) (br (ilt 256 (ilen a0.2.2.2.2)) (some 7) (bnd (z1c.f k a0.2.2.2.2) fun r14=>br (bnot r14) (some 2) (some 0)))) (br (ieq a0.1 3) (br (ilt 0 (ilen a0.2.2.2.2)) (some 2) (br (ilt 256 (ilen a0.2.2.2.2)) (some 7) (bnd (z1c.f k a0.2.2.2.2) fun r15=>br (bnot r15) (some 2) (some 0)))) (br (ilt 256 (ilen a0.2.2.2.2)) (some 7) (bnd (z1c.f k a0.2.2.2.2) fun r16=>br (bnot r16) (some 2) (some 0)))))))) (br (ieq a0.1 2) (br (ilt 0 (ilen a0.2.2.2.2)) (some 2) (br (ilt 256 (ilen a0.2.2.2.2)) (some 7) (bnd (z1c.f k a0.2.2.2.2) fun r17=>br (bnot r17) (some 2) (some 0)))) (br (ieq a0.1 3) (br (ilt 0 (ilen a0.2.2.2.2)) (some 2) (br (ilt 256 (ilen a0.2.2.2.2)) (some 7) (bnd (z1c.f k a0.2.2.2.2) fun r18=>br (bnot r18) (some 2) (some 0)))) (br (ilt 256 (ilen a0.2.2.2.2)) (some 7) (bnd (z1c.f k a0.2.2.2.2) fun r19=>br (bnot r19) (some 2) (some 0))))))) (br (ieq a0.1 3) (br (ieq a0.2.2.2.1 0) (some 2) (br (ilt 2147483647 a0.2.2.2.1) (some 2) (br (ilt a0.2.2.2.1 (-2147483647)) (some 2) (br (ieq a0.1 2) (br (ilt 0 (ilen a0.2.2.2.2)) (some 2) (br (ilt 256 (ilen a0.2.2.2.2)) (some 7) (bnd (z1c.f k a0.2.2.2.2) fun r20=>br (bnot r20) (some 2) (some 0)))) (br (ieq a0.1 3) (br (ilt 0 (ilen a0.2.2.2.2)) (some 2) (br (ilt 256 (ilen a0.2.2.2.2)) (some 7) (bnd (z1c.f k a0.2.2.2.2) fun r21=>br (bnot r21) (some 2) (some 0)))) (br (ilt 256 (ilen a0.2.2.2.2)) (some 7) (bnd (z1c.f k a0.2.2.2.2) fun r22=>br (bnot r22) (some 2) (some 0)))))))) (br (ieq a0.1 2) (br (ilt 0 (ilen a0.2.2.2.2)) (some 2) (br (ilt 256 (ilen a0.2.2.2.2)) (some 7) (bnd (z1c.f k a0.2.2.2.2) fun r23=>br (bnot r23) (some 2) (some 0)))) (br (ieq a0.1 3) (br (ilt 0 (ilen a0.2.2.2.2)) (some 2) (br (ilt 256 (ilen a0.2.2.2.2)) (some 7) (bnd (z1c.f k a0.2.2.2.2) fun r24=>br (bnot r24) (some 2) (some 0)))) (br (ilt 256 (ilen a0.2.2.2.2)) (some 7) (bnd (z1c.f k a0.2.2.2.2) fun r25=>br (bnot r25) (some 2) (some 0)))))))) (br (bnot (ieq a0.1 3)) (br (bnot (ieq a0.2.2.2.1 0)) (some 2) (br (ieq a0.1 3) (br (ieq a0.2.2.2.1 0) (some 2) (br (ilt 2147483647 a0.2.2.2.1) (some 2) (br (ilt a0.2.2.2.1 (-2147483647)) (some 2) (br (ieq a0.1 2) (br (ilt 0 (ilen a0.2.2.2.2)) (some 2) (br (ilt 256 (ilen a0.2.2.2.2)) (some 7) (bnd (z1c.f k a0.2.2.2.2) fun r26=>br (bnot r26) (some 2) (some 0)))) (br (ieq a0.1 3) (br (ilt 0 (ilen a0.2.2.2.2)) (some 2) (br (ilt 256 (ilen a0.2.2.2.2)) (some 7) (bnd (z1c.f k a0.2.2.2.2) fun r27=>br (bnot r27) (some 2) (some 0)))) (br (ilt 256 (ilen a0.2.2.2.2)) (some 7) (bnd (z1c.f k a0.2.2.2.2) fun r28=>br (bnot r28) (some 2) (some 0)))))))) (br (ieq a0.1 2) (br (ilt 0 (ilen a0.2.2.2.2)) (some 2) (br (ilt 256 (ilen a0.2.2.2.2)) (some 7) (bnd (z1c.f k a0.2.2.2.2) fun r29=>br (bnot r29) (some 2) (some 0)))) (br (ieq a0.1 3) (br (ilt 0 (ilen a0.2.2.2.2)) (some 2) (br (ilt 256 (ilen a0.2.2.2.2)) (some 7) (bnd (z1c.f k a0.2.2.2.2) fun r30=>br (bnot r30) (some 2) (some 0)))) (br (ilt 256 (ilen a0.2.2.2.2)) (some 7) (bnd (z1c.f k a0.2.2.2.2) fun r31=>br (bnot r31) (some 2) (some 0))))))) (br (ieq a0.1 3) (br (ieq a0.2.2.2.1 0) (some 2) (br (ilt 2147483647 a0.2.2.2.1) (some 2) (br (ilt a0.2.2.2.1 (-2147483647)) (some 2) (br (ieq a0.1 2) (br (ilt 0 (ilen a0.2.2.2.2)) (some 2) (br (ilt 256 (ilen a0.2.2.2.2)) (some 7) (bnd (z1c.f k a0.2.2.2.2) fun r32=>br (bnot r32) (some 2) (some 0)))) (br (ieq a0.1 3) (br (ilt 0 (ilen a0.2.2.2.2)) (some 2) (br (ilt 256 (ilen a0.2.2.2.2)) (some 7) (bnd (z1c.f k a0.2.2.2.2) fun r33=>br (bnot r33) (some 2) (some 0)))) (br (ilt 256 (ilen a0.2.2.2.2)) (some 7) (bnd (z1c.f k a0.2.2.2.2) fun r34=>br (bnot r34) (some 2) (some 0)))))))) (br (ieq a0.1 2) (br (ilt 0 (ilen a0.2.2.2.2)) (some 2) (br (ilt 256 (ilen a0.2.2.2.2)) (some 7) (bnd (z1c.f k a0.2.2.2.2) fun r35=>br (bnot r35) (some 2) (some 0)))) (br (ieq a0.1 3) (br (ilt 0 (ilen a0.2.2.2.2)) (some 2) (br (ilt 256 (ilen a0.2.2.2.2)) (some 7) (bnd (z1c.f k a0.2.2.2.2) fun r36=>br (bnot r36) (some 2) (some 0)))) (br (ilt 256 (ilen a0.2.2.2.2)) (some 7) (bnd (z1c.f k a0.2.2.2.2) fun r37=>br (bnot r37) (some 2) (some 0))))))))) (br (ieq a0.1 5) (br (bnot (deq tValue a0.2.2.1 (0,(0,[])))) (some 2) (br (bnot (ieq a0.1 3)) (br (bnot (ieq a0.1 5)) (bnd (z0V.f k a0.2.2.1) fun r38=>br (bnot r38) (some 2) (br (bnot (ieq a0.1 3)) (br (bnot (ieq a0.2.2.2.1 0)) (some 2) (br (ieq a0.1 3) (br (ieq a0.2.2.2.1 0) (some 2) (br (ilt 2147483647 a0.2.2.2.1) (some 2) (br (ilt a0.2.2.2.1 (-2147483647)) (some 2) (br (ieq a0.1 2) (br (ilt 0 (ilen a0.2.2.2.2)) (some 2) (br (ilt 256 (ilen a0.2.2.2.2)) (some 7) (bnd (z1c.f k a0.2.2.2.2) fun r39=>br (bnot r39) (some 2) (some 0)))) (br (ieq a0.1 3) (br (ilt 0 (ilen a0.2.2.2.2)) (some 2) (br (ilt 256 (ilen a0.2.2.2.2)) (some 7) (bnd (z1c.f k a0.2.2.2.2) fun r40=>br (bnot r40) (some 2) (some 0)))) (br (ilt 256 (ilen a0.2.2.2.2)) (some 7) (bnd (z1c.f k a0.2.2.2.2) fun r41=>br (bnot r41) (some 2) (some 0)))))))) (br (ieq a0.1 2) (br (ilt 0 (ilen a0.2.2.2.2)) (some 2) (br (ilt 256 (ilen a0.2.2.2.2)) (some 7) (bnd (z1c.f k a0.2.2.2.2) fun r42=>br (bnot r42) (some 2) (some 0)))) (br (ieq a0.1 3) (br (ilt 0 (ilen a0.2.2.2.2)) (some 2) (br (ilt 256 (ilen a0.2.2.2.2)) (some 7) (bnd (z1c.f k a0.2.2.2.2) fun r43=>br (bnot r43) (some 2) (some 0)))) (br (ilt 256 (ilen a0.2.2.2.2)) (some 7) (bnd (z1c.f k a0.2.2.2.2) fun r44=>br (bnot r44) (some 2) (some 0))))))) (br (ieq a0.1 3) (br (ieq a0.2.2.2.1 0) (some 2) (br (ilt 2147483647 a0.2.2.2.1) (some 2) (br (ilt a0.2.2.2.1 (-2147483647)) (some 2) (br (ieq a0.1 2) (br (ilt 0 (ilen a0.2.2.2.2)) (some 2) (br (ilt 256 (ilen a0.2.2.2.2)) (some 7) (bnd (z1c.f k a0.2.2.2.2) fun r45=>br (bnot r45) (some 2) (some 0)))) (br (ieq a0.1 3) (br (ilt 0 (ilen a0.2.2.2.2)) (some 2) (br (ilt 256 (ilen a0.2.2.2.2)) (some 7) (bnd (z1c.f k a0.2.2.2.2) fun r46=>br (bnot r46) (some 2) (some 0)))) (br (ilt 256 (ilen a0.2.2.2.2)) (some 7) (bnd (z1c.f k a0.2.2.2.2) fun r47=>br (bnot r47) (some 2) (some 0)))))))) (br (ieq a0.1 2) (br (ilt 0 (ilen a0.2.2.2.2)) (some 2) (br (ilt 256 (ilen a0.2.2.2.2)) (some 7) (bnd (z1c.f k a0.2.2.2.2) fun r48=>br (bnot r48) (some 2) (some 0)))) (br (ieq a0.1 3) (br (ilt 0 (ilen a0.2.2.2.2)) (some 2) (br (ilt 256 (ilen a0.2.2.2.2)) (some 7) (bnd (z1c.f k a0.2.2.2.2) fun r49=>br (bnot r49) (some 2) (some 0)))) (br (ilt 256 (ilen a0.2.2.2.2)) (some 7) (bnd (z1c.f k a0.2.2.2.2) fun r50=>br (bnot r50) (some 2) (some 0)))))))) (br (bnot (ieq a0.1 3)) (br (bnot (ieq a0.2.2.2.1 0)) (some 2) (br (ieq a0.1 3) (br (ieq a0.2.2.2.1 0) (some 2) (br (ilt 2147483647 a0.2.2.2.1) (some 2) (br (ilt a0.2.2.2.1 (-2147483647)) (some 2) (br (ieq a0.1 2) (br (ilt 0 (ilen a0.2.2.2.2)) (some 2) (br (ilt 256 (ilen a0.2.2.2.2)) (some 7) (bnd (z1c.f k a0.2.2.2.2) fun r51=>br (bnot r51) (some 2) (some 0)))) (br (ieq a0.1 3) (br (ilt 0 (ilen a0.2.2.2.2)) (some 2) (br (ilt 256 (ilen a0.2.2.2.2)) (some 7) (bnd (z1c.f k a0.2.2.2.2) fun r52=>br (bnot r52) (some 2) (some 0)))) (br (ilt 256 (ilen a0.2.2.2.2)) (some 7) (bnd (z1c.f k a0.2.2.2.2) fun r53=>br (bnot r53) (some 2) (some 0)))))))) (br (ieq a0.1 2) (br (ilt 0 (ilen a0.2.2.2.2)) (some 2) (br (ilt 256 (ilen a0.2.2.2.2)) (some 7) (bnd (z1c.f k a0.2.2.2.2) fun r54=>br (bnot r54) (some 2) (some 0)))) (br (ieq a0.1 3) (br (ilt 0 (ilen a0.2.2.2.2)) (some 2) (br (ilt 256 (ilen a0.2.2.2.2)) (some 7) (bnd (z1c.f k a0.2.2.2.2) fun r55=>br (bnot r55) (some 2) (some 0)))) (br (ilt 256 (ilen a0.2.2.2.2)) (some 7) (bnd (z1c.f k a0.2.2.2.2) fun r56=>br (bnot r56) (some 2) (some 0))))))) (br (ieq a0.1 3) (br (ieq a0.2.2.2.1 0) (some 2) (br (ilt 2147483647 a0.2.2.2.1) (some 2) (br (ilt a0.2.2.2.1 (-2147483647)) (some 2) (br (ieq a0.1 2) (br (ilt 0 (ilen a0.2.2.2.2)) (some 2) (br (ilt 256 (ilen a0.2.2.2.2)) (some 7) (bnd (z1c.f k a0.2.2.2.2) fun r57=>br (bnot r57) (some 2) (some 0)))) (br (ieq a0.1 3) (br (ilt 0 (ilen a0.2.2.2.2)) (some 2) (br (ilt 256 (ilen a0.2.2.2.2)) (some 7) (bnd (z1c.f k a0.2.2.2.2) fun r58=>br (bnot r58) (some 2) (some 0)))) (br (ilt 256 (ilen a0.2.2.2.2)) (some 7) (bnd (z1c.f k a0.2.2.2.2) fun r59=>br (bnot r59) (some 2) (some 0)))))))) (br (ieq a0.1 2) (br (ilt 0 (ilen a0.2.2.2.2)) (some 2) (br (ilt 256 (ilen a0.2.2.2.2)) (some 7) (bnd (z1c.f k a0.2.2.2.2) fun r60=>br (bnot r60) (some 2) (some 0)))) (br (ieq a0.1 3) (br (ilt 0 (ilen a0.2.2.2.2)) (some 2) (br (ilt 256 (ilen a0.2.2.2.2)) (some 7) (bnd (z1c.f k a0.2.2.2.2) fun r61=>br (bnot r61) (some 2) (some 0)))) (br (ilt 256 (ilen a0.2.2.2.2)) (some 7) (bnd (z1c.f k a0.2.2.2.2) fun r62=>br (bnot r62) (some 2) (some 0)))))))) (br (bnot (ieq a0.1 3)) (br (bnot (ieq a0.2.2.2.1 0)) (some 2) (br (ieq a0.1 3) (br (ieq a0.2.2.2.1 0) (some 2) (br (ilt 2147483647 a0.2.2.2.1) (some 2) (br (ilt a0.2.2.2.1 (-2147483647)) (some 2) (br (ieq a0.1 2) (br (ilt 0 (ilen a0.2.2.2.2)) (some 2) (br (ilt 256 (ilen a0.2.2.2.2)) (some 7) (bnd (z1c.f k a0.2.2.2.2) fun r63=>br (bnot r63) (some 2) (some 0)))) (br (ieq a0.1 3) (br (ilt 0 (ilen a0.2.2.2.2)) (some 2) (br (ilt 256 (ilen a0.2.2.2.2)) (some 7) (bnd (z1c.f k a0.2.2.2.2) fun r64=>br (bnot r64) (some 2) (some 0)))) (br (ilt 256 (ilen a0.2.2.2.2)) (some 7) (bnd (z1c.f k a0.2.2.2.2) fun r65=>br (bnot r65) (some 2) (some 0)))))))) (br (ieq a0.1 2) (br (ilt 0 (ilen a0.2.2.2.2)) (some 2) (br (ilt 256 (ilen a0.2.2.2.2)) (some 7) (bnd (z1c.f k a0.2.2.2.2) fun r66=>br (bnot r66) (some 2) (some 0)))) (br (ieq a0.1 3) (br (ilt 0 (ilen a0.2.2.2.2)) (some 2) (br (ilt 256 (ilen a0.2.2.2.2)) (some 7) (bnd (z1c.f k a0.2.2.2.2) fun r67=>br (bnot r67) (some 2) (some 0)))) (br (ilt 256 (ilen a0.2.2.2.2)) (some 7) (bnd (z1c.f k a0.2.2.2.2) fun r68=>br (bnot r68) (some 2) (some 0))))))) (br (ieq a0.1 3) (br (ieq a0.2.2.2.1 0) (some 2) (br (ilt 2147483647 a0.2.2.2.1) (some 2) (br (ilt a0.2.2.2.1 (-2147483647)) (some 2) (br (ieq a0.1 2) (br (ilt 0 (ilen a0.2.2.2.2)) (some 2) (br (ilt 256 (ilen a0.2.2.2.2)) (some 7) (bnd (z1c.f k a0.2.2.2.2) fun r69=>br (bnot r69) (some 2) (some 0)))) (br (ieq a0.1 3) (br (ilt 0 (ilen a0.2.2.2.2)) (some 2) (br (ilt 256 (ilen a0.2.2.2.2)) (some 7) (bnd (z1c.f k a0.2.2.2.2) fun r70=>br (bnot r70) (some 2) (some 0)))) (br (ilt 256 (ilen a0.2.2.2.2)) (some 7) (bnd (z1c.f k a0.2.2.2.2) fun r71=>br (bnot r71) (some 2) (some 0)))))))) (br (ieq a0.1 2) (br (ilt 0 (ilen a0.2.2.2.2)) (some 2) (br (ilt 256 (ilen a0.2.2.2.2)) (some 7) (bnd (z1c.f k a0.2.2.2.2) fun r72=>br (bnot r72) (some 2) (some 0)))) (br (ieq a0.1 3) (br (ilt 0 (ilen a0.2.2.2.2)) (some 2) (br (ilt 256 (ilen a0.2.2.2.2)) (some 7) (bnd (z1c.f k a0.2.2.2.2) fun r73=>br (bnot r73) (some 2) (some 0)))) (br (ilt 256 (ilen a0.2.2.2.2)) (some 7) (bnd (z1c.f k a0.2.2.2.2) fun r74=>br (bnot r74) (some 2) (some 0))))))))) (br (bnot (ieq a0.1 3)) (br (bnot (ieq a0.1 5)) (bnd (z0V.f k a0.2.2.1) fun r75=>br (bnot r75) (some 2) (br (bnot (ieq a0.1 3)) (br (bnot (ieq a0.2.2.2.1 0)) (some 2) (br (ieq a0.1 3) (br (ieq a0.2.2.2.1 0) (some 2) (br (ilt 2147483647 a0.2.2.2.1) (some 2) (br (ilt a0.2.2.2.1 (-2147483647)) (some 2) (br (ieq a0.1 2) (br (ilt 0 (ilen a0.2.2.2.2)) (some 2) (br (ilt 256 (ilen a0.2.2.2.2)) (some 7) (bnd (z1c.f k a0.2.2.2.2) fun r76=>br (bnot r76) (some 2) (some 0)))) (br (ieq a0.1 3) (br (ilt 0 (ilen a0.2.2.2.2)) (some 2) (br (ilt 256 (ilen a0.2.2.2.2)) (some 7) (bnd (z1c.f k a0.2.2.2.2) fun r77=>br (bnot r77) (some 2) (some 0)))) (br (ilt 256 (ilen a0.2.2.2.2)) (some 7) (bnd (z1c.f k a0.2.2.2.2) fun r78=>br (bnot r78) (some 2) (some 0)))))))) (br (ieq a0.1 2) (br (ilt 0 (ilen a0.2.2.2.2)) (some 2) (br (ilt 256 (ilen a0.2.2.2.2)) (some 7) (bnd (z1c.f k a0.2.2.2.2) fun r79=>br (bnot r79) (some 2) (some 0)))) (br (ieq a0.1 3) (br (ilt 0 (ilen a0.2.2.2.2)) (some 2) (br (ilt 256 (ilen a0.2.2.2.2)) (some 7) (bnd (z1c.f k a0.2.2.2.2) fun r80=>br (bnot r80) (some 2) (some 0)))) (br (ilt 256 (ilen a0.2.2.2.2)) (some 7) (bnd (z1c.f k a0.2.2.2.2) fun r81=>br (bnot r81) (some 2) (some 0))))))) (br (ieq a0.1 3) (br (ieq a0.2.2.2.1 0) (some 2) (br (ilt 2147483647 a0.2.2.2.1) (some 2) (br (ilt a0.2.2.2.1 (-2147483647)) (some 2) (br (ieq a0.1 2) (br (ilt 0 (ilen a0.2.2.2.2)) (some 2) (br (ilt 256 (ilen a0.2.2.2.2)) (some 7) (bnd (z1c.f k a0.2.2.2.2) fun r82=>br (bnot r82) (some 2) (some 0)))) (br (ieq a0.1 3) (br (ilt 0 (ilen a0.2.2.2.2)) (some 2) (br (ilt 256 (ilen a0.2.2.2.2)) (some 7) (bnd (z1c.f k a0.2.2.2.2) fun r83=>br (bnot r83) (some 2) (some 0)))) (br (ilt 256 (ilen a0.2.2.2.2)) (some 7) (bnd (z1c.f k a0.2.2.2.2) fun r84=>br (bnot r84) (some 2) (some 0)))))))) (br (ieq a0.1 2) (br (ilt 0 (ilen a0.2.2.2.2)) (some 2) (br (ilt 256 (ilen a0.2.2.2.2)) (some 7) (bnd (z1c.f k a0.2.2.2.2) fun r85=>br (bnot r85) (some 2) (some 0)))) (br (ieq a0.1 3) (br (ilt 0 (ilen a0.2.2.2.2)) (some 2) (br (ilt 256 (ilen a0.2.2.2.2)) (some 7) (bnd (z1c.f k a0.2.2.2.2) fun r86=>br (bnot r86) (some 2) (some 0)))) (br (ilt 256 (ilen a0.2.2.2.2)) (some 7) (bnd (z1c.f k a0.2.2.2.2) fun r87=>br (bnot r87) (some 2) (some 0)))))))) (br (bnot (ieq a0.1 3)) (br (bnot (ieq a0.2.2.2.1 0)) (some 2) (br (ieq a0.1 3) (br (ieq a0.2.2.2.1 0) (some 2) (br (ilt 2147483647 a0.2.2.2.1) (some 2) (br (ilt a0.2.2.2.1 (-2147483647)) (some 2) (br (ieq a0.1 2) (br (ilt 0 (ilen a0.2.2.2.2)) (some 2) (br (ilt 256 (ilen a0.2.2.2.2)) (some 7) (bnd (z1c.f k a0.2.2.2.2) fun r88=>br (bnot r88) (some 2) (some 0)))) (br (ieq a0.1 3) (br (ilt 0 (ilen a0.2.2.2.2)) (some 2) (br (ilt 256 (ilen a0.2.2.2.2)) (some 7) (bnd (z1c.f k a0.2.2.2.2) fun r89=>br (bnot r89) (some 2) (some 0)))) (br (ilt 256 (ilen a0.2.2.2.2)) (some 7) (bnd (z1c.f k a0.2.2.2.2) fun r90=>br (bnot r90) (some 2) (some 0)))))))) (br (ieq a0.1 2) (br (ilt 0 (ilen a0.2.2.2.2)) (some 2) (br (ilt 256 (ilen a0.2.2.2.2)) (some 7) (bnd (z1c.f k a0.2.2.2.2) fun r91=>br (bnot r91) (some 2) (some 0)))) (br (ieq a0.1 3) (br (ilt 0 (ilen a0.2.2.2.2)) (some 2) (br (ilt 256 (ilen a0.2.2.2.2)) (some 7) (bnd (z1c.f k a0.2.2.2.2) fun r92=>br (bnot r92) (some 2) (some 0)))) (br (ilt 256 (ilen a0.2.2.2.2)) (some 7) (bnd (z1c.f k a0.2.2.2.2) fun r93=>br (bnot r93) (some 2) (some 0))))))) (br (ieq a0.1 3) (br (ieq a0.2.2.2.1 0) (some 2) (br (ilt 2147483647 a0.2.2.2.1) (some 2) (br (ilt a0.2.2.2.1 (-2147483647)) (some 2) (br (ieq a0.1 2) (br (ilt 0 (ilen a0.2.2.2.2)) (some 2) (br (ilt 256 (ilen a0.2.2.2.2)) (some 7) (bnd (z1c.f k a0.2.2.2.2) fun r94=>br (bnot r94) (some 2) (some 0)))) (br (ieq a0.1 3) (br (ilt 0 (ilen a0.2.2.2.2)) (some 2) (br (ilt 256 (ilen a0.2.2.2.2)) (some 7) (bnd (z1c.f k a0.2.2.2.2) fun r95=>br (bnot r95) (some 2) (some 0)))) (br (ilt 256 (ilen a0.2.2.2.2)) (some 7) (bnd (z1c.f k a0.2.2.2.2) fun r96=>br (bnot r96) (some 2) (some 0)))))))) (br (ieq a0.1 2) (br (ilt 0 (ilen a0.2.2.2.2)) (some 2) (br (ilt 256 (ilen a0.2.2.2.2)) (some 7) (bnd (z1c.f k a0.2.2.2.2) fun r97=>br (bnot r97) (some 2) (some 0)))) (br (ieq a0.1 3) (br (ilt 0 (ilen a0.2.2.2.2)) (some 2) (br (ilt 256 (ilen a0.2.2.2.2)) (some 7) (bnd (z1c.f k a0.2.2.2.2) fun r98=>br (bnot r98) (some 2) (some 0)))) (br (ilt 256 (ilen a0.2.2.2.2)) (some 7) (bnd (z1c.f k a0.2.2.2.2) fun r99=>br (bnot r99) (some 2) (some 0)))))))) (br (bnot (ieq a0.1 3)) (br (bnot (ieq a0.2.2.2.1 0)) (some 2) (br (ieq a0.1 3) (br (ieq a0.2.2.2.1 0) (some 2) (br (ilt 2147483647 a0.2.2.2.1) (some 2) (br (ilt a0.2.2.2.1 (-2147483647)) (some 2) (br (ieq a0.1 2) (br (ilt 0 (ilen a0.2.2.2.2)) (some 2) (br (ilt 256 (ilen a0.2.2.2.2)) (some 7) (bnd (z1c.f k a0.2.2.2.2) fun r100=>br (bnot r100) (some 2) (some 0)))) (br (ieq a0.1 3) (br (ilt 0 (ilen a0.2.2.2.2)) (some 2) (br (ilt 256 (ilen a0.2.2.2.2)) (some 7) (bnd (z1c.f k a0.2.2.2.2) fun r101=>br (bnot r101) (some 2) (some 0)))) (br (ilt 256 (ilen a0.2.2.2.2)) (some 7) (bnd (z1c.f k a0.2.2.2.2) fun r102=>br (bnot r102) (some 2) (some 0)))))))) (br (ieq a0.1 2) (br (ilt 0 (ilen a0.2.2.2.2)) (some 2) (br (ilt 256 (ilen a0.2.2.2.2)) (some 7) (bnd (z1c.f k a0.2.2.2.2) fun r103=>br (bnot r103) (some 2) (some 0)))) (br (ieq a0.1 3) (br (ilt 0 (ilen a0.2.2.2.2)) (some 2) (br (ilt 256 (ilen a0.2.2.2.2)) (some 7) (bnd (z1c.f k a0.2.2.2.2) fun r104=>br (bnot r104) (some 2) (some 0)))) (br (ilt 256 (ilen a0.2.2.2.2)) (some 7) (bnd (z1c.f k a0.2.2.2.2) fun r105=>br (bnot r105) (some 2) (some 0))))))) (br (ieq a0.1 3) (br (ieq a0.2.2.2.1 0) (some 2) (br (ilt 2147483647 a0.2.2.2.1) (some 2) (br (ilt a0.2.2.2.1 (-2147483647)) (some 2) (br (ieq a0.1 2) (br (ilt 0 (ilen a0.2.2.2.2)) (some 2) (br (ilt 256 (ilen a0.2.2.2.2)) (some 7) (bnd (z1c.f k a0.2.2.2.2) fun r106=>br (bnot r106) (some 2) (some 0)))) (br (ieq a0.1 3) (br (ilt 0 (ilen a0.2.2.2.2)) (some 2) (br (ilt 256 (ilen a0.2.2.2.2)) (some 7) (bnd (z1c.f k a0.2.2.2.2) fun r107=>br (bnot r107) (some 2) (some 0)))) (br (ilt 256 (ilen a0.2.2.2.2)) (some 7) (bnd (z1c.f k a0.2.2.2.2) fun r108=>br (bnot r108) (some 2) (some 0)))))))) (br (ieq a0.1 2) (br (ilt 0 (ilen a0.2.2.2.2)) (some 2) (br (ilt 256 (ilen a0.2.2.2.2)) (some 7) (bnd (z1c.f k a0.2.2.2.2) fun r109=>br (bnot r109) (some 2) (some 0)))) (br (ieq a0.1 3) (br (ilt 0 (ilen a0.2.2.2.2)) (some 2) (br (ilt 256 (ilen a0.2.2.2.2)) (some 7) (bnd (z1c.f k a0.2.2.2.2) fun r110=>br (bnot r110) (some 2) (some 0)))) (br (ilt 256 (ilen a0.2.2.2.2)) (some 7) (bnd (z1c.f k a0.2.2.2.2) fun r111=>br (bnot r111) (some 2) (some 0)))))))))))):=by kernel_rfl
def z0P.e (k:Nat):Entry:=Sg.entry z0P.sg fun x=>z0P.f k x
theorem z0P.ok (k:Nat):CallOK Tryz.prog 115 (z0P.e k):=fn_ok (c:=z0P.cx k) (code:=z0P.body) (TT.of tt_ok pp_ok mm_ok) (fns_ok ⟨(z0M.ok k),(z0V.ok k),(z1c.ok k),trivial⟩) mixed Tryz.func115 (by kernel_rfl) (by kernel_rfl) (by kernel_rfl) (by kernel_rfl) (by kernel_rfl) (by kernel_rfl) (fun x=>by kernel_rfl)
@[reducible] def ref11_Read.sg:Sg:=⟨[.ref],[tref02Reader],.dat tOp,[tref02Reader]⟩
def z1o.body:Go.Code:=Tryz.f116.body.getD .skip
def z1o.rs:List Go.ResultVar:=Tryz.f116.results.toList
def z1o.regs:List (Nat × RInfo):=[(0,⟨[1],[1],[0],[],0,[],[],[],[],[]⟩),(1,ri [1,3] [1,3]),(2,ri [2] [])]
def z1o.cx (k:Nat):Cx:=⟨tt,pp,[],z1o.regs,k,mm⟩
@[reducible] def z1o.sg:Sg:=⟨[.dat tOp],[],.dat .bool,[]⟩
def z1o.f (k:Nat) (a0:Ty.D tOp):Option (Sg.Out z1o.sg):=Sg.fn z1o.sg (z1o.cx k) z1o.body z1o.rs a0
theorem z1o.f_eq (k:Nat) (a0:Ty.D tOp):z1o.f k a0=br (ieq a0.1 0) (br (ieq (ilen a0.2.1) 0) (br (deq tValue a0.2.2.1 (0,(0,[]))) (br (ieq a0.2.2.2.1 0) (some (ieq (ilen a0.2.2.2.2) 0)) (some false)) (some false)) (some false)) (some false):=by kernel_rfl
def z1o.e (k:Nat):Entry:=Sg.entry z1o.sg fun x=>z1o.f k x
theorem z1o.ok (k:Nat):CallOK Tryz.prog 116 (z1o.e k):=fn_ok (c:=z1o.cx k) (code:=z1o.body) (TT.of tt_ok pp_ok mm_ok) (fns_ok trivial) mixed Tryz.func116 (by kernel_rfl) (by kernel_rfl) (by kernel_rfl) (by kernel_rfl) (by kernel_rfl) (by kernel_rfl) (fun x=>by kernel_rfl)
def z17.body:Go.Code:=Tryz.f48.body.getD .skip
def z17.rs:List Go.ResultVar:=Tryz.f48.results.toList
def z17.regs:List (Nat × RInfo):=[(0,⟨[1],[1],[0],[],0,[],[],[],[],[]⟩),(1,ri [1,28] [1]),(2,ri [2] [49]),(3,ri [1,32] [1]),(4,ri [2] [49]),(5,ri [1,36] [1]),(6,ri [2] [49]),(7,ri [1,3] [1]),(8,⟨[1,3,41],[1],[],[],0,[1,3],[1],[],[],[]⟩),(10,ri [1,3,4] [1,49]),(11,ri [1,3,4,64] [1,49]),(12,ri [2] [49]),(9,ri [1,3] [1]),(13,ri [2] [49])]
def z17.cx (k:Nat):Cx:=⟨tt,pp,[(77,(z12.e k)),(115,(z0P.e k)),(116,(z1o.e k))],z17.regs,k,mm⟩
@[reducible] def z17.sg:Sg:=⟨[.dat tTxn],[],.dat (.int .i64),[]⟩
def z17.f (k:Nat) (a0:Ty.D tTxn):Option (Sg.Out z17.sg):=Sg.fn z17.sg (z17.cx k) z17.body z17.rs a0
def z17.l8 (k:Nat) (n:Nat) (x3:Ty.D (.int .i64)) (m1:Ty.D tTxn):Option (Sg.Out z17.sg):=loopAt (z17.cx k) z17.body [1,1,1,1,0,1,0] 8 [1,3] [1] [] (Sg.K z17.sg (z17.cx k) z17.rs) n ⟨[(1,.ref 1 []),(3,.dat (.int .i64) x3)],[(1,.dat tTxn m1)]⟩
theorem z17.f_eq (k:Nat) (a0:Ty.D tTxn):z17.f k a0=bnd (z12.f k a0.1) fun r0=>br (bnot r0) (some 2) (br (ilt a0.2.1 0) (some 2) (br (ilt 7 a0.2.1) (some 2) (br (ilt a0.2.2.1 1) (some 2) (br (ilt 1099511627776 a0.2.2.1) (some 2) (br (ieq (ilen a0.2.2.2.2) 0) (some 11) (br (ilt 16 (ilen a0.2.2.2.2)) (some 7) (z17.l8 k k 0 a0))))))):=by kernel_rfl
theorem z17.l8_eq (k:Nat) (n8:Nat) (x3:Ty.D (.int .i64)) (m1:Ty.D tTxn):z17.l8 k (n8+1) x3 m1=br (ilt x3 (ilen m1.2.2.2.2)) (br (inL x3 m1.2.2.2.2) (bnd (z0P.f k (rd tOp m1.2.2.2.2 (natOf x3))) fun r0=>br (bnot (ieq r0 0)) (br m1.2.2.2.1 (br (inL x3 m1.2.2.2.2) (bnd (z1o.f k (rd tOp m1.2.2.2.2 (natOf x3))) fun r1=>br (bnot r1) (some r0) (z17.l8 k n8 (iadd .i64 x3 1) m1)) none) (br (bnot false) (some r0) (z17.l8 k n8 (iadd .i64 x3 1) m1))) (z17.l8 k n8 (iadd .i64 x3 1) m1)) none) (some 0):=by kernel_rfl
def z17.e (k:Nat):Entry:=Sg.entry z17.sg fun x=>z17.f k x
theorem z17.ok (k:Nat):CallOK Tryz.prog 48 (z17.e k):=fn_ok (c:=z17.cx k) (code:=z17.body) (TT.of tt_ok pp_ok mm_ok) (fns_ok ⟨(z12.ok k),(z0P.ok k),(z1o.ok k),trivial⟩) mixed Tryz.func48 (by kernel_rfl) (by kernel_rfl) (by kernel_rfl) (by kernel_rfl) (by kernel_rfl) (by kernel_rfl) (fun x=>by kernel_rfl)
@[reducible] def ref12_Read.sg:Sg:=⟨[.ref],[tref02Reader],.dat tTxn,[tref02Reader]⟩
def z10.body:Go.Code:=Tryz.f75.body.getD .skip
def z10.rs:List Go.ResultVar:=Tryz.f75.results.toList
def z10.regs:List (Nat × RInfo):=[(0,ri [0] []),(1,ri [0,3] []),(2,⟨[0,3,7],[],[],[],0,[0,3],[],[],[],[]⟩),(4,rq [0,3,22] [] 13),(5,ri [2] []),(3,ri [0,3] []),(6,ri [2] [])]
def z10.cx (k:Nat):Cx:=⟨tt,pp,[(118,(z0t.e k))],z10.regs,k,mm⟩
@[reducible] def z10.sg:Sg:=⟨[.dat (.slc tTxn)],[],.dat .bool,[]⟩
def z10.f (k:Nat) (a0:Ty.D (.slc tTxn)):Option (Sg.Out z10.sg):=Sg.fn z10.sg (z10.cx k) z10.body z10.rs a0
def z10.l2 (k:Nat) (n:Nat) (x0:Ty.D (.slc tTxn)) (x3:Ty.D (.int .i64)):Option (Sg.Out z10.sg):=loopAt (z10.cx k) z10.body [1,0,1,0] 2 [0,3] [] [] (Sg.K z10.sg (z10.cx k) z10.rs) n ⟨[(0,.dat (.slc tTxn) x0),(3,.dat (.int .i64) x3)],[]⟩
theorem z10.f_eq (k:Nat) (a0:Ty.D (.slc tTxn)):z10.f k a0=z10.l2 k k a0 1:=by kernel_rfl
theorem z10.l2_eq (k:Nat) (n2:Nat) (x0:Ty.D (.slc tTxn)) (x3:Ty.D (.int .i64)):z10.l2 k (n2+1) x0 x3=br (ilt x3 (ilen x0)) (br (inL (isub .i64 x3 1) x0) (br (inL x3 x0) (bnd (z0t.f k ((rd tTxn x0 (natOf (isub .i64 x3 1))).1) ((rd tTxn x0 (natOf x3)).1)) fun r0=>br (bnot (ieq r0 (-1))) (some false) (z10.l2 k n2 x0 (iadd .i64 x3 1))) none) none) (some true):=by kernel_rfl
def z10.e (k:Nat):Entry:=Sg.entry z10.sg fun x=>z10.f k x
theorem z10.ok (k:Nat):CallOK Tryz.prog 75 (z10.e k):=fn_ok (c:=z10.cx k) (code:=z10.body) (TT.of tt_ok pp_ok mm_ok) (fns_ok ⟨(z0t.ok k),trivial⟩) mixed Tryz.func75 (by kernel_rfl) (by kernel_rfl) (by kernel_rfl) (by kernel_rfl) (by kernel_rfl) (by kernel_rfl) (fun x=>by kernel_rfl)
@[reducible] def ref12_ReadList.sg:Sg:=⟨[.ref,.dat (.int .i64)],[tref02Reader],.own tTxn,[tref02Reader]⟩
def z1Z.body:Go.Code:=Tryz.f117.body.getD .skip
def z1Z.rs:List Go.ResultVar:=Tryz.f117.results.toList
def z1Z.regs:List (Nat × RInfo):=[(0,ri [1] [1]),(1,ri [2] [5])]
def z1Z.cx (k:Nat):Cx:=⟨tt,pp,[(77,(z12.e k))],z1Z.regs,k,mm⟩
@[reducible] def z1Z.sg:Sg:=⟨[.dat tUndo],[],.dat .bool,[]⟩
def z1Z.f (k:Nat) (a0:Ty.D tUndo):Option (Sg.Out z1Z.sg):=Sg.fn z1Z.sg (z1Z.cx k) z1Z.body z1Z.rs a0
theorem z1Z.f_eq (k:Nat) (a0:Ty.D tUndo):z1Z.f k a0=bnd (z12.f k a0.1) fun r0=>br r0 (br (ile 1 a0.2) (some (ile a0.2 64)) (some false)) (some false):=by kernel_rfl
def z1Z.e (k:Nat):Entry:=Sg.entry z1Z.sg fun x=>z1Z.f k x
theorem z1Z.ok (k:Nat):CallOK Tryz.prog 117 (z1Z.e k):=fn_ok (c:=z1Z.cx k) (code:=z1Z.body) (TT.of tt_ok pp_ok mm_ok) (fns_ok ⟨(z12.ok k),trivial⟩) mixed Tryz.func117 (by kernel_rfl) (by kernel_rfl) (by kernel_rfl) (by kernel_rfl) (by kernel_rfl) (by kernel_rfl) (fun x=>by kernel_rfl)
def z16.body:Go.Code:=Tryz.f49.body.getD .skip
def z16.rs:List Go.ResultVar:=Tryz.f49.results.toList
def z16.regs:List (Nat × RInfo):=[(0,ri [0] []),(1,ri [0,3] []),(2,⟨[0,3,7],[],[],[],0,[0,3],[],[],[],[]⟩),(4,rq [0,3,34] [] 25),(5,ri [2] []),(3,ri [0,3] []),(6,ri [2] [])]
def z16.cx (k:Nat):Cx:=⟨tt,pp,[(117,(z1Z.e k)),(118,(z0t.e k))],z16.regs,k,mm⟩
@[reducible] def z16.sg:Sg:=⟨[.dat (.slc tUndo)],[],.dat .bool,[]⟩
def z16.f (k:Nat) (a0:Ty.D (.slc tUndo)):Option (Sg.Out z16.sg):=Sg.fn z16.sg (z16.cx k) z16.body z16.rs a0
def z16.l2 (k:Nat) (n:Nat) (x0:Ty.D (.slc tUndo)) (x3:Ty.D (.int .i64)):Option (Sg.Out z16.sg):=loopAt (z16.cx k) z16.body [1,0,1,0] 2 [0,3] [] [] (Sg.K z16.sg (z16.cx k) z16.rs) n ⟨[(0,.dat (.slc tUndo) x0),(3,.dat (.int .i64) x3)],[]⟩
theorem z16.f_eq (k:Nat) (a0:Ty.D (.slc tUndo)):z16.f k a0=z16.l2 k k a0 0:=by kernel_rfl
theorem z16.l2_eq (k:Nat) (n2:Nat) (x0:Ty.D (.slc tUndo)) (x3:Ty.D (.int .i64)):z16.l2 k (n2+1) x0 x3=br (ilt x3 (ilen x0)) (br (inL x3 x0) (bnd (z1Z.f k (rd tUndo x0 (natOf x3))) fun r0=>br (bnot r0) (some false) (br (ilt 0 x3) (br (inL (isub .i64 x3 1) x0) (br (inL x3 x0) (bnd (z0t.f k ((rd tUndo x0 (natOf (isub .i64 x3 1))).1) ((rd tUndo x0 (natOf x3)).1)) fun r1=>br (bnot (ieq r1 (-1))) (some false) (z16.l2 k n2 x0 (iadd .i64 x3 1))) none) none) (z16.l2 k n2 x0 (iadd .i64 x3 1)))) none) (some true):=by kernel_rfl
def z16.e (k:Nat):Entry:=Sg.entry z16.sg fun x=>z16.f k x
theorem z16.ok (k:Nat):CallOK Tryz.prog 49 (z16.e k):=fn_ok (c:=z16.cx k) (code:=z16.body) (TT.of tt_ok pp_ok mm_ok) (fns_ok ⟨(z1Z.ok k),(z0t.ok k),trivial⟩) mixed Tryz.func49 (by kernel_rfl) (by kernel_rfl) (by kernel_rfl) (by kernel_rfl) (by kernel_rfl) (by kernel_rfl) (fun x=>by kernel_rfl)
@[reducible] def ref08_Read.sg:Sg:=⟨[.ref,.dat (.int .i64)],[tref02Reader],.own tUndo,[tref02Reader]⟩
@[reducible] def ref06_ReadList.sg:Sg:=⟨[.ref,.dat (.int .i64)],[tref02Reader],.own tDot,[tref02Reader]⟩
@[reducible] def ref23_ReadDelta.sg:Sg:=⟨[.ref],[tref02Reader],.dat tDelta,[tref02Reader]⟩
def z0R.body:Go.Code:=Tryz.f153.body.getD .skip
def z0R.rs:List Go.ResultVar:=Tryz.f153.results.toList
def z0R.regs:List (Nat × RInfo):=[(0,ri [1] [1]),(1,ri [1,3] [1]),(2,⟨[1,3,5],[1],[],[],0,[1,3],[1],[],[],[]⟩),(4,ri [1,3,17] [1]),(5,ri [2] []),(3,ri [1,3] [1]),(6,ri [2] [])]
def z0R.cx (k:Nat):Cx:=⟨tt,pp,[],z0R.regs,k,mm⟩
@[reducible] def z0R.sg:Sg:=⟨[.dat tVec],[],.dat .bool,[]⟩
def z0R.f (k:Nat) (a0:Ty.D tVec):Option (Sg.Out z0R.sg):=Sg.fn z0R.sg (z0R.cx k) z0R.body z0R.rs a0
def z0R.l2 (k:Nat) (n:Nat) (x3:Ty.D (.int .i64)) (m1:Ty.D tVec):Option (Sg.Out z0R.sg):=loopAt (z0R.cx k) z0R.body [1,0,1,0] 2 [1,3] [1] [] (Sg.K z0R.sg (z0R.cx k) z0R.rs) n ⟨[(1,.ref 1 []),(3,.dat (.int .i64) x3)],[(1,.dat tVec m1)]⟩
theorem z0R.f_eq (k:Nat) (a0:Ty.D tVec):z0R.f k a0=z0R.l2 k k 0 a0:=by kernel_rfl
theorem z0R.l2_eq (k:Nat) (n2:Nat) (x3:Ty.D (.int .i64)) (m1:Ty.D tVec):z0R.l2 k (n2+1) x3 m1=br (ilt x3 16) (br (inB x3 16) (br (ilt (rd (.int .i64) m1 (natOf x3)) 0) (some false) (br (inB x3 16) (br (ilt 1048576 (rd (.int .i64) m1 (natOf x3))) (some false) (z0R.l2 k n2 (iadd .i64 x3 1) m1)) none)) none) (some true):=by kernel_rfl
def z0R.e (k:Nat):Entry:=Sg.entry z0R.sg fun x=>z0R.f k x
theorem z0R.ok (k:Nat):CallOK Tryz.prog 153 (z0R.e k):=fn_ok (c:=z0R.cx k) (code:=z0R.body) (TT.of tt_ok pp_ok mm_ok) (fns_ok trivial) mixed Tryz.func153 (by kernel_rfl) (by kernel_rfl) (by kernel_rfl) (by kernel_rfl) (by kernel_rfl) (by kernel_rfl) (fun x=>by kernel_rfl)
@[reducible] def ref05_Read.sg:Sg:=⟨[.ref],[tref02Reader],.dat tVec,[tref02Reader]⟩
def z0Y.body:Go.Code:=Tryz.f76.body.getD .skip
def z0Y.rs:List Go.ResultVar:=Tryz.f76.results.toList
def z0Y.regs:List (Nat × RInfo):=[(0,⟨[1],[1],[0],[],0,[],[],[],[],[]⟩),(1,ri [1,14] [1]),(2,ri [2] []),(3,ri [1,3] [1]),(4,⟨[1,3,19],[1],[],[],0,[1,3],[1],[],[],[]⟩),(6,ri [1,3,4] [1,4]),(7,rq [1,3,4,40] [1,4] 14),(8,ri [2] []),(9,rq [1,3,53] [1] 13),(10,ri [2] []),(5,ri [1,3] [1]),(11,ri [2] [])]
def z0Y.cx (k:Nat):Cx:=⟨tt,pp,[(153,(z0R.e k)),(77,(z12.e k)),(118,(z0t.e k))],z0Y.regs,k,mm⟩
@[reducible] def z0Y.sg:Sg:=⟨[.dat tDots],[],.dat .bool,[]⟩
def z0Y.f (k:Nat) (a0:Ty.D tDots):Option (Sg.Out z0Y.sg):=Sg.fn z0Y.sg (z0Y.cx k) z0Y.body z0Y.rs a0
def z0Y.l4 (k:Nat) (n:Nat) (x3:Ty.D (.int .i64)) (m1:Ty.D tDots):Option (Sg.Out z0Y.sg):=loopAt (z0Y.cx k) z0Y.body [1,1,0,1,0] 4 [1,3] [1] [] (Sg.K z0Y.sg (z0Y.cx k) z0Y.rs) n ⟨[(1,.ref 1 []),(3,.dat (.int .i64) x3)],[(1,.dat tDots m1)]⟩
theorem z0Y.f_eq (k:Nat) (a0:Ty.D tDots):z0Y.f k a0=bnd (z0R.f k a0.1) fun r0=>br (bnot r0) (some false) (br (ilt 4096 (ilen a0.2)) (some false) (z0Y.l4 k k 0 a0)):=by kernel_rfl
theorem z0Y.l4_eq (k:Nat) (n4:Nat) (x3:Ty.D (.int .i64)) (m1:Ty.D tDots):z0Y.l4 k (n4+1) x3 m1=br (ilt x3 (ilen m1.2)) (br (inL x3 m1.2) (bnd (z12.f k (rd tDot m1.2 (natOf x3))) fun r0=>br (bnot r0) (some false) (br (inB ((rd tDot m1.2 (natOf x3)).1) 16) (br (ile (isub .i64 ((rd tDot m1.2 (natOf x3)).2) 1) (rd (.int .i64) m1.1 (natOf ((rd tDot m1.2 (natOf x3)).1)))) (some false) (br (ilt 0 x3) (br (inL (isub .i64 x3 1) m1.2) (bnd (z0t.f k (rd tDot m1.2 (natOf (isub .i64 x3 1))) (rd tDot m1.2 (natOf x3))) fun r1=>br (bnot (ieq r1 (-1))) (some false) (z0Y.l4 k n4 (iadd .i64 x3 1) m1)) none) (z0Y.l4 k n4 (iadd .i64 x3 1) m1))) none)) none) (some true):=by kernel_rfl
def z0Y.e (k:Nat):Entry:=Sg.entry z0Y.sg fun x=>z0Y.f k x
theorem z0Y.ok (k:Nat):CallOK Tryz.prog 76 (z0Y.e k):=fn_ok (c:=z0Y.cx k) (code:=z0Y.body) (TT.of tt_ok pp_ok mm_ok) (fns_ok ⟨(z0R.ok k),(z12.ok k),(z0t.ok k),trivial⟩) mixed Tryz.func76 (by kernel_rfl) (by kernel_rfl) (by kernel_rfl) (by kernel_rfl) (by kernel_rfl) (by kernel_rfl) (fun x=>by kernel_rfl)
@[reducible] def ref06_Read.sg:Sg:=⟨[.ref],[tref02Reader],.dat tDots,[tref02Reader]⟩
@[reducible] def ref05_Has.sg:Sg:=⟨[.dat tVec,.dat tDot],[],.dat .bool,[]⟩
@[reducible] def ref06_Has.sg:Sg:=⟨[.dat tDots,.dat tDot],[],.dat .bool,[]⟩
@[reducible] def ref06_filled.sg:Sg:=⟨[.dat tDots],[],.dat tDots,[]⟩
@[reducible] def ref06_Put.sg:Sg:=⟨[.dat tDots,.dat tDot],[],.dat tDots,[]⟩
@[reducible] def ref22_Known.sg:Sg:=⟨[.dat (.slc tTxn)],[],.dat tDots,[]⟩
def z1t.body:Go.Code:=Tryz.f68.body.getD .skip
def z1t.rs:List Go.ResultVar:=Tryz.f68.results.toList
def z1t.regs:List (Nat × RInfo):=[(0,ri [0,1] []),(1,ri [0,1,10] []),(2,ri [4] []),(3,ri [0,1,5] []),(4,⟨[0,1,5,14],[],[],[],0,[0,1,5],[],[],[],[]⟩),(6,rq [0,1,5,25] [] 9),(7,ri [4] []),(5,ri [0,1,5] []),(8,ri [4] [])]
def z1t.cx (k:Nat):Cx:=⟨tt,pp,[],z1t.regs,k,mm⟩
@[reducible] def z1t.sg:Sg:=⟨[.dat (.slc tDot),.dat (.slc tDot)],[],.dat .bool,[]⟩
def z1t.f (k:Nat) (a0:Ty.D (.slc tDot)) (a1:Ty.D (.slc tDot)):Option (Sg.Out z1t.sg):=Sg.fn z1t.sg (z1t.cx k) z1t.body z1t.rs (a0,a1)
def z1t.l4 (k:Nat) (n:Nat) (x0:Ty.D (.slc tDot)) (x1:Ty.D (.slc tDot)) (x5:Ty.D (.int .i64)):Option (Sg.Out z1t.sg):=loopAt (z1t.cx k) z1t.body [1,1,0,1,0] 4 [0,1,5] [] [] (Sg.K z1t.sg (z1t.cx k) z1t.rs) n ⟨[(0,.dat (.slc tDot) x0),(1,.dat (.slc tDot) x1),(5,.dat (.int .i64) x5)],[]⟩
theorem z1t.f_eq (k:Nat) (a0:Ty.D (.slc tDot)) (a1:Ty.D (.slc tDot)):z1t.f k a0 a1=br (bnot (ieq (ilen a0) (ilen a1))) (some false) (z1t.l4 k k a0 a1 0):=by kernel_rfl
theorem z1t.l4_eq (k:Nat) (n4:Nat) (x0:Ty.D (.slc tDot)) (x1:Ty.D (.slc tDot)) (x5:Ty.D (.int .i64)):z1t.l4 k (n4+1) x0 x1 x5=br (ilt x5 (ilen x0)) (br (inL x5 x0) (br (inL x5 x1) (br (bnot (deq tDot (rd tDot x0 (natOf x5)) (rd tDot x1 (natOf x5)))) (some false) (z1t.l4 k n4 x0 x1 (iadd .i64 x5 1))) none) none) (some true):=by kernel_rfl
def z1t.e (k:Nat):Entry:=Sg.entry z1t.sg fun x=>z1t.f k x.1 x.2
theorem z1t.ok (k:Nat):CallOK Tryz.prog 68 (z1t.e k):=fn_ok (c:=z1t.cx k) (code:=z1t.body) (TT.of tt_ok pp_ok mm_ok) (fns_ok trivial) mixed Tryz.func68 (by kernel_rfl) (by kernel_rfl) (by kernel_rfl) (by kernel_rfl) (by kernel_rfl) (by kernel_rfl) (fun x=>by kernel_rfl)
def z1a.body:Go.Code:=Tryz.f71.body.getD .skip
def z1a.rs:List Go.ResultVar:=Tryz.f71.results.toList
def z1a.regs:List (Nat × RInfo):=[(0,⟨[2,3],[2,3],[0,1],[],0,[],[],[],[],[]⟩),(1,ri [4] [15])]
def z1a.cx (k:Nat):Cx:=⟨tt,pp,[(68,(z1t.e k))],z1a.regs,k,mm⟩
@[reducible] def z1a.sg:Sg:=⟨[.dat tDots,.dat tDots],[],.dat .bool,[]⟩
def z1a.f (k:Nat) (a0:Ty.D tDots) (a1:Ty.D tDots):Option (Sg.Out z1a.sg):=Sg.fn z1a.sg (z1a.cx k) z1a.body z1a.rs (a0,a1)
theorem z1a.f_eq (k:Nat) (a0:Ty.D tDots) (a1:Ty.D tDots):z1a.f k a0 a1=br (deq tVec a0.1 a1.1) (bnd (z1t.f k a0.2 a1.2) fun r0=>some r0) (some false):=by kernel_rfl
def z1a.e (k:Nat):Entry:=Sg.entry z1a.sg fun x=>z1a.f k x.1 x.2
theorem z1a.ok (k:Nat):CallOK Tryz.prog 71 (z1a.e k):=fn_ok (c:=z1a.cx k) (code:=z1a.body) (TT.of tt_ok pp_ok mm_ok) (fns_ok ⟨(z1t.ok k),trivial⟩) mixed Tryz.func71 (by kernel_rfl) (by kernel_rfl) (by kernel_rfl) (by kernel_rfl) (by kernel_rfl) (by kernel_rfl) (fun x=>by kernel_rfl)
@[reducible] def ref22_Right.sg:Sg:=⟨[.dat tState],[],.dat .bool,[]⟩
end Go.Proofs.YtggcagclpkhlhaaGreatDoor
end
noncomputable section
/- The program's functions, as plain equations. -/
namespace Go.Proofs.YtggcagclpkhlhaaGreatDoor
open Pal
set_option maxRecDepth 100000
@[reducible] def ref22_Read.sg:Sg:=⟨[.ref],[tref02Reader],.dat tState,[tref02Reader]⟩
@[reducible] def ref02_Reader_Left.sg:Sg:=⟨[.ref],[tref02Reader],.dat (.int .i64),[tref02Reader]⟩
@[reducible] def ref02_Reader_End.sg:Sg:=⟨[.ref],[tref02Reader],.dat (.int .i64),[tref02Reader]⟩
def z0d.body:Go.Code:=Tryz.f38.body.getD .skip
def z0d.rs:List Go.ResultVar:=Tryz.f38.results.toList
def z0d.regs:List (Nat × RInfo):=[(0,⟨[1],[1],[0],[],0,[],[],[],[],[]⟩),(1,ri [1,20] [1]),(2,ri [2] []),(3,ri [1,3] [1]),(4,⟨[1,3,25],[1],[],[],0,[1,3],[1],[],[],[]⟩),(6,ri [1,3,34] [1]),(7,ri [2] []),(5,ri [1,3] [1]),(8,ri [1,4] [1]),(9,⟨[1,4,39],[1],[],[],0,[1,4],[1],[],[],[]⟩),(11,ri [1,4,48] [1]),(12,ri [2] []),(10,ri [1,4] [1]),(13,ri [2] [])]
def z0d.cx (k:Nat):Cx:=⟨tt,pp,[(75,(z10.e k)),(49,(z16.e k)),(48,(z17.e k)),(77,(z12.e k))],z0d.regs,k,mm⟩
@[reducible] def z0d.sg:Sg:=⟨[.dat tDelta],[],.dat .bool,[]⟩
def z0d.f (k:Nat) (a0:Ty.D tDelta):Option (Sg.Out z0d.sg):=Sg.fn z0d.sg (z0d.cx k) z0d.body z0d.rs a0
def z0d.l4 (k:Nat) (n:Nat) (x3:Ty.D (.int .i64)) (m1:Ty.D tDelta):Option (Sg.Out z0d.sg):=loopAt (z0d.cx k) z0d.body [1,1,0,1,0] 4 [1,3] [1] [] (Sg.K z0d.sg (z0d.cx k) z0d.rs) n ⟨[(1,.ref 1 []),(3,.dat (.int .i64) x3)],[(1,.dat tDelta m1)]⟩
def z0d.l9 (k:Nat) (n:Nat) (x4:Ty.D (.int .i64)) (m1:Ty.D tDelta):Option (Sg.Out z0d.sg):=loopAt (z0d.cx k) z0d.body [1,1,1,0,1,0] 9 [1,4] [1] [] (Sg.K z0d.sg (z0d.cx k) z0d.rs) n ⟨[(1,.ref 1 []),(4,.dat (.int .i64) x4)],[(1,.dat tDelta m1)]⟩
theorem z0d.f_eq (k:Nat) (a0:Ty.D tDelta):z0d.f k a0=br (ilt 1000 (ilen a0.1)) (some false) (bnd (z10.f k a0.1) fun r0=>br (bnot r0) (some false) (bnd (z16.f k a0.2.1) fun r1=>br (bnot r1) (some false) (z0d.l4 k k 0 a0))):=by kernel_rfl
theorem z0d.l4_eq (k:Nat) (n4:Nat) (x3:Ty.D (.int .i64)) (m1:Ty.D tDelta):z0d.l4 k (n4+1) x3 m1=br (ilt x3 (ilen m1.1)) (br (inL x3 m1.1) (bnd (z17.f k (rd tTxn m1.1 (natOf x3))) fun r0=>br (bnot (ieq r0 0)) (some false) (z0d.l4 k n4 (iadd .i64 x3 1) m1)) none) (z0d.l9 k k 0 m1):=by kernel_rfl
theorem z0d.l9_eq (k:Nat) (n9:Nat) (x4:Ty.D (.int .i64)) (m1:Ty.D tDelta):z0d.l9 k (n9+1) x4 m1=br (ilt x4 (ilen m1.2.2)) (br (inL x4 m1.2.2) (bnd (z12.f k (rd tDot m1.2.2 (natOf x4))) fun r0=>br (bnot r0) (some false) (z0d.l9 k n9 (iadd .i64 x4 1) m1)) none) (some true):=by kernel_rfl
def z0d.e (k:Nat):Entry:=Sg.entry z0d.sg fun x=>z0d.f k x
theorem z0d.ok (k:Nat):CallOK Tryz.prog 38 (z0d.e k):=fn_ok (c:=z0d.cx k) (code:=z0d.body) (TT.of tt_ok pp_ok mm_ok) (fns_ok ⟨(z10.ok k),(z16.ok k),(z17.ok k),(z12.ok k),trivial⟩) mixed Tryz.func38 (by kernel_rfl) (by kernel_rfl) (by kernel_rfl) (by kernel_rfl) (by kernel_rfl) (by kernel_rfl) (fun x=>by kernel_rfl)
@[reducible] def ref23_Right.sg:Sg:=⟨[.dat tRecord],[],.dat .bool,[]⟩
@[reducible] def ref23_Parse.sg:Sg:=⟨[.dat .str],[],.t2 (.dat tRecord) (.dat (.int .i64)),[]⟩
def z1K.body:Go.Code:=Tryz.f217.body.getD .skip
def z1K.rs:List Go.ResultVar:=Tryz.f217.results.toList
def z1K.regs:List (Nat × RInfo):=[(0,ri [0,1] []),(1,ri [0,1,10] []),(2,ri [4] []),(3,ri [0,1,5] []),(4,⟨[0,1,5,14],[],[],[],0,[0,1,5],[],[],[],[]⟩),(6,rq [0,1,5,25] [] 9),(7,ri [4] []),(5,ri [0,1,5] []),(8,ri [4] [])]
def z1K.cx (k:Nat):Cx:=⟨tt,pp,[],z1K.regs,k,mm⟩
@[reducible] def z1K.sg:Sg:=⟨[.dat (.slc .str),.dat (.slc .str)],[],.dat .bool,[]⟩
def z1K.f (k:Nat) (a0:Ty.D (.slc .str)) (a1:Ty.D (.slc .str)):Option (Sg.Out z1K.sg):=Sg.fn z1K.sg (z1K.cx k) z1K.body z1K.rs (a0,a1)
def z1K.l4 (k:Nat) (n:Nat) (x0:Ty.D (.slc .str)) (x1:Ty.D (.slc .str)) (x5:Ty.D (.int .i64)):Option (Sg.Out z1K.sg):=loopAt (z1K.cx k) z1K.body [1,1,0,1,0] 4 [0,1,5] [] [] (Sg.K z1K.sg (z1K.cx k) z1K.rs) n ⟨[(0,.dat (.slc .str) x0),(1,.dat (.slc .str) x1),(5,.dat (.int .i64) x5)],[]⟩
theorem z1K.f_eq (k:Nat) (a0:Ty.D (.slc .str)) (a1:Ty.D (.slc .str)):z1K.f k a0 a1=br (bnot (ieq (ilen a0) (ilen a1))) (some false) (z1K.l4 k k a0 a1 0):=by kernel_rfl
theorem z1K.l4_eq (k:Nat) (n4:Nat) (x0:Ty.D (.slc .str)) (x1:Ty.D (.slc .str)) (x5:Ty.D (.int .i64)):z1K.l4 k (n4+1) x0 x1 x5=br (ilt x5 (ilen x0)) (br (inL x5 x0) (br (inL x5 x1) (br (bnot (seq (rd .str x0 (natOf x5)) (rd .str x1 (natOf x5)))) (some false) (z1K.l4 k n4 x0 x1 (iadd .i64 x5 1))) none) none) (some true):=by kernel_rfl
def z1K.e (k:Nat):Entry:=Sg.entry z1K.sg fun x=>z1K.f k x.1 x.2
theorem z1K.ok (k:Nat):CallOK Tryz.prog 217 (z1K.e k):=fn_ok (c:=z1K.cx k) (code:=z1K.body) (TT.of tt_ok pp_ok mm_ok) (fns_ok trivial) mixed Tryz.func217 (by kernel_rfl) (by kernel_rfl) (by kernel_rfl) (by kernel_rfl) (by kernel_rfl) (by kernel_rfl) (fun x=>by kernel_rfl)
def z1F.body:Go.Code:=Tryz.f166.body.getD .skip
def z1F.rs:List Go.ResultVar:=Tryz.f166.results.toList
def z1F.regs:List (Nat × RInfo):=[(0,⟨[2,3],[2,3],[0,1],[],0,[],[],[],[],[]⟩),(1,ri [2,3,41] [2,3]),(2,ri [4] []),(3,ri [2,3,5] [2,3]),(4,⟨[2,3,5,46],[2,3],[],[],0,[2,3,5],[2,3],[],[],[]⟩),(6,rq [2,3,5,59] [2,3] 11),(7,ri [4] []),(5,ri [2,3,5] [2,3]),(8,ri [4] [])]
def z1F.cx (k:Nat):Cx:=⟨tt,pp,[(217,(z1K.e k))],z1F.regs,k,mm⟩
@[reducible] def z1F.sg:Sg:=⟨[.dat tOp,.dat tOp],[],.dat .bool,[]⟩
def z1F.f (k:Nat) (a0:Ty.D tOp) (a1:Ty.D tOp):Option (Sg.Out z1F.sg):=Sg.fn z1F.sg (z1F.cx k) z1F.body z1F.rs (a0,a1)
def z1F.l4 (k:Nat) (n:Nat) (x5:Ty.D (.int .i64)) (m2:Ty.D tOp) (m3:Ty.D tOp):Option (Sg.Out z1F.sg):=loopAt (z1F.cx k) z1F.body [1,1,0,1,0] 4 [2,3,5] [2,3] [] (Sg.K z1F.sg (z1F.cx k) z1F.rs) n ⟨[(2,.ref 2 []),(3,.ref 3 []),(5,.dat (.int .i64) x5)],[(2,.dat tOp m2),(3,.dat tOp m3)]⟩
theorem z1F.f_eq (k:Nat) (a0:Ty.D tOp) (a1:Ty.D tOp):z1F.f k a0 a1=br (bnot (ieq a0.1 a1.1)) (some false) (br (bnot (deq tValue a0.2.2.1 a1.2.2.1)) (some false) (br (bnot (ieq a0.2.2.2.1 a1.2.2.2.1)) (some false) (bnd (z1K.f k a0.2.1 a1.2.1) fun r0=>br (bnot r0) (some false) (br (bnot (ieq (ilen a0.2.2.2.2) (ilen a1.2.2.2.2))) (some false) (z1F.l4 k k 0 a0 a1))))):=by kernel_rfl
theorem z1F.l4_eq (k:Nat) (n4:Nat) (x5:Ty.D (.int .i64)) (m2:Ty.D tOp) (m3:Ty.D tOp):z1F.l4 k (n4+1) x5 m2 m3=br (ilt x5 (ilen m2.2.2.2.2)) (br (inL x5 m2.2.2.2.2) (br (inL x5 m3.2.2.2.2) (br (bnot (deq tUndo (rd tUndo m2.2.2.2.2 (natOf x5)) (rd tUndo m3.2.2.2.2 (natOf x5)))) (some false) (z1F.l4 k n4 (iadd .i64 x5 1) m2 m3)) none) none) (some true):=by kernel_rfl
def z1F.e (k:Nat):Entry:=Sg.entry z1F.sg fun x=>z1F.f k x.1 x.2
theorem z1F.ok (k:Nat):CallOK Tryz.prog 166 (z1F.e k):=fn_ok (c:=z1F.cx k) (code:=z1F.body) (TT.of tt_ok pp_ok mm_ok) (fns_ok ⟨(z1K.ok k),trivial⟩) mixed Tryz.func166 (by kernel_rfl) (by kernel_rfl) (by kernel_rfl) (by kernel_rfl) (by kernel_rfl) (by kernel_rfl) (fun x=>by kernel_rfl)
def z1r.body:Go.Code:=Tryz.f113.body.getD .skip
def z1r.rs:List Go.ResultVar:=Tryz.f113.results.toList
def z1r.regs:List (Nat × RInfo):=[(0,⟨[2,3],[2,3],[0,1],[],0,[],[],[],[],[]⟩),(1,ri [2,3,40] [2,3]),(2,ri [4] []),(3,ri [2,3,5] [2,3]),(4,⟨[2,3,5,45],[2,3],[],[],0,[2,3,5],[2,3],[],[],[]⟩),(6,rq [2,3,5,59] [2,3] 12),(7,ri [4] []),(5,ri [2,3,5] [2,3]),(8,ri [4] [])]
def z1r.cx (k:Nat):Cx:=⟨tt,pp,[(166,(z1F.e k))],z1r.regs,k,mm⟩
@[reducible] def z1r.sg:Sg:=⟨[.dat tTxn,.dat tTxn],[],.dat .bool,[]⟩
def z1r.f (k:Nat) (a0:Ty.D tTxn) (a1:Ty.D tTxn):Option (Sg.Out z1r.sg):=Sg.fn z1r.sg (z1r.cx k) z1r.body z1r.rs (a0,a1)
def z1r.l4 (k:Nat) (n:Nat) (x5:Ty.D (.int .i64)) (m2:Ty.D tTxn) (m3:Ty.D tTxn):Option (Sg.Out z1r.sg):=loopAt (z1r.cx k) z1r.body [1,1,0,1,0] 4 [2,3,5] [2,3] [] (Sg.K z1r.sg (z1r.cx k) z1r.rs) n ⟨[(2,.ref 2 []),(3,.ref 3 []),(5,.dat (.int .i64) x5)],[(2,.dat tTxn m2),(3,.dat tTxn m3)]⟩
theorem z1r.f_eq (k:Nat) (a0:Ty.D tTxn) (a1:Ty.D tTxn):z1r.f k a0 a1=br (bnot (deq tDot a0.1 a1.1)) (some false) (br (bnot (ieq a0.2.1 a1.2.1)) (some false) (br (bnot (ieq a0.2.2.1 a1.2.2.1)) (some false) (br (bnot (deq .bool a0.2.2.2.1 a1.2.2.2.1)) (some false) (br (bnot (ieq (ilen a0.2.2.2.2) (ilen a1.2.2.2.2))) (some false) (z1r.l4 k k 0 a0 a1))))):=by kernel_rfl
theorem z1r.l4_eq (k:Nat) (n4:Nat) (x5:Ty.D (.int .i64)) (m2:Ty.D tTxn) (m3:Ty.D tTxn):z1r.l4 k (n4+1) x5 m2 m3=br (ilt x5 (ilen m2.2.2.2.2)) (br (inL x5 m2.2.2.2.2) (br (inL x5 m3.2.2.2.2) (bnd (z1F.f k (rd tOp m2.2.2.2.2 (natOf x5)) (rd tOp m3.2.2.2.2 (natOf x5))) fun r0=>br (bnot r0) (some false) (z1r.l4 k n4 (iadd .i64 x5 1) m2 m3)) none) none) (some true):=by kernel_rfl
def z1r.e (k:Nat):Entry:=Sg.entry z1r.sg fun x=>z1r.f k x.1 x.2
theorem z1r.ok (k:Nat):CallOK Tryz.prog 113 (z1r.e k):=fn_ok (c:=z1r.cx k) (code:=z1r.body) (TT.of tt_ok pp_ok mm_ok) (fns_ok ⟨(z1F.ok k),trivial⟩) mixed Tryz.func113 (by kernel_rfl) (by kernel_rfl) (by kernel_rfl) (by kernel_rfl) (by kernel_rfl) (by kernel_rfl) (fun x=>by kernel_rfl)
def z1Y.body:Go.Code:=Tryz.f69.body.getD .skip
def z1Y.rs:List Go.ResultVar:=Tryz.f69.results.toList
def z1Y.regs:List (Nat × RInfo):=[(0,ri [0,1] []),(1,ri [0,1,10] []),(2,ri [4] []),(3,ri [0,1,5] []),(4,⟨[0,1,5,14],[],[],[],0,[0,1,5],[],[],[],[]⟩),(6,rq [0,1,5,26] [] 10),(7,ri [4] []),(5,ri [0,1,5] []),(8,ri [4] [])]
def z1Y.cx (k:Nat):Cx:=⟨tt,pp,[(113,(z1r.e k))],z1Y.regs,k,mm⟩
@[reducible] def z1Y.sg:Sg:=⟨[.dat (.slc tTxn),.dat (.slc tTxn)],[],.dat .bool,[]⟩
def z1Y.f (k:Nat) (a0:Ty.D (.slc tTxn)) (a1:Ty.D (.slc tTxn)):Option (Sg.Out z1Y.sg):=Sg.fn z1Y.sg (z1Y.cx k) z1Y.body z1Y.rs (a0,a1)
def z1Y.l4 (k:Nat) (n:Nat) (x0:Ty.D (.slc tTxn)) (x1:Ty.D (.slc tTxn)) (x5:Ty.D (.int .i64)):Option (Sg.Out z1Y.sg):=loopAt (z1Y.cx k) z1Y.body [1,1,0,1,0] 4 [0,1,5] [] [] (Sg.K z1Y.sg (z1Y.cx k) z1Y.rs) n ⟨[(0,.dat (.slc tTxn) x0),(1,.dat (.slc tTxn) x1),(5,.dat (.int .i64) x5)],[]⟩
theorem z1Y.f_eq (k:Nat) (a0:Ty.D (.slc tTxn)) (a1:Ty.D (.slc tTxn)):z1Y.f k a0 a1=br (bnot (ieq (ilen a0) (ilen a1))) (some false) (z1Y.l4 k k a0 a1 0):=by kernel_rfl
theorem z1Y.l4_eq (k:Nat) (n4:Nat) (x0:Ty.D (.slc tTxn)) (x1:Ty.D (.slc tTxn)) (x5:Ty.D (.int .i64)):z1Y.l4 k (n4+1) x0 x1 x5=br (ilt x5 (ilen x0)) (br (inL x5 x0) (br (inL x5 x1) (bnd (z1r.f k (rd tTxn x0 (natOf x5)) (rd tTxn x1 (natOf x5))) fun r0=>br (bnot r0) (some false) (z1Y.l4 k n4 x0 x1 (iadd .i64 x5 1))) none) none) (some true):=by kernel_rfl
def z1Y.e (k:Nat):Entry:=Sg.entry z1Y.sg fun x=>z1Y.f k x.1 x.2
theorem z1Y.ok (k:Nat):CallOK Tryz.prog 69 (z1Y.e k):=fn_ok (c:=z1Y.cx k) (code:=z1Y.body) (TT.of tt_ok pp_ok mm_ok) (fns_ok ⟨(z1r.ok k),trivial⟩) mixed Tryz.func69 (by kernel_rfl) (by kernel_rfl) (by kernel_rfl) (by kernel_rfl) (by kernel_rfl) (by kernel_rfl) (fun x=>by kernel_rfl)
def z1e.body:Go.Code:=Tryz.f70.body.getD .skip
def z1e.rs:List Go.ResultVar:=Tryz.f70.results.toList
def z1e.regs:List (Nat × RInfo):=[(0,ri [0,1] []),(1,ri [0,1,10] []),(2,ri [4] []),(3,ri [0,1,5] []),(4,⟨[0,1,5,14],[],[],[],0,[0,1,5],[],[],[],[]⟩),(6,rq [0,1,5,25] [] 9),(7,ri [4] []),(5,ri [0,1,5] []),(8,ri [4] [])]
def z1e.cx (k:Nat):Cx:=⟨tt,pp,[],z1e.regs,k,mm⟩
@[reducible] def z1e.sg:Sg:=⟨[.dat (.slc tUndo),.dat (.slc tUndo)],[],.dat .bool,[]⟩
def z1e.f (k:Nat) (a0:Ty.D (.slc tUndo)) (a1:Ty.D (.slc tUndo)):Option (Sg.Out z1e.sg):=Sg.fn z1e.sg (z1e.cx k) z1e.body z1e.rs (a0,a1)
def z1e.l4 (k:Nat) (n:Nat) (x0:Ty.D (.slc tUndo)) (x1:Ty.D (.slc tUndo)) (x5:Ty.D (.int .i64)):Option (Sg.Out z1e.sg):=loopAt (z1e.cx k) z1e.body [1,1,0,1,0] 4 [0,1,5] [] [] (Sg.K z1e.sg (z1e.cx k) z1e.rs) n ⟨[(0,.dat (.slc tUndo) x0),(1,.dat (.slc tUndo) x1),(5,.dat (.int .i64) x5)],[]⟩
theorem z1e.f_eq (k:Nat) (a0:Ty.D (.slc tUndo)) (a1:Ty.D (.slc tUndo)):z1e.f k a0 a1=br (bnot (ieq (ilen a0) (ilen a1))) (some false) (z1e.l4 k k a0 a1 0):=by kernel_rfl
theorem z1e.l4_eq (k:Nat) (n4:Nat) (x0:Ty.D (.slc tUndo)) (x1:Ty.D (.slc tUndo)) (x5:Ty.D (.int .i64)):z1e.l4 k (n4+1) x0 x1 x5=br (ilt x5 (ilen x0)) (br (inL x5 x0) (br (inL x5 x1) (br (bnot (deq tUndo (rd tUndo x0 (natOf x5)) (rd tUndo x1 (natOf x5)))) (some false) (z1e.l4 k n4 x0 x1 (iadd .i64 x5 1))) none) none) (some true):=by kernel_rfl
def z1e.e (k:Nat):Entry:=Sg.entry z1e.sg fun x=>z1e.f k x.1 x.2
theorem z1e.ok (k:Nat):CallOK Tryz.prog 70 (z1e.e k):=fn_ok (c:=z1e.cx k) (code:=z1e.body) (TT.of tt_ok pp_ok mm_ok) (fns_ok trivial) mixed Tryz.func70 (by kernel_rfl) (by kernel_rfl) (by kernel_rfl) (by kernel_rfl) (by kernel_rfl) (by kernel_rfl) (fun x=>by kernel_rfl)
def z0n.body:Go.Code:=Tryz.f31.body.getD .skip
def z0n.rs:List Go.ResultVar:=Tryz.f31.results.toList
def z0n.regs:List (Nat × RInfo):=[(0,⟨[2,3],[2,3],[0,1],[],0,[],[],[],[],[]⟩),(1,ri [4] [9,15,22])]
def z0n.cx (k:Nat):Cx:=⟨tt,pp,[(69,(z1Y.e k)),(70,(z1e.e k)),(68,(z1t.e k))],z0n.regs,k,mm⟩
@[reducible] def z0n.sg:Sg:=⟨[.dat tDelta,.dat tDelta],[],.dat .bool,[]⟩
def z0n.f (k:Nat) (a0:Ty.D tDelta) (a1:Ty.D tDelta):Option (Sg.Out z0n.sg):=Sg.fn z0n.sg (z0n.cx k) z0n.body z0n.rs (a0,a1)
theorem z0n.f_eq (k:Nat) (a0:Ty.D tDelta) (a1:Ty.D tDelta):z0n.f k a0 a1=bnd (z1Y.f k a0.1 a1.1) fun r0=>br r0 (bnd (z1e.f k a0.2.1 a1.2.1) fun r1=>br r1 (bnd (z1t.f k a0.2.2 a1.2.2) fun r2=>some r2) (some false)) (some false):=by kernel_rfl
def z0n.e (k:Nat):Entry:=Sg.entry z0n.sg fun x=>z0n.f k x.1 x.2
theorem z0n.ok (k:Nat):CallOK Tryz.prog 31 (z0n.e k):=fn_ok (c:=z0n.cx k) (code:=z0n.body) (TT.of tt_ok pp_ok mm_ok) (fns_ok ⟨(z1Y.ok k),(z1e.ok k),(z1t.ok k),trivial⟩) mixed Tryz.func31 (by kernel_rfl) (by kernel_rfl) (by kernel_rfl) (by kernel_rfl) (by kernel_rfl) (by kernel_rfl) (fun x=>by kernel_rfl)
@[reducible] def ref22_Same.sg:Sg:=⟨[.dat tState,.dat tState],[],.dat .bool,[]⟩
@[reducible] def ref23_Same.sg:Sg:=⟨[.dat tRecord,.dat tRecord],[],.dat .bool,[]⟩
@[reducible] def txn_Find_1.sg:Sg:=⟨[.dat tTxn,.dat tDot],[],.dat (.int .i64),[]⟩
@[reducible] def slices_BinarySearchFunc_api_Txn_api_Txn_api_Dot_txn_Find_1.sg:Sg:=⟨[.dat (.slc tTxn),.dat tDot,.fn 186 0],[],.t2 (.dat (.int .i64)) (.dat .bool),[]⟩
@[reducible] def txn_Find.sg:Sg:=⟨[.dat (.slc tTxn),.dat tDot],[],.dat (.int .i64),[]⟩
@[reducible] def txn_Put_1.sg:Sg:=⟨[.dat tTxn,.dat tDot],[],.dat (.int .i64),[]⟩
@[reducible] def slices_BinarySearchFunc_api_Txn_api_Txn_api_Dot_txn_Put_1.sg:Sg:=⟨[.dat (.slc tTxn),.dat tDot,.fn 187 0],[],.t2 (.dat (.int .i64)) (.dat .bool),[]⟩
@[reducible] def txn_Put.sg:Sg:=⟨[.dat (.slc tTxn),.dat tTxn],[],.dat (.slc tTxn),[]⟩
@[reducible] def vec_Has.sg:Sg:=⟨[.dat tVec,.dat tDot],[],.dat .bool,[]⟩
@[reducible] def slices_BinarySearchFunc_api_Dot_api_Dot_api_Dot_dot_Compare.sg:Sg:=⟨[.dat (.slc tDot),.dat tDot,.fn 176 0],[],.t2 (.dat (.int .i64)) (.dat .bool),[]⟩
@[reducible] def dots_Has.sg:Sg:=⟨[.dat tDots,.dat tDot],[],.dat .bool,[]⟩
@[reducible] def dots_Put.sg:Sg:=⟨[.dat tDots,.dat tDot],[],.dat tDots,[]⟩
@[reducible] def state_Put.sg:Sg:=⟨[.dat tState,.dat tTxn],[],.dat tState,[]⟩
@[reducible] def tally_Join.sg:Sg:=⟨[.dat (.slc tUndo),.dat (.slc tUndo)],[],.own tUndo,[]⟩
@[reducible] def state_Raise.sg:Sg:=⟨[.dat tState,.dat (.slc tUndo)],[],.dat tState,[]⟩
@[reducible] def record_turn.sg:Sg:=⟨[.dat (.slc tDot),.dat tRecord],[],.dat (.slc tDot),[]⟩
@[reducible] def slices_Concat_api_Dot_api_Dot.sg:Sg:=⟨[.dat (.slc (.slc tDot))],[],.raw tDot,[]⟩
@[reducible] def vec_Join_1.sg:Sg:=⟨[.dat (.int .i64),.dat (.int .i64)],[],.dat (.int .i64),[]⟩
@[reducible] def vec_both_vec_Join_1.sg:Sg:=⟨[.dat tVec,.dat tVec,.fn 263 0],[],.dat tVec,[]⟩
@[reducible] def vec_Join.sg:Sg:=⟨[.dat tVec,.dat tVec],[],.dat tVec,[]⟩
@[reducible] def dots_Union.sg:Sg:=⟨[.dat tDots,.dat tDots],[],.dat tDots,[]⟩
@[reducible] def state_Seal.sg:Sg:=⟨[.dat tState,.dat (.slc tDot)],[],.dat tState,[]⟩
@[reducible] def record_Merged.sg:Sg:=⟨[.dat tState,.dat tDelta],[],.dat tState,[]⟩
@[reducible] def state_Clone.sg:Sg:=⟨[.dat tState],[],.dat tState,[]⟩
@[reducible] def record_Done.sg:Sg:=⟨[.dat tState,.dat tRecord],[],.dat tState,[]⟩
@[reducible] def law23_awake.sg:Sg:=⟨[],[],.dat .bool,[]⟩
@[reducible] def law23_RecordParses.sg:Sg:=⟨[.dat .str],[],.dat .bool,[]⟩
def z0L.body:Go.Code:=Tryz.f167.body.getD .skip
def z0L.rs:List Go.ResultVar:=Tryz.f167.results.toList
def z0L.regs:List (Nat × RInfo):=[(0,ri [0] []),(1,ri [0,6] []),(2,ri [2] []),(3,ri [0,3] []),(4,⟨[0,3,10],[],[],[],0,[0,3],[],[],[],[]⟩),(6,ri [0,3,18] []),(7,ri [2] []),(5,ri [0,3] []),(8,ri [2] [])]
def z0L.cx (k:Nat):Cx:=⟨tt,pp,[],z0L.regs,k,mm⟩
@[reducible] def z0L.sg:Sg:=⟨[.dat (.slc .str)],[],.dat .bool,[]⟩
def z0L.f (k:Nat) (a0:Ty.D (.slc .str)):Option (Sg.Out z0L.sg):=Sg.fn z0L.sg (z0L.cx k) z0L.body z0L.rs a0
def z0L.l4 (k:Nat) (n:Nat) (x0:Ty.D (.slc .str)) (x3:Ty.D (.int .i64)):Option (Sg.Out z0L.sg):=loopAt (z0L.cx k) z0L.body [1,1,0,1,0] 4 [0,3] [] [] (Sg.K z0L.sg (z0L.cx k) z0L.rs) n ⟨[(0,.dat (.slc .str) x0),(3,.dat (.int .i64) x3)],[]⟩
theorem z0L.f_eq (k:Nat) (a0:Ty.D (.slc .str)):z0L.f k a0=br (ilt 12 (ilen a0)) (some false) (z0L.l4 k k a0 0):=by kernel_rfl
theorem z0L.l4_eq (k:Nat) (n4:Nat) (x0:Ty.D (.slc .str)) (x3:Ty.D (.int .i64)):z0L.l4 k (n4+1) x0 x3=br (ilt x3 (ilen x0)) (br (inL x3 x0) (br (ilt 120 (ilen (rd .str x0 (natOf x3)))) (some false) (z0L.l4 k n4 x0 (iadd .i64 x3 1))) none) (some true):=by kernel_rfl
def z0L.e (k:Nat):Entry:=Sg.entry z0L.sg fun x=>z0L.f k x
theorem z0L.ok (k:Nat):CallOK Tryz.prog 167 (z0L.e k):=fn_ok (c:=z0L.cx k) (code:=z0L.body) (TT.of tt_ok pp_ok mm_ok) (fns_ok trivial) mixed Tryz.func167 (by kernel_rfl) (by kernel_rfl) (by kernel_rfl) (by kernel_rfl) (by kernel_rfl) (by kernel_rfl) (fun x=>by kernel_rfl)
def z11.body:Go.Code:=Tryz.f114.body.getD .skip
def z11.rs:List Go.ResultVar:=Tryz.f114.results.toList
def z11.regs:List (Nat × RInfo):=[(0,⟨[1],[1],[0],[],0,[],[],[],[],[]⟩),(1,ri [2] [5])]
def z11.cx (k:Nat):Cx:=⟨tt,pp,[(167,(z0L.e k))],z11.regs,k,mm⟩
@[reducible] def z11.sg:Sg:=⟨[.dat tOp],[],.dat .bool,[]⟩
def z11.f (k:Nat) (a0:Ty.D tOp):Option (Sg.Out z11.sg):=Sg.fn z11.sg (z11.cx k) z11.body z11.rs a0
theorem z11.f_eq (k:Nat) (a0:Ty.D tOp):z11.f k a0=bnd (z0L.f k a0.2.1) fun r0=>br r0 (br (ile (ilen a0.2.2.1.2.2) 200) (some (ile (ilen a0.2.2.2.2) 300)) (some false)) (some false):=by kernel_rfl
def z11.e (k:Nat):Entry:=Sg.entry z11.sg fun x=>z11.f k x
theorem z11.ok (k:Nat):CallOK Tryz.prog 114 (z11.e k):=fn_ok (c:=z11.cx k) (code:=z11.body) (TT.of tt_ok pp_ok mm_ok) (fns_ok ⟨(z0L.ok k),trivial⟩) mixed Tryz.func114 (by kernel_rfl) (by kernel_rfl) (by kernel_rfl) (by kernel_rfl) (by kernel_rfl) (by kernel_rfl) (fun x=>by kernel_rfl)
def z0S.body:Go.Code:=Tryz.f47.body.getD .skip
def z0S.rs:List Go.ResultVar:=Tryz.f47.results.toList
def z0S.regs:List (Nat × RInfo):=[(0,⟨[1],[1],[0],[],0,[],[],[],[],[]⟩),(1,ri [1,7] [1]),(2,ri [2] []),(3,ri [1,3] [1]),(4,⟨[1,3,12],[1],[],[],0,[1,3],[1],[],[],[]⟩),(6,ri [1,3,21] [1]),(7,ri [2] []),(5,ri [1,3] [1]),(8,ri [2] [])]
def z0S.cx (k:Nat):Cx:=⟨tt,pp,[(114,(z11.e k))],z0S.regs,k,mm⟩
@[reducible] def z0S.sg:Sg:=⟨[.dat tTxn],[],.dat .bool,[]⟩
def z0S.f (k:Nat) (a0:Ty.D tTxn):Option (Sg.Out z0S.sg):=Sg.fn z0S.sg (z0S.cx k) z0S.body z0S.rs a0
def z0S.l4 (k:Nat) (n:Nat) (x3:Ty.D (.int .i64)) (m1:Ty.D tTxn):Option (Sg.Out z0S.sg):=loopAt (z0S.cx k) z0S.body [1,1,0,1,0] 4 [1,3] [1] [] (Sg.K z0S.sg (z0S.cx k) z0S.rs) n ⟨[(1,.ref 1 []),(3,.dat (.int .i64) x3)],[(1,.dat tTxn m1)]⟩
theorem z0S.f_eq (k:Nat) (a0:Ty.D tTxn):z0S.f k a0=br (ilt 20 (ilen a0.2.2.2.2)) (some false) (z0S.l4 k k 0 a0):=by kernel_rfl
theorem z0S.l4_eq (k:Nat) (n4:Nat) (x3:Ty.D (.int .i64)) (m1:Ty.D tTxn):z0S.l4 k (n4+1) x3 m1=br (ilt x3 (ilen m1.2.2.2.2)) (br (inL x3 m1.2.2.2.2) (bnd (z11.f k (rd tOp m1.2.2.2.2 (natOf x3))) fun r0=>br (bnot r0) (some false) (z0S.l4 k n4 (iadd .i64 x3 1) m1)) none) (some true):=by kernel_rfl
def z0S.e (k:Nat):Entry:=Sg.entry z0S.sg fun x=>z0S.f k x
theorem z0S.ok (k:Nat):CallOK Tryz.prog 47 (z0S.e k):=fn_ok (c:=z0S.cx k) (code:=z0S.body) (TT.of tt_ok pp_ok mm_ok) (fns_ok ⟨(z11.ok k),trivial⟩) mixed Tryz.func47 (by kernel_rfl) (by kernel_rfl) (by kernel_rfl) (by kernel_rfl) (by kernel_rfl) (by kernel_rfl) (fun x=>by kernel_rfl)
def z0h.body:Go.Code:=Tryz.f37.body.getD .skip
def z0h.rs:List Go.ResultVar:=Tryz.f37.results.toList
def z0h.regs:List (Nat × RInfo):=[(0,⟨[1],[1],[0],[],0,[],[],[],[],[]⟩),(1,ri [1,19] [1]),(2,ri [2] []),(3,ri [1,3] [1]),(4,⟨[1,3,24],[1],[],[],0,[1,3],[1],[],[],[]⟩),(6,ri [1,3,33] [1]),(7,ri [2] []),(5,ri [1,3] [1]),(8,ri [2] [])]
def z0h.cx (k:Nat):Cx:=⟨tt,pp,[(47,(z0S.e k))],z0h.regs,k,mm⟩
@[reducible] def z0h.sg:Sg:=⟨[.dat tDelta],[],.dat .bool,[]⟩
def z0h.f (k:Nat) (a0:Ty.D tDelta):Option (Sg.Out z0h.sg):=Sg.fn z0h.sg (z0h.cx k) z0h.body z0h.rs a0
def z0h.l4 (k:Nat) (n:Nat) (x3:Ty.D (.int .i64)) (m1:Ty.D tDelta):Option (Sg.Out z0h.sg):=loopAt (z0h.cx k) z0h.body [1,1,0,1,0] 4 [1,3] [1] [] (Sg.K z0h.sg (z0h.cx k) z0h.rs) n ⟨[(1,.ref 1 []),(3,.dat (.int .i64) x3)],[(1,.dat tDelta m1)]⟩
theorem z0h.f_eq (k:Nat) (a0:Ty.D tDelta):z0h.f k a0=br (ilt 20 (ilen a0.1)) (some false) (br (ilt 100 (ilen a0.2.1)) (some false) (br (ilt 100 (ilen a0.2.2)) (some false) (z0h.l4 k k 0 a0))):=by kernel_rfl
theorem z0h.l4_eq (k:Nat) (n4:Nat) (x3:Ty.D (.int .i64)) (m1:Ty.D tDelta):z0h.l4 k (n4+1) x3 m1=br (ilt x3 (ilen m1.1)) (br (inL x3 m1.1) (bnd (z0S.f k (rd tTxn m1.1 (natOf x3))) fun r0=>br (bnot r0) (some false) (z0h.l4 k n4 (iadd .i64 x3 1) m1)) none) (some true):=by kernel_rfl
def z0h.e (k:Nat):Entry:=Sg.entry z0h.sg fun x=>z0h.f k x
theorem z0h.ok (k:Nat):CallOK Tryz.prog 37 (z0h.e k):=fn_ok (c:=z0h.cx k) (code:=z0h.body) (TT.of tt_ok pp_ok mm_ok) (fns_ok ⟨(z0S.ok k),trivial⟩) mixed Tryz.func37 (by kernel_rfl) (by kernel_rfl) (by kernel_rfl) (by kernel_rfl) (by kernel_rfl) (by kernel_rfl) (fun x=>by kernel_rfl)
@[reducible] def ref22_Short.sg:Sg:=⟨[.dat tState],[],.dat .bool,[]⟩
@[reducible] def ref23_Short.sg:Sg:=⟨[.dat tRecord],[],.dat .bool,[]⟩
def z2f.body:Go.Code:=Tryz.f62.body.getD .skip
def z2f.rs:List Go.ResultVar:=Tryz.f62.results.toList
def z2f.regs:List (Nat × RInfo):=[(0,ri [1] [1]),(1,rq [2] [] 7)]
def z2f.cx (k:Nat):Cx:=⟨tt,pp,[(60,packIntE)],z2f.regs,k,mm⟩
@[reducible] def z2f.sg:Sg:=⟨[.dat tDot],[],.dat .str,[]⟩
def z2f.f (k:Nat) (a0:Ty.D tDot):Option (Sg.Out z2f.sg):=Sg.fn z2f.sg (z2f.cx k) z2f.body z2f.rs a0
theorem z2f.f_eq (k:Nat) (a0:Ty.D tDot):z2f.f k a0=bnd (packI a0.1) fun r0=>bnd (packI a0.2) fun r1=>br (roomS r0 r1) (some (app r0 r1)) none:=by kernel_rfl
def z2f.e (k:Nat):Entry:=Sg.entry z2f.sg fun x=>z2f.f k x
theorem z2f.ok (k:Nat):CallOK Tryz.prog 62 (z2f.e k):=fn_ok (c:=z2f.cx k) (code:=z2f.body) (TT.of tt_ok pp_ok mm_ok) (fns_ok ⟨packint_ok,trivial⟩) mixed Tryz.func62 (by kernel_rfl) (by kernel_rfl) (by kernel_rfl) (by kernel_rfl) (by kernel_rfl) (by kernel_rfl) (fun x=>by kernel_rfl)
def z1W.body:Go.Code:=Tryz.f158.body.getD .skip
def z1W.rs:List Go.ResultVar:=Tryz.f158.results.toList
def z1W.regs:List (Nat × RInfo):=[(0,ri [0] []),(1,ri [2] [])]
def z1W.cx (k:Nat):Cx:=⟨tt,pp,[(60,packIntE)],z1W.regs,k,mm⟩
@[reducible] def z1W.sg:Sg:=⟨[.dat .str],[],.dat .str,[]⟩
def z1W.f (k:Nat) (a0:Ty.D .str):Option (Sg.Out z1W.sg):=Sg.fn z1W.sg (z1W.cx k) z1W.body z1W.rs a0
theorem z1W.f_eq (k:Nat) (a0:Ty.D .str):z1W.f k a0=bnd (packI (ilen a0)) fun r0=>br (roomS r0 a0) (some (app r0 a0)) none:=by kernel_rfl
def z1W.e (k:Nat):Entry:=Sg.entry z1W.sg fun x=>z1W.f k x
theorem z1W.ok (k:Nat):CallOK Tryz.prog 158 (z1W.e k):=fn_ok (c:=z1W.cx k) (code:=z1W.body) (TT.of tt_ok pp_ok mm_ok) (fns_ok ⟨packint_ok,trivial⟩) mixed Tryz.func158 (by kernel_rfl) (by kernel_rfl) (by kernel_rfl) (by kernel_rfl) (by kernel_rfl) (by kernel_rfl) (fun x=>by kernel_rfl)
def z1R.body:Go.Code:=Tryz.f194.body.getD .skip
def z1R.rs:List Go.ResultVar:=Tryz.f194.results.toList
def z1R.regs:List (Nat × RInfo):=[(0,ri [0] []),(1,ri [0,3] [8]),(2,ri [3,9,10,11] [8]),(3,⟨[3,9,10,11,12],[8],[],[],0,[3,9,10,11],[8],[],[],[]⟩),(4,ri [3,5,9,10,11] [8]),(5,ri [3,9,10,11] [8]),(6,ri [3,9,10,11] [8]),(7,ri [2] [8])]
def z1R.cx (k:Nat):Cx:=⟨tt,pp,[(60,packIntE),(158,(z1W.e k))],z1R.regs,k,mm⟩
@[reducible] def z1R.sg:Sg:=⟨[.dat (.slc .str)],[],.dat .str,[]⟩
def z1R.f (k:Nat) (a0:Ty.D (.slc .str)):Option (Sg.Out z1R.sg):=Sg.fn z1R.sg (z1R.cx k) z1R.body z1R.rs a0
def z1R.l3 (k:Nat) (n:Nat) (x3:Ty.D .str) (x9:Ty.D (.slc .str)) (x10:Ty.D (.int .i64)) (x11:Ty.D (.int .i64)):Option (Sg.Out z1R.sg):=loopAt (z1R.cx k) z1R.body [1,1,0,1,0] 3 [3,9,10,11] [8] [] (Sg.K z1R.sg (z1R.cx k) z1R.rs) n ⟨[(3,.dat .str x3),(9,.dat (.slc .str) x9),(10,.dat (.int .i64) x10),(11,.dat (.int .i64) x11)],[]⟩
theorem z1R.f_eq (k:Nat) (a0:Ty.D (.slc .str)):z1R.f k a0=bnd (packI (ilen a0)) fun r0=>z1R.l3 k k r0 a0 (ilen a0) 0:=by kernel_rfl
theorem z1R.l3_eq (k:Nat) (n3:Nat) (x3:Ty.D .str) (x9:Ty.D (.slc .str)) (x10:Ty.D (.int .i64)) (x11:Ty.D (.int .i64)):z1R.l3 k (n3+1) x3 x9 x10 x11=br (ilt x11 x10) (br (inL x11 x9) (bnd (z1W.f k (rd .str x9 (natOf x11))) fun r0=>br (roomS x3 r0) (z1R.l3 k n3 (app x3 r0) x9 x10 (iadd .i64 x11 1)) none) none) (some x3):=by kernel_rfl
def z1R.e (k:Nat):Entry:=Sg.entry z1R.sg fun x=>z1R.f k x
theorem z1R.ok (k:Nat):CallOK Tryz.prog 194 (z1R.e k):=fn_ok (c:=z1R.cx k) (code:=z1R.body) (TT.of tt_ok pp_ok mm_ok) (fns_ok ⟨packint_ok,(z1W.ok k),trivial⟩) mixed Tryz.func194 (by kernel_rfl) (by kernel_rfl) (by kernel_rfl) (by kernel_rfl) (by kernel_rfl) (by kernel_rfl) (fun x=>by kernel_rfl)
def z1D.body:Go.Code:=Tryz.f195.body.getD .skip
def z1D.rs:List Go.ResultVar:=Tryz.f195.results.toList
def z1D.regs:List (Nat × RInfo):=[(0,ri [0] []),(1,ri [0,4] []),(2,ri [2] []),(3,ri [2] [])]
def z1D.cx (k:Nat):Cx:=⟨tt,pp,[],z1D.regs,k,mm⟩
@[reducible] def z1D.sg:Sg:=⟨[.dat (.int .i64)],[],.dat (.int .i64),[]⟩
def z1D.f (k:Nat) (a0:Ty.D (.int .i64)):Option (Sg.Out z1D.sg):=Sg.fn z1D.sg (z1D.cx k) z1D.body z1D.rs a0
theorem z1D.f_eq (k:Nat) (a0:Ty.D (.int .i64)):z1D.f k a0=br (ilt a0 0) (some (isub .i64 (imul .i64 (-2) a0) 1)) (some (imul .i64 2 a0)):=by kernel_rfl
def z1D.e (k:Nat):Entry:=Sg.entry z1D.sg fun x=>z1D.f k x
theorem z1D.ok (k:Nat):CallOK Tryz.prog 195 (z1D.e k):=fn_ok (c:=z1D.cx k) (code:=z1D.body) (TT.of tt_ok pp_ok mm_ok) (fns_ok trivial) mixed Tryz.func195 (by kernel_rfl) (by kernel_rfl) (by kernel_rfl) (by kernel_rfl) (by kernel_rfl) (by kernel_rfl) (fun x=>by kernel_rfl)
def z1z.body:Go.Code:=Tryz.f196.body.getD .skip
def z1z.rs:List Go.ResultVar:=Tryz.f196.results.toList
def z1z.regs:List (Nat × RInfo):=[(0,ri [1] [1]),(1,ri [1,5] [1]),(2,rq [2] [] 7),(3,rq [2] [] 8)]
def z1z.cx (k:Nat):Cx:=⟨tt,pp,[(60,packIntE),(158,(z1W.e k)),(195,(z1D.e k))],z1z.regs,k,mm⟩
@[reducible] def z1z.sg:Sg:=⟨[.dat tValue],[],.dat .str,[]⟩
def z1z.f (k:Nat) (a0:Ty.D tValue):Option (Sg.Out z1z.sg):=Sg.fn z1z.sg (z1z.cx k) z1z.body z1z.rs a0
theorem z1z.f_eq (k:Nat) (a0:Ty.D tValue):z1z.f k a0=br (ieq a0.1 2) (bnd (packI a0.1) fun r0=>bnd (z1W.f k a0.2.2) fun r1=>br (roomS r0 r1) (some (app r0 r1)) none) (bnd (packI a0.1) fun r2=>bnd (z1D.f k a0.2.1) fun r3=>bnd (packI r3) fun r4=>br (roomS r2 r4) (some (app r2 r4)) none):=by kernel_rfl
def z1z.e (k:Nat):Entry:=Sg.entry z1z.sg fun x=>z1z.f k x
theorem z1z.ok (k:Nat):CallOK Tryz.prog 196 (z1z.e k):=fn_ok (c:=z1z.cx k) (code:=z1z.body) (TT.of tt_ok pp_ok mm_ok) (fns_ok ⟨packint_ok,(z1W.ok k),(z1D.ok k),trivial⟩) mixed Tryz.func196 (by kernel_rfl) (by kernel_rfl) (by kernel_rfl) (by kernel_rfl) (by kernel_rfl) (by kernel_rfl) (fun x=>by kernel_rfl)
def z2t.body:Go.Code:=Tryz.f144.body.getD .skip
def z2t.rs:List Go.ResultVar:=Tryz.f144.results.toList
def z2t.regs:List (Nat × RInfo):=[(0,⟨[1],[1],[0],[],0,[],[],[],[],[]⟩),(1,ri [1,3] [1,8]),(2,ri [1,3,10] [1,8,10]),(3,ri [2] [8]),(4,ri [1,3] [1,8]),(5,ri [1,3,18] [1,8]),(6,ri [1,3,18,19] [1,8]),(7,ri [2] [8]),(8,ri [1,3,18,27] [1,8]),(9,ri [1,3,18,27] [1,8]),(10,ri [1,3,27] [1,8]),(11,ri [1,3] [1,8]),(12,ri [1,3,38] [1,8]),(13,ri [2] [8]),(14,ri [1,3] [1,8]),(15,ri [3,47,48,49] [8]),(16,⟨[3,47,48,49,50],[8],[],[],0,[3,47,48,49],[8],[],[],[]⟩),(17,ri [3,5,47,48,49] [5,8]),(18,rq [3,47,48,49] [8] 9),(19,ri [3,47,48,49] [8]),(20,ri [2] [8])]
def z2t.cx (k:Nat):Cx:=⟨tt,pp,[(60,packIntE),(120,(z2u.e k)),(194,(z1R.e k)),(195,(z1D.e k)),(196,(z1z.e k)),(62,(z2f.e k))],z2t.regs,k,mm⟩
@[reducible] def z2t.sg:Sg:=⟨[.dat tOp],[],.dat .str,[]⟩
def z2t.f (k:Nat) (a0:Ty.D tOp):Option (Sg.Out z2t.sg):=Sg.fn z2t.sg (z2t.cx k) z2t.body z2t.rs a0
def z2t.l16 (k:Nat) (n:Nat) (x3:Ty.D .str) (x47:Ty.D (.slc tUndo)) (x48:Ty.D (.int .i64)) (x49:Ty.D (.int .i64)):Option (Sg.Out z2t.sg):=loopAt (z2t.cx k) z2t.body [1,1,1,1,1,1,1,0,1,0] 16 [3,47,48,49] [8] [] (Sg.K z2t.sg (z2t.cx k) z2t.rs) n ⟨[(3,.dat .str x3),(47,.dat (.slc tUndo) x47),(48,.dat (.int .i64) x48),(49,.dat (.int .i64) x49)],[]⟩
theorem z2t.f_eq (k:Nat) (a0:Ty.D tOp):z2t.f k a0=bnd (packI a0.1) fun r0=>bnd (z2u.f k a0) fun r1=>br r1 (some r0) (bnd (z1R.f k a0.2.1) fun r2=>br (roomS r0 r2) (br (ieq a0.1 3) (bnd (z1D.f k a0.2.2.2.1) fun r3=>bnd (packI r3) fun r4=>br (roomS (app r0 r2) r4) (some (app (app r0 r2) r4)) none) (br (ieq a0.1 1) (br (ieq a0.1 1) (bnd (z1z.f k a0.2.2.1) fun r5=>br (roomS (app r0 r2) r5) (br (ieq a0.1 2) (some (app (app r0 r2) r5)) (bnd (packI (ilen a0.2.2.2.2)) fun r6=>br (roomS (app (app r0 r2) r5) r6) (z2t.l16 k k (app (app (app r0 r2) r5) r6) a0.2.2.2.2 (ilen a0.2.2.2.2) 0) none)) none) (br (ieq a0.1 2) (some (app r0 r2)) (bnd (packI (ilen a0.2.2.2.2)) fun r7=>br (roomS (app r0 r2) r7) (z2t.l16 k k (app (app r0 r2) r7) a0.2.2.2.2 (ilen a0.2.2.2.2) 0) none))) (br (ieq a0.1 2) (br (ieq a0.1 2) (bnd (z1z.f k a0.2.2.1) fun r8=>br (roomS (app r0 r2) r8) (br (ieq a0.1 2) (some (app (app r0 r2) r8)) (bnd (packI (ilen a0.2.2.2.2)) fun r9=>br (roomS (app (app r0 r2) r8) r9) (z2t.l16 k k (app (app (app r0 r2) r8) r9) a0.2.2.2.2 (ilen a0.2.2.2.2) 0) none)) none) (br (ieq a0.1 2) (some (app r0 r2)) (bnd (packI (ilen a0.2.2.2.2)) fun r10=>br (roomS (app r0 r2) r10) (z2t.l16 k k (app (app r0 r2) r10) a0.2.2.2.2 (ilen a0.2.2.2.2) 0) none))) (br (ieq a0.1 4) (bnd (z1z.f k a0.2.2.1) fun r11=>br (roomS (app r0 r2) r11) (br (ieq a0.1 2) (some (app (app r0 r2) r11)) (bnd (packI (ilen a0.2.2.2.2)) fun r12=>br (roomS (app (app r0 r2) r11) r12) (z2t.l16 k k (app (app (app r0 r2) r11) r12) a0.2.2.2.2 (ilen a0.2.2.2.2) 0) none)) none) (br (ieq a0.1 2) (some (app r0 r2)) (bnd (packI (ilen a0.2.2.2.2)) fun r13=>br (roomS (app r0 r2) r13) (z2t.l16 k k (app (app r0 r2) r13) a0.2.2.2.2 (ilen a0.2.2.2.2) 0) none)))))) none):=by kernel_rfl
theorem z2t.l16_eq (k:Nat) (n16:Nat) (x3:Ty.D .str) (x47:Ty.D (.slc tUndo)) (x48:Ty.D (.int .i64)) (x49:Ty.D (.int .i64)):z2t.l16 k (n16+1) x3 x47 x48 x49=br (ilt x49 x48) (br (inL x49 x47) (bnd (z2f.f k ((rd tUndo x47 (natOf x49)).1)) fun r0=>bnd (packI ((rd tUndo x47 (natOf x49)).2)) fun r1=>br (roomS r0 r1) (br (roomS x3 (app r0 r1)) (z2t.l16 k n16 (app x3 (app r0 r1)) x47 x48 (iadd .i64 x49 1)) none) none) none) (some x3):=by kernel_rfl
def z2t.e (k:Nat):Entry:=Sg.entry z2t.sg fun x=>z2t.f k x
theorem z2t.ok (k:Nat):CallOK Tryz.prog 144 (z2t.e k):=fn_ok (c:=z2t.cx k) (code:=z2t.body) (TT.of tt_ok pp_ok mm_ok) (fns_ok ⟨packint_ok,(z2u.ok k),(z1R.ok k),(z1D.ok k),(z1z.ok k),(z2f.ok k),trivial⟩) mixed Tryz.func144 (by kernel_rfl) (by kernel_rfl) (by kernel_rfl) (by kernel_rfl) (by kernel_rfl) (by kernel_rfl) (fun x=>by kernel_rfl)
def z2i.body:Go.Code:=Tryz.f61.body.getD .skip
def z2i.rs:List Go.ResultVar:=Tryz.f61.results.toList
def z2i.regs:List (Nat × RInfo):=[(0,⟨[1],[1],[0],[],0,[],[],[],[],[]⟩),(1,ri [1,3] [1]),(2,ri [1,3,8] [1]),(3,ri [1,3] [1]),(4,rq [1,4] [1] 19),(5,ri [4,29,30,31] []),(6,⟨[4,29,30,31,32],[],[],[],0,[4,29,30,31],[],[],[],[]⟩),(7,⟨[4,6,29,30,31],[6],[3],[],0,[],[],[],[],[]⟩),(8,ri [4,29,30,31] []),(9,ri [4,29,30,31] []),(10,ri [2] [])]
def z2i.cx (k:Nat):Cx:=⟨tt,pp,[(62,(z2f.e k)),(60,packIntE),(144,(z2t.e k))],z2i.regs,k,mm⟩
@[reducible] def z2i.sg:Sg:=⟨[.dat tTxn],[],.dat .str,[]⟩
def z2i.f (k:Nat) (a0:Ty.D tTxn):Option (Sg.Out z2i.sg):=Sg.fn z2i.sg (z2i.cx k) z2i.body z2i.rs a0
def z2i.l6 (k:Nat) (n:Nat) (x4:Ty.D .str) (x29:Ty.D (.slc tOp)) (x30:Ty.D (.int .i64)) (x31:Ty.D (.int .i64)):Option (Sg.Out z2i.sg):=loopAt (z2i.cx k) z2i.body [1,1,1,1,0,1,0] 6 [4,29,30,31] [] [] (Sg.K z2i.sg (z2i.cx k) z2i.rs) n ⟨[(4,.dat .str x4),(29,.dat (.slc tOp) x29),(30,.dat (.int .i64) x30),(31,.dat (.int .i64) x31)],[]⟩
theorem z2i.f_eq (k:Nat) (a0:Ty.D tTxn):z2i.f k a0=br a0.2.2.2.1 (bnd (z2f.f k a0.1) fun r0=>bnd (packI a0.2.1) fun r1=>br (roomS r0 r1) (bnd (packI a0.2.2.1) fun r2=>br (roomS (app r0 r1) r2) (bnd (packI 1) fun r3=>br (roomS (app (app r0 r1) r2) r3) (bnd (packI (ilen a0.2.2.2.2)) fun r4=>br (roomS (app (app (app r0 r1) r2) r3) r4) (z2i.l6 k k (app (app (app (app r0 r1) r2) r3) r4) a0.2.2.2.2 (ilen a0.2.2.2.2) 0) none) none) none) none) (bnd (z2f.f k a0.1) fun r5=>bnd (packI a0.2.1) fun r6=>br (roomS r5 r6) (bnd (packI a0.2.2.1) fun r7=>br (roomS (app r5 r6) r7) (bnd (packI 0) fun r8=>br (roomS (app (app r5 r6) r7) r8) (bnd (packI (ilen a0.2.2.2.2)) fun r9=>br (roomS (app (app (app r5 r6) r7) r8) r9) (z2i.l6 k k (app (app (app (app r5 r6) r7) r8) r9) a0.2.2.2.2 (ilen a0.2.2.2.2) 0) none) none) none) none):=by kernel_rfl
theorem z2i.l6_eq (k:Nat) (n6:Nat) (x4:Ty.D .str) (x29:Ty.D (.slc tOp)) (x30:Ty.D (.int .i64)) (x31:Ty.D (.int .i64)):z2i.l6 k (n6+1) x4 x29 x30 x31=br (ilt x31 x30) (br (inL x31 x29) (bnd (z2t.f k (rd tOp x29 (natOf x31))) fun r0=>br (roomS x4 r0) (z2i.l6 k n6 (app x4 r0) x29 x30 (iadd .i64 x31 1)) none) none) (some x4):=by kernel_rfl
def z2i.e (k:Nat):Entry:=Sg.entry z2i.sg fun x=>z2i.f k x
theorem z2i.ok (k:Nat):CallOK Tryz.prog 61 (z2i.e k):=fn_ok (c:=z2i.cx k) (code:=z2i.body) (TT.of tt_ok pp_ok mm_ok) (fns_ok ⟨(z2f.ok k),packint_ok,(z2t.ok k),trivial⟩) mixed Tryz.func61 (by kernel_rfl) (by kernel_rfl) (by kernel_rfl) (by kernel_rfl) (by kernel_rfl) (by kernel_rfl) (fun x=>by kernel_rfl)
def z2h.body:Go.Code:=Tryz.f99.body.getD .skip
def z2h.rs:List Go.ResultVar:=Tryz.f99.results.toList
def z2h.regs:List (Nat × RInfo):=[(0,ri [0] []),(1,ri [0,3] [8]),(2,ri [3,9,10,11] [8]),(3,⟨[3,9,10,11,12],[8],[],[],0,[3,9,10,11],[8],[],[],[]⟩),(4,⟨[3,5,9,10,11],[5,8],[3],[],0,[],[],[],[],[]⟩),(5,ri [3,9,10,11] [8]),(6,ri [3,9,10,11] [8]),(7,ri [2] [8])]
def z2h.cx (k:Nat):Cx:=⟨tt,pp,[(60,packIntE),(61,(z2i.e k))],z2h.regs,k,mm⟩
@[reducible] def z2h.sg:Sg:=⟨[.dat (.slc tTxn)],[],.dat .str,[]⟩
def z2h.f (k:Nat) (a0:Ty.D (.slc tTxn)):Option (Sg.Out z2h.sg):=Sg.fn z2h.sg (z2h.cx k) z2h.body z2h.rs a0
def z2h.l3 (k:Nat) (n:Nat) (x3:Ty.D .str) (x9:Ty.D (.slc tTxn)) (x10:Ty.D (.int .i64)) (x11:Ty.D (.int .i64)):Option (Sg.Out z2h.sg):=loopAt (z2h.cx k) z2h.body [1,1,0,1,0] 3 [3,9,10,11] [8] [] (Sg.K z2h.sg (z2h.cx k) z2h.rs) n ⟨[(3,.dat .str x3),(9,.dat (.slc tTxn) x9),(10,.dat (.int .i64) x10),(11,.dat (.int .i64) x11)],[]⟩
theorem z2h.f_eq (k:Nat) (a0:Ty.D (.slc tTxn)):z2h.f k a0=bnd (packI (ilen a0)) fun r0=>z2h.l3 k k r0 a0 (ilen a0) 0:=by kernel_rfl
theorem z2h.l3_eq (k:Nat) (n3:Nat) (x3:Ty.D .str) (x9:Ty.D (.slc tTxn)) (x10:Ty.D (.int .i64)) (x11:Ty.D (.int .i64)):z2h.l3 k (n3+1) x3 x9 x10 x11=br (ilt x11 x10) (br (inL x11 x9) (bnd (z2i.f k (rd tTxn x9 (natOf x11))) fun r0=>br (roomS x3 r0) (z2h.l3 k n3 (app x3 r0) x9 x10 (iadd .i64 x11 1)) none) none) (some x3):=by kernel_rfl
def z2h.e (k:Nat):Entry:=Sg.entry z2h.sg fun x=>z2h.f k x
theorem z2h.ok (k:Nat):CallOK Tryz.prog 99 (z2h.e k):=fn_ok (c:=z2h.cx k) (code:=z2h.body) (TT.of tt_ok pp_ok mm_ok) (fns_ok ⟨packint_ok,(z2i.ok k),trivial⟩) mixed Tryz.func99 (by kernel_rfl) (by kernel_rfl) (by kernel_rfl) (by kernel_rfl) (by kernel_rfl) (by kernel_rfl) (fun x=>by kernel_rfl)
def z1n.body:Go.Code:=Tryz.f100.body.getD .skip
def z1n.rs:List Go.ResultVar:=Tryz.f100.results.toList
def z1n.regs:List (Nat × RInfo):=[(0,ri [0] []),(1,ri [0,3] [8]),(2,ri [3,9,10,11] [8]),(3,⟨[3,9,10,11,12],[8],[],[],0,[3,9,10,11],[8],[],[],[]⟩),(4,ri [3,5,9,10,11] [5,8]),(5,rq [3,9,10,11] [8] 9),(6,ri [3,9,10,11] [8]),(7,ri [2] [8])]
def z1n.cx (k:Nat):Cx:=⟨tt,pp,[(60,packIntE),(62,(z2f.e k))],z1n.regs,k,mm⟩
@[reducible] def z1n.sg:Sg:=⟨[.dat (.slc tUndo)],[],.dat .str,[]⟩
def z1n.f (k:Nat) (a0:Ty.D (.slc tUndo)):Option (Sg.Out z1n.sg):=Sg.fn z1n.sg (z1n.cx k) z1n.body z1n.rs a0
def z1n.l3 (k:Nat) (n:Nat) (x3:Ty.D .str) (x9:Ty.D (.slc tUndo)) (x10:Ty.D (.int .i64)) (x11:Ty.D (.int .i64)):Option (Sg.Out z1n.sg):=loopAt (z1n.cx k) z1n.body [1,1,0,1,0] 3 [3,9,10,11] [8] [] (Sg.K z1n.sg (z1n.cx k) z1n.rs) n ⟨[(3,.dat .str x3),(9,.dat (.slc tUndo) x9),(10,.dat (.int .i64) x10),(11,.dat (.int .i64) x11)],[]⟩
theorem z1n.f_eq (k:Nat) (a0:Ty.D (.slc tUndo)):z1n.f k a0=bnd (packI (ilen a0)) fun r0=>z1n.l3 k k r0 a0 (ilen a0) 0:=by kernel_rfl
theorem z1n.l3_eq (k:Nat) (n3:Nat) (x3:Ty.D .str) (x9:Ty.D (.slc tUndo)) (x10:Ty.D (.int .i64)) (x11:Ty.D (.int .i64)):z1n.l3 k (n3+1) x3 x9 x10 x11=br (ilt x11 x10) (br (inL x11 x9) (bnd (z2f.f k ((rd tUndo x9 (natOf x11)).1)) fun r0=>bnd (packI ((rd tUndo x9 (natOf x11)).2)) fun r1=>br (roomS r0 r1) (br (roomS x3 (app r0 r1)) (z1n.l3 k n3 (app x3 (app r0 r1)) x9 x10 (iadd .i64 x11 1)) none) none) none) (some x3):=by kernel_rfl
def z1n.e (k:Nat):Entry:=Sg.entry z1n.sg fun x=>z1n.f k x
theorem z1n.ok (k:Nat):CallOK Tryz.prog 100 (z1n.e k):=fn_ok (c:=z1n.cx k) (code:=z1n.body) (TT.of tt_ok pp_ok mm_ok) (fns_ok ⟨packint_ok,(z2f.ok k),trivial⟩) mixed Tryz.func100 (by kernel_rfl) (by kernel_rfl) (by kernel_rfl) (by kernel_rfl) (by kernel_rfl) (by kernel_rfl) (fun x=>by kernel_rfl)
def z2b.body:Go.Code:=Tryz.f101.body.getD .skip
def z2b.rs:List Go.ResultVar:=Tryz.f101.results.toList
def z2b.regs:List (Nat × RInfo):=[(0,ri [0] []),(1,ri [0,3] [8]),(2,ri [3,9,10,11] [8]),(3,⟨[3,9,10,11,12],[8],[],[],0,[3,9,10,11],[8],[],[],[]⟩),(4,ri [3,5,9,10,11] [5,8]),(5,ri [3,9,10,11] [8]),(6,ri [3,9,10,11] [8]),(7,ri [2] [8])]
def z2b.cx (k:Nat):Cx:=⟨tt,pp,[(60,packIntE),(62,(z2f.e k))],z2b.regs,k,mm⟩
@[reducible] def z2b.sg:Sg:=⟨[.dat (.slc tDot)],[],.dat .str,[]⟩
def z2b.f (k:Nat) (a0:Ty.D (.slc tDot)):Option (Sg.Out z2b.sg):=Sg.fn z2b.sg (z2b.cx k) z2b.body z2b.rs a0
def z2b.l3 (k:Nat) (n:Nat) (x3:Ty.D .str) (x9:Ty.D (.slc tDot)) (x10:Ty.D (.int .i64)) (x11:Ty.D (.int .i64)):Option (Sg.Out z2b.sg):=loopAt (z2b.cx k) z2b.body [1,1,0,1,0] 3 [3,9,10,11] [8] [] (Sg.K z2b.sg (z2b.cx k) z2b.rs) n ⟨[(3,.dat .str x3),(9,.dat (.slc tDot) x9),(10,.dat (.int .i64) x10),(11,.dat (.int .i64) x11)],[]⟩
theorem z2b.f_eq (k:Nat) (a0:Ty.D (.slc tDot)):z2b.f k a0=bnd (packI (ilen a0)) fun r0=>z2b.l3 k k r0 a0 (ilen a0) 0:=by kernel_rfl
theorem z2b.l3_eq (k:Nat) (n3:Nat) (x3:Ty.D .str) (x9:Ty.D (.slc tDot)) (x10:Ty.D (.int .i64)) (x11:Ty.D (.int .i64)):z2b.l3 k (n3+1) x3 x9 x10 x11=br (ilt x11 x10) (br (inL x11 x9) (bnd (z2f.f k (rd tDot x9 (natOf x11))) fun r0=>br (roomS x3 r0) (z2b.l3 k n3 (app x3 r0) x9 x10 (iadd .i64 x11 1)) none) none) (some x3):=by kernel_rfl
def z2b.e (k:Nat):Entry:=Sg.entry z2b.sg fun x=>z2b.f k x
theorem z2b.ok (k:Nat):CallOK Tryz.prog 101 (z2b.e k):=fn_ok (c:=z2b.cx k) (code:=z2b.body) (TT.of tt_ok pp_ok mm_ok) (fns_ok ⟨packint_ok,(z2f.ok k),trivial⟩) mixed Tryz.func101 (by kernel_rfl) (by kernel_rfl) (by kernel_rfl) (by kernel_rfl) (by kernel_rfl) (by kernel_rfl) (fun x=>by kernel_rfl)
def z0H.body:Go.Code:=Tryz.f39.body.getD .skip
def z0H.rs:List Go.ResultVar:=Tryz.f39.results.toList
def z0H.regs:List (Nat × RInfo):=[(0,⟨[1],[1],[0],[],0,[],[],[],[],[]⟩),(1,rq [2] [] 11)]
def z0H.cx (k:Nat):Cx:=⟨tt,pp,[(99,(z2h.e k)),(100,(z1n.e k)),(101,(z2b.e k))],z0H.regs,k,mm⟩
@[reducible] def z0H.sg:Sg:=⟨[.dat tDelta],[],.dat .str,[]⟩
def z0H.f (k:Nat) (a0:Ty.D tDelta):Option (Sg.Out z0H.sg):=Sg.fn z0H.sg (z0H.cx k) z0H.body z0H.rs a0
theorem z0H.f_eq (k:Nat) (a0:Ty.D tDelta):z0H.f k a0=bnd (z2h.f k a0.1) fun r0=>bnd (z1n.f k a0.2.1) fun r1=>br (roomS r0 r1) (bnd (z2b.f k a0.2.2) fun r2=>br (roomS (app r0 r1) r2) (some (app (app r0 r1) r2)) none) none:=by kernel_rfl
def z0H.e (k:Nat):Entry:=Sg.entry z0H.sg fun x=>z0H.f k x
theorem z0H.ok (k:Nat):CallOK Tryz.prog 39 (z0H.e k):=fn_ok (c:=z0H.cx k) (code:=z0H.body) (TT.of tt_ok pp_ok mm_ok) (fns_ok ⟨(z2h.ok k),(z1n.ok k),(z2b.ok k),trivial⟩) mixed Tryz.func39 (by kernel_rfl) (by kernel_rfl) (by kernel_rfl) (by kernel_rfl) (by kernel_rfl) (by kernel_rfl) (fun x=>by kernel_rfl)
def z2j.body:Go.Code:=Tryz.f197.body.getD .skip
def z2j.rs:List Go.ResultVar:=Tryz.f197.results.toList
def z2j.regs:List (Nat × RInfo):=[(0,ri [1] [1]),(1,ri [1,3] [1]),(2,ri [3,6,7] []),(3,⟨[3,6,7,8],[],[],[],0,[3,6,7],[],[],[],[]⟩),(4,ri [3,5,6,7] []),(5,ri [3,6,7] []),(6,ri [3,6,7] []),(7,ri [2] [])]
def z2j.cx (k:Nat):Cx:=⟨tt,pp,[(60,packIntE)],z2j.regs,k,mm⟩
@[reducible] def z2j.sg:Sg:=⟨[.dat tVec],[],.dat .str,[]⟩
def z2j.f (k:Nat) (a0:Ty.D tVec):Option (Sg.Out z2j.sg):=Sg.fn z2j.sg (z2j.cx k) z2j.body z2j.rs a0
def z2j.l3 (k:Nat) (n:Nat) (x3:Ty.D .str) (x6:Ty.D tVec) (x7:Ty.D (.int .i64)):Option (Sg.Out z2j.sg):=loopAt (z2j.cx k) z2j.body [1,1,0,1,0] 3 [3,6,7] [] [] (Sg.K z2j.sg (z2j.cx k) z2j.rs) n ⟨[(3,.dat .str x3),(6,.dat tVec x6),(7,.dat (.int .i64) x7)],[]⟩
theorem z2j.f_eq (k:Nat) (a0:Ty.D tVec):z2j.f k a0=z2j.l3 k k [] a0 0:=by kernel_rfl
theorem z2j.l3_eq (k:Nat) (n3:Nat) (x3:Ty.D .str) (x6:Ty.D tVec) (x7:Ty.D (.int .i64)):z2j.l3 k (n3+1) x3 x6 x7=br (ilt x7 16) (br (inB x7 16) (bnd (packI (rd (.int .i64) x6 (natOf x7))) fun r0=>br (roomS x3 r0) (z2j.l3 k n3 (app x3 r0) x6 (iadd .i64 x7 1)) none) none) (some x3):=by kernel_rfl
def z2j.e (k:Nat):Entry:=Sg.entry z2j.sg fun x=>z2j.f k x
theorem z2j.ok (k:Nat):CallOK Tryz.prog 197 (z2j.e k):=fn_ok (c:=z2j.cx k) (code:=z2j.body) (TT.of tt_ok pp_ok mm_ok) (fns_ok ⟨packint_ok,trivial⟩) mixed Tryz.func197 (by kernel_rfl) (by kernel_rfl) (by kernel_rfl) (by kernel_rfl) (by kernel_rfl) (by kernel_rfl) (fun x=>by kernel_rfl)
def z1X.body:Go.Code:=Tryz.f145.body.getD .skip
def z1X.rs:List Go.ResultVar:=Tryz.f145.results.toList
def z1X.regs:List (Nat × RInfo):=[(0,⟨[1],[1],[0],[],0,[],[],[],[],[]⟩),(1,rq [2] [] 7)]
def z1X.cx (k:Nat):Cx:=⟨tt,pp,[(197,(z2j.e k)),(101,(z2b.e k))],z1X.regs,k,mm⟩
@[reducible] def z1X.sg:Sg:=⟨[.dat tDots],[],.dat .str,[]⟩
def z1X.f (k:Nat) (a0:Ty.D tDots):Option (Sg.Out z1X.sg):=Sg.fn z1X.sg (z1X.cx k) z1X.body z1X.rs a0
theorem z1X.f_eq (k:Nat) (a0:Ty.D tDots):z1X.f k a0=bnd (z2j.f k a0.1) fun r0=>bnd (z2b.f k a0.2) fun r1=>br (roomS r0 r1) (some (app r0 r1)) none:=by kernel_rfl
def z1X.e (k:Nat):Entry:=Sg.entry z1X.sg fun x=>z1X.f k x
theorem z1X.ok (k:Nat):CallOK Tryz.prog 145 (z1X.e k):=fn_ok (c:=z1X.cx k) (code:=z1X.body) (TT.of tt_ok pp_ok mm_ok) (fns_ok ⟨(z2j.ok k),(z2b.ok k),trivial⟩) mixed Tryz.func145 (by kernel_rfl) (by kernel_rfl) (by kernel_rfl) (by kernel_rfl) (by kernel_rfl) (by kernel_rfl) (fun x=>by kernel_rfl)
@[reducible] def state_Code.sg:Sg:=⟨[.dat tState],[],.dat .str,[]⟩
@[reducible] def record_Code.sg:Sg:=⟨[.dat tRecord],[],.dat .str,[]⟩
@[reducible] def ref23_Bare.sg:Sg:=⟨[.dat tRecord],[],.dat tRecord,[]⟩
@[reducible] def law23_RecordBack.sg:Sg:=⟨[.dat tRecord],[],.dat .bool,[]⟩
def z1f.body:Go.Code:=Tryz.f66.body.getD .skip
def z1f.rs:List Go.ResultVar:=Tryz.f66.results.toList
def z1f.regs:List (Nat × RInfo):=[(0,ri [1] [1]),(1,rq [2] [] 7)]
def z1f.cx (k:Nat):Cx:=⟨tt,pp,[(64,packIntE)],z1f.regs,k,mm⟩
@[reducible] def z1f.sg:Sg:=⟨[.dat tDot],[],.dat .str,[]⟩
def z1f.f (k:Nat) (a0:Ty.D tDot):Option (Sg.Out z1f.sg):=Sg.fn z1f.sg (z1f.cx k) z1f.body z1f.rs a0
theorem z1f.f_eq (k:Nat) (a0:Ty.D tDot):z1f.f k a0=bnd (packI a0.1) fun r0=>bnd (packI a0.2) fun r1=>br (roomS r0 r1) (some (app r0 r1)) none:=by kernel_rfl
def z1f.e (k:Nat):Entry:=Sg.entry z1f.sg fun x=>z1f.f k x
theorem z1f.ok (k:Nat):CallOK Tryz.prog 66 (z1f.e k):=fn_ok (c:=z1f.cx k) (code:=z1f.body) (TT.of tt_ok pp_ok mm_ok) (fns_ok ⟨rpackint_ok,trivial⟩) mixed Tryz.func66 (by kernel_rfl) (by kernel_rfl) (by kernel_rfl) (by kernel_rfl) (by kernel_rfl) (by kernel_rfl) (fun x=>by kernel_rfl)
def z1L.body:Go.Code:=Tryz.f154.body.getD .skip
def z1L.rs:List Go.ResultVar:=Tryz.f154.results.toList
def z1L.regs:List (Nat × RInfo):=[(0,ri [0] []),(1,ri [2] [])]
def z1L.cx (k:Nat):Cx:=⟨tt,pp,[(64,packIntE)],z1L.regs,k,mm⟩
@[reducible] def z1L.sg:Sg:=⟨[.dat .str],[],.dat .str,[]⟩
def z1L.f (k:Nat) (a0:Ty.D .str):Option (Sg.Out z1L.sg):=Sg.fn z1L.sg (z1L.cx k) z1L.body z1L.rs a0
theorem z1L.f_eq (k:Nat) (a0:Ty.D .str):z1L.f k a0=bnd (packI (ilen a0)) fun r0=>br (roomS r0 a0) (some (app r0 a0)) none:=by kernel_rfl
def z1L.e (k:Nat):Entry:=Sg.entry z1L.sg fun x=>z1L.f k x
theorem z1L.ok (k:Nat):CallOK Tryz.prog 154 (z1L.e k):=fn_ok (c:=z1L.cx k) (code:=z1L.body) (TT.of tt_ok pp_ok mm_ok) (fns_ok ⟨rpackint_ok,trivial⟩) mixed Tryz.func154 (by kernel_rfl) (by kernel_rfl) (by kernel_rfl) (by kernel_rfl) (by kernel_rfl) (by kernel_rfl) (fun x=>by kernel_rfl)
def z1E.body:Go.Code:=Tryz.f198.body.getD .skip
def z1E.rs:List Go.ResultVar:=Tryz.f198.results.toList
def z1E.regs:List (Nat × RInfo):=[(0,ri [0] []),(1,ri [0,3] [7]),(2,ri [0,3,4] [7]),(3,⟨[0,3,4,11],[7],[],[],0,[0,3,4],[7],[],[],[]⟩),(5,ri [0,3,4] [7]),(4,ri [0,3,4] [7]),(6,ri [2] [7])]
def z1E.cx (k:Nat):Cx:=⟨tt,pp,[(64,packIntE),(154,(z1L.e k))],z1E.regs,k,mm⟩
@[reducible] def z1E.sg:Sg:=⟨[.dat (.slc .str)],[],.dat .str,[]⟩
def z1E.f (k:Nat) (a0:Ty.D (.slc .str)):Option (Sg.Out z1E.sg):=Sg.fn z1E.sg (z1E.cx k) z1E.body z1E.rs a0
def z1E.l3 (k:Nat) (n:Nat) (x0:Ty.D (.slc .str)) (x3:Ty.D .str) (x4:Ty.D (.int .i64)):Option (Sg.Out z1E.sg):=loopAt (z1E.cx k) z1E.body [1,1,0,1,0] 3 [0,3,4] [7] [] (Sg.K z1E.sg (z1E.cx k) z1E.rs) n ⟨[(0,.dat (.slc .str) x0),(3,.dat .str x3),(4,.dat (.int .i64) x4)],[]⟩
theorem z1E.f_eq (k:Nat) (a0:Ty.D (.slc .str)):z1E.f k a0=bnd (packI (ilen a0)) fun r0=>z1E.l3 k k a0 r0 0:=by kernel_rfl
theorem z1E.l3_eq (k:Nat) (n3:Nat) (x0:Ty.D (.slc .str)) (x3:Ty.D .str) (x4:Ty.D (.int .i64)):z1E.l3 k (n3+1) x0 x3 x4=br (ilt x4 (ilen x0)) (br (inL x4 x0) (bnd (z1L.f k (rd .str x0 (natOf x4))) fun r0=>br (roomS x3 r0) (z1E.l3 k n3 x0 (app x3 r0) (iadd .i64 x4 1)) none) none) (some x3):=by kernel_rfl
def z1E.e (k:Nat):Entry:=Sg.entry z1E.sg fun x=>z1E.f k x
theorem z1E.ok (k:Nat):CallOK Tryz.prog 198 (z1E.e k):=fn_ok (c:=z1E.cx k) (code:=z1E.body) (TT.of tt_ok pp_ok mm_ok) (fns_ok ⟨rpackint_ok,(z1L.ok k),trivial⟩) mixed Tryz.func198 (by kernel_rfl) (by kernel_rfl) (by kernel_rfl) (by kernel_rfl) (by kernel_rfl) (by kernel_rfl) (fun x=>by kernel_rfl)
def z1C.body:Go.Code:=Tryz.f199.body.getD .skip
def z1C.rs:List Go.ResultVar:=Tryz.f199.results.toList
def z1C.regs:List (Nat × RInfo):=[(0,ri [0] []),(1,ri [0,4] []),(2,ri [2] []),(3,ri [2] [])]
def z1C.cx (k:Nat):Cx:=⟨tt,pp,[],z1C.regs,k,mm⟩
@[reducible] def z1C.sg:Sg:=⟨[.dat (.int .i64)],[],.dat (.int .i64),[]⟩
def z1C.f (k:Nat) (a0:Ty.D (.int .i64)):Option (Sg.Out z1C.sg):=Sg.fn z1C.sg (z1C.cx k) z1C.body z1C.rs a0
theorem z1C.f_eq (k:Nat) (a0:Ty.D (.int .i64)):z1C.f k a0=br (ilt a0 0) (some (isub .i64 (isub .i64 (isub .i64 0 a0) a0) 1)) (some (iadd .i64 a0 a0)):=by kernel_rfl
def z1C.e (k:Nat):Entry:=Sg.entry z1C.sg fun x=>z1C.f k x
theorem z1C.ok (k:Nat):CallOK Tryz.prog 199 (z1C.e k):=fn_ok (c:=z1C.cx k) (code:=z1C.body) (TT.of tt_ok pp_ok mm_ok) (fns_ok trivial) mixed Tryz.func199 (by kernel_rfl) (by kernel_rfl) (by kernel_rfl) (by kernel_rfl) (by kernel_rfl) (by kernel_rfl) (fun x=>by kernel_rfl)
def z1G.body:Go.Code:=Tryz.f200.body.getD .skip
def z1G.rs:List Go.ResultVar:=Tryz.f200.results.toList
def z1G.regs:List (Nat × RInfo):=[(0,ri [1] [1]),(1,ri [1,5] [1]),(2,rq [2] [] 5),(3,rq [2] [] 8)]
def z1G.cx (k:Nat):Cx:=⟨tt,pp,[(64,packIntE),(154,(z1L.e k)),(199,(z1C.e k))],z1G.regs,k,mm⟩
@[reducible] def z1G.sg:Sg:=⟨[.dat tValue],[],.dat .str,[]⟩
def z1G.f (k:Nat) (a0:Ty.D tValue):Option (Sg.Out z1G.sg):=Sg.fn z1G.sg (z1G.cx k) z1G.body z1G.rs a0
theorem z1G.f_eq (k:Nat) (a0:Ty.D tValue):z1G.f k a0=br (ieq a0.1 2) (bnd (packI 2) fun r0=>bnd (z1L.f k a0.2.2) fun r1=>br (roomS r0 r1) (some (app r0 r1)) none) (bnd (packI a0.1) fun r2=>bnd (z1C.f k a0.2.1) fun r3=>bnd (packI r3) fun r4=>br (roomS r2 r4) (some (app r2 r4)) none):=by kernel_rfl
def z1G.e (k:Nat):Entry:=Sg.entry z1G.sg fun x=>z1G.f k x
theorem z1G.ok (k:Nat):CallOK Tryz.prog 200 (z1G.e k):=fn_ok (c:=z1G.cx k) (code:=z1G.body) (TT.of tt_ok pp_ok mm_ok) (fns_ok ⟨rpackint_ok,(z1L.ok k),(z1C.ok k),trivial⟩) mixed Tryz.func200 (by kernel_rfl) (by kernel_rfl) (by kernel_rfl) (by kernel_rfl) (by kernel_rfl) (by kernel_rfl) (fun x=>by kernel_rfl)
def z1h.body:Go.Code:=Tryz.f146.body.getD .skip
def z1h.rs:List Go.ResultVar:=Tryz.f146.results.toList
def z1h.regs:List (Nat × RInfo):=[(0,⟨[1],[1],[0],[],0,[],[],[],[],[]⟩),(1,ri [1,3] [1,7]),(2,ri [1,3,9] [1,7,9]),(3,ri [2] [7]),(4,ri [1,3] [1,7]),(5,ri [1,3,18] [1,7]),(6,ri [2] [7]),(7,ri [1,3,27] [1,7]),(8,ri [1,3] [1,7]),(9,ri [1,3,35] [1,7]),(10,ri [2] [7]),(11,ri [1,3] [1,7]),(12,ri [1,3,4] [1,7]),(13,⟨[1,3,4,47],[1,7],[],[],0,[1,3,4],[1,7],[],[],[]⟩),(15,rq [1,3,4] [1,7] 17),(14,ri [1,3,4] [1,7]),(16,ri [2] [7])]
def z1h.cx (k:Nat):Cx:=⟨tt,pp,[(64,packIntE),(116,(z1o.e k)),(198,(z1E.e k)),(199,(z1C.e k)),(200,(z1G.e k)),(66,(z1f.e k))],z1h.regs,k,mm⟩
@[reducible] def z1h.sg:Sg:=⟨[.dat tOp],[],.dat .str,[]⟩
def z1h.f (k:Nat) (a0:Ty.D tOp):Option (Sg.Out z1h.sg):=Sg.fn z1h.sg (z1h.cx k) z1h.body z1h.rs a0
def z1h.l13 (k:Nat) (n:Nat) (x3:Ty.D .str) (x4:Ty.D (.int .i64)) (m1:Ty.D tOp):Option (Sg.Out z1h.sg):=loopAt (z1h.cx k) z1h.body [1,1,1,1,1,1,1,1,0,1,0] 13 [1,3,4] [1,7] [] (Sg.K z1h.sg (z1h.cx k) z1h.rs) n ⟨[(1,.ref 1 []),(3,.dat .str x3),(4,.dat (.int .i64) x4)],[(1,.dat tOp m1)]⟩
theorem z1h.f_eq (k:Nat) (a0:Ty.D tOp):z1h.f k a0=bnd (packI a0.1) fun r0=>bnd (z1o.f k a0) fun r1=>br r1 (some r0) (bnd (z1E.f k a0.2.1) fun r2=>br (roomS r0 r2) (br (ieq a0.1 3) (bnd (z1C.f k a0.2.2.2.1) fun r3=>bnd (packI r3) fun r4=>br (roomS (app r0 r2) r4) (some (app (app r0 r2) r4)) none) (br (bnot (ieq a0.1 5)) (bnd (z1G.f k a0.2.2.1) fun r5=>br (roomS (app r0 r2) r5) (br (ieq a0.1 2) (some (app (app r0 r2) r5)) (bnd (packI (ilen a0.2.2.2.2)) fun r6=>br (roomS (app (app r0 r2) r5) r6) (z1h.l13 k k (app (app (app r0 r2) r5) r6) 0 a0) none)) none) (br (ieq a0.1 2) (some (app r0 r2)) (bnd (packI (ilen a0.2.2.2.2)) fun r7=>br (roomS (app r0 r2) r7) (z1h.l13 k k (app (app r0 r2) r7) 0 a0) none)))) none):=by kernel_rfl
theorem z1h.l13_eq (k:Nat) (n13:Nat) (x3:Ty.D .str) (x4:Ty.D (.int .i64)) (m1:Ty.D tOp):z1h.l13 k (n13+1) x3 x4 m1=br (ilt x4 (ilen m1.2.2.2.2)) (br (inL x4 m1.2.2.2.2) (bnd (z1f.f k ((rd tUndo m1.2.2.2.2 (natOf x4)).1)) fun r0=>br (roomS x3 r0) (br (inL x4 m1.2.2.2.2) (bnd (packI ((rd tUndo m1.2.2.2.2 (natOf x4)).2)) fun r1=>br (roomS (app x3 r0) r1) (z1h.l13 k n13 (app (app x3 r0) r1) (iadd .i64 x4 1) m1) none) none) none) none) (some x3):=by kernel_rfl
def z1h.e (k:Nat):Entry:=Sg.entry z1h.sg fun x=>z1h.f k x
theorem z1h.ok (k:Nat):CallOK Tryz.prog 146 (z1h.e k):=fn_ok (c:=z1h.cx k) (code:=z1h.body) (TT.of tt_ok pp_ok mm_ok) (fns_ok ⟨rpackint_ok,(z1o.ok k),(z1E.ok k),(z1C.ok k),(z1G.ok k),(z1f.ok k),trivial⟩) mixed Tryz.func146 (by kernel_rfl) (by kernel_rfl) (by kernel_rfl) (by kernel_rfl) (by kernel_rfl) (by kernel_rfl) (fun x=>by kernel_rfl)
def z1k.body:Go.Code:=Tryz.f65.body.getD .skip
def z1k.rs:List Go.ResultVar:=Tryz.f65.results.toList
def z1k.regs:List (Nat × RInfo):=[(0,⟨[1],[1],[0],[],0,[],[],[],[],[]⟩),(1,rq [1,3] [1] 11),(2,ri [1,3,17] [1]),(3,ri [1,3] [1]),(4,ri [1,3] [1]),(5,ri [1,3] [1]),(6,ri [1,3,4] [1]),(7,⟨[1,3,4,34],[1],[],[],0,[1,3,4],[1],[],[],[]⟩),(9,ri [1,3,4] [1]),(8,ri [1,3,4] [1]),(10,ri [2] [])]
def z1k.cx (k:Nat):Cx:=⟨tt,pp,[(66,(z1f.e k)),(64,packIntE),(146,(z1h.e k))],z1k.regs,k,mm⟩
@[reducible] def z1k.sg:Sg:=⟨[.dat tTxn],[],.dat .str,[]⟩
def z1k.f (k:Nat) (a0:Ty.D tTxn):Option (Sg.Out z1k.sg):=Sg.fn z1k.sg (z1k.cx k) z1k.body z1k.rs a0
def z1k.l7 (k:Nat) (n:Nat) (x3:Ty.D .str) (x4:Ty.D (.int .i64)) (m1:Ty.D tTxn):Option (Sg.Out z1k.sg):=loopAt (z1k.cx k) z1k.body [1,1,1,1,0,1,0] 7 [1,3,4] [1] [] (Sg.K z1k.sg (z1k.cx k) z1k.rs) n ⟨[(1,.ref 1 []),(3,.dat .str x3),(4,.dat (.int .i64) x4)],[(1,.dat tTxn m1)]⟩
theorem z1k.f_eq (k:Nat) (a0:Ty.D tTxn):z1k.f k a0=bnd (z1f.f k a0.1) fun r0=>bnd (packI a0.2.1) fun r1=>br (roomS r0 r1) (bnd (packI a0.2.2.1) fun r2=>br (roomS (app r0 r1) r2) (br a0.2.2.2.1 (bnd (packI 1) fun r3=>br (roomS (app (app r0 r1) r2) r3) (bnd (packI (ilen a0.2.2.2.2)) fun r4=>br (roomS (app (app (app r0 r1) r2) r3) r4) (z1k.l7 k k (app (app (app (app r0 r1) r2) r3) r4) 0 a0) none) none) (bnd (packI 0) fun r5=>br (roomS (app (app r0 r1) r2) r5) (bnd (packI (ilen a0.2.2.2.2)) fun r6=>br (roomS (app (app (app r0 r1) r2) r5) r6) (z1k.l7 k k (app (app (app (app r0 r1) r2) r5) r6) 0 a0) none) none)) none) none:=by kernel_rfl
theorem z1k.l7_eq (k:Nat) (n7:Nat) (x3:Ty.D .str) (x4:Ty.D (.int .i64)) (m1:Ty.D tTxn):z1k.l7 k (n7+1) x3 x4 m1=br (ilt x4 (ilen m1.2.2.2.2)) (br (inL x4 m1.2.2.2.2) (bnd (z1h.f k (rd tOp m1.2.2.2.2 (natOf x4))) fun r0=>br (roomS x3 r0) (z1k.l7 k n7 (app x3 r0) (iadd .i64 x4 1) m1) none) none) (some x3):=by kernel_rfl
def z1k.e (k:Nat):Entry:=Sg.entry z1k.sg fun x=>z1k.f k x
theorem z1k.ok (k:Nat):CallOK Tryz.prog 65 (z1k.e k):=fn_ok (c:=z1k.cx k) (code:=z1k.body) (TT.of tt_ok pp_ok mm_ok) (fns_ok ⟨(z1f.ok k),rpackint_ok,(z1h.ok k),trivial⟩) mixed Tryz.func65 (by kernel_rfl) (by kernel_rfl) (by kernel_rfl) (by kernel_rfl) (by kernel_rfl) (by kernel_rfl) (fun x=>by kernel_rfl)
end Go.Proofs.YtggcagclpkhlhaaGreatDoor
end
noncomputable section
/- The program's functions, as plain equations. -/
namespace Go.Proofs.YtggcagclpkhlhaaGreatDoor
open Pal
set_option maxRecDepth 100000
def z1x.body:Go.Code:=Tryz.f102.body.getD .skip
def z1x.rs:List Go.ResultVar:=Tryz.f102.results.toList
def z1x.regs:List (Nat × RInfo):=[(0,ri [0] []),(1,ri [0,3] [7]),(2,ri [0,3,4] [7]),(3,⟨[0,3,4,11],[7],[],[],0,[0,3,4],[7],[],[],[]⟩),(5,ri [0,3,4] [7]),(4,ri [0,3,4] [7]),(6,ri [2] [7])]
def z1x.cx (k:Nat):Cx:=⟨tt,pp,[(64,packIntE),(65,(z1k.e k))],z1x.regs,k,mm⟩
@[reducible] def z1x.sg:Sg:=⟨[.dat (.slc tTxn)],[],.dat .str,[]⟩
def z1x.f (k:Nat) (a0:Ty.D (.slc tTxn)):Option (Sg.Out z1x.sg):=Sg.fn z1x.sg (z1x.cx k) z1x.body z1x.rs a0
def z1x.l3 (k:Nat) (n:Nat) (x0:Ty.D (.slc tTxn)) (x3:Ty.D .str) (x4:Ty.D (.int .i64)):Option (Sg.Out z1x.sg):=loopAt (z1x.cx k) z1x.body [1,1,0,1,0] 3 [0,3,4] [7] [] (Sg.K z1x.sg (z1x.cx k) z1x.rs) n ⟨[(0,.dat (.slc tTxn) x0),(3,.dat .str x3),(4,.dat (.int .i64) x4)],[]⟩
theorem z1x.f_eq (k:Nat) (a0:Ty.D (.slc tTxn)):z1x.f k a0=bnd (packI (ilen a0)) fun r0=>z1x.l3 k k a0 r0 0:=by kernel_rfl
theorem z1x.l3_eq (k:Nat) (n3:Nat) (x0:Ty.D (.slc tTxn)) (x3:Ty.D .str) (x4:Ty.D (.int .i64)):z1x.l3 k (n3+1) x0 x3 x4=br (ilt x4 (ilen x0)) (br (inL x4 x0) (bnd (z1k.f k (rd tTxn x0 (natOf x4))) fun r0=>br (roomS x3 r0) (z1x.l3 k n3 x0 (app x3 r0) (iadd .i64 x4 1)) none) none) (some x3):=by kernel_rfl
def z1x.e (k:Nat):Entry:=Sg.entry z1x.sg fun x=>z1x.f k x
theorem z1x.ok (k:Nat):CallOK Tryz.prog 102 (z1x.e k):=fn_ok (c:=z1x.cx k) (code:=z1x.body) (TT.of tt_ok pp_ok mm_ok) (fns_ok ⟨rpackint_ok,(z1k.ok k),trivial⟩) mixed Tryz.func102 (by kernel_rfl) (by kernel_rfl) (by kernel_rfl) (by kernel_rfl) (by kernel_rfl) (by kernel_rfl) (fun x=>by kernel_rfl)
def z1J.body:Go.Code:=Tryz.f103.body.getD .skip
def z1J.rs:List Go.ResultVar:=Tryz.f103.results.toList
def z1J.regs:List (Nat × RInfo):=[(0,ri [0] []),(1,ri [0,3] [7]),(2,ri [0,3,4] [7]),(3,⟨[0,3,4,11],[7],[],[],0,[0,3,4],[7],[],[],[]⟩),(5,rq [0,3,4] [7] 15),(4,ri [0,3,4] [7]),(6,ri [2] [7])]
def z1J.cx (k:Nat):Cx:=⟨tt,pp,[(64,packIntE),(66,(z1f.e k))],z1J.regs,k,mm⟩
@[reducible] def z1J.sg:Sg:=⟨[.dat (.slc tUndo)],[],.dat .str,[]⟩
def z1J.f (k:Nat) (a0:Ty.D (.slc tUndo)):Option (Sg.Out z1J.sg):=Sg.fn z1J.sg (z1J.cx k) z1J.body z1J.rs a0
def z1J.l3 (k:Nat) (n:Nat) (x0:Ty.D (.slc tUndo)) (x3:Ty.D .str) (x4:Ty.D (.int .i64)):Option (Sg.Out z1J.sg):=loopAt (z1J.cx k) z1J.body [1,1,0,1,0] 3 [0,3,4] [7] [] (Sg.K z1J.sg (z1J.cx k) z1J.rs) n ⟨[(0,.dat (.slc tUndo) x0),(3,.dat .str x3),(4,.dat (.int .i64) x4)],[]⟩
theorem z1J.f_eq (k:Nat) (a0:Ty.D (.slc tUndo)):z1J.f k a0=bnd (packI (ilen a0)) fun r0=>z1J.l3 k k a0 r0 0:=by kernel_rfl
theorem z1J.l3_eq (k:Nat) (n3:Nat) (x0:Ty.D (.slc tUndo)) (x3:Ty.D .str) (x4:Ty.D (.int .i64)):z1J.l3 k (n3+1) x0 x3 x4=br (ilt x4 (ilen x0)) (br (inL x4 x0) (bnd (z1f.f k ((rd tUndo x0 (natOf x4)).1)) fun r0=>br (roomS x3 r0) (br (inL x4 x0) (bnd (packI ((rd tUndo x0 (natOf x4)).2)) fun r1=>br (roomS (app x3 r0) r1) (z1J.l3 k n3 x0 (app (app x3 r0) r1) (iadd .i64 x4 1)) none) none) none) none) (some x3):=by kernel_rfl
def z1J.e (k:Nat):Entry:=Sg.entry z1J.sg fun x=>z1J.f k x
theorem z1J.ok (k:Nat):CallOK Tryz.prog 103 (z1J.e k):=fn_ok (c:=z1J.cx k) (code:=z1J.body) (TT.of tt_ok pp_ok mm_ok) (fns_ok ⟨rpackint_ok,(z1f.ok k),trivial⟩) mixed Tryz.func103 (by kernel_rfl) (by kernel_rfl) (by kernel_rfl) (by kernel_rfl) (by kernel_rfl) (by kernel_rfl) (fun x=>by kernel_rfl)
def z1q.body:Go.Code:=Tryz.f104.body.getD .skip
def z1q.rs:List Go.ResultVar:=Tryz.f104.results.toList
def z1q.regs:List (Nat × RInfo):=[(0,ri [0] []),(1,ri [0,3] [7]),(2,ri [0,3,4] [7]),(3,⟨[0,3,4,11],[7],[],[],0,[0,3,4],[7],[],[],[]⟩),(5,ri [0,3,4] [7]),(4,ri [0,3,4] [7]),(6,ri [2] [7])]
def z1q.cx (k:Nat):Cx:=⟨tt,pp,[(64,packIntE),(66,(z1f.e k))],z1q.regs,k,mm⟩
@[reducible] def z1q.sg:Sg:=⟨[.dat (.slc tDot)],[],.dat .str,[]⟩
def z1q.f (k:Nat) (a0:Ty.D (.slc tDot)):Option (Sg.Out z1q.sg):=Sg.fn z1q.sg (z1q.cx k) z1q.body z1q.rs a0
def z1q.l3 (k:Nat) (n:Nat) (x0:Ty.D (.slc tDot)) (x3:Ty.D .str) (x4:Ty.D (.int .i64)):Option (Sg.Out z1q.sg):=loopAt (z1q.cx k) z1q.body [1,1,0,1,0] 3 [0,3,4] [7] [] (Sg.K z1q.sg (z1q.cx k) z1q.rs) n ⟨[(0,.dat (.slc tDot) x0),(3,.dat .str x3),(4,.dat (.int .i64) x4)],[]⟩
theorem z1q.f_eq (k:Nat) (a0:Ty.D (.slc tDot)):z1q.f k a0=bnd (packI (ilen a0)) fun r0=>z1q.l3 k k a0 r0 0:=by kernel_rfl
theorem z1q.l3_eq (k:Nat) (n3:Nat) (x0:Ty.D (.slc tDot)) (x3:Ty.D .str) (x4:Ty.D (.int .i64)):z1q.l3 k (n3+1) x0 x3 x4=br (ilt x4 (ilen x0)) (br (inL x4 x0) (bnd (z1f.f k (rd tDot x0 (natOf x4))) fun r0=>br (roomS x3 r0) (z1q.l3 k n3 x0 (app x3 r0) (iadd .i64 x4 1)) none) none) (some x3):=by kernel_rfl
def z1q.e (k:Nat):Entry:=Sg.entry z1q.sg fun x=>z1q.f k x
theorem z1q.ok (k:Nat):CallOK Tryz.prog 104 (z1q.e k):=fn_ok (c:=z1q.cx k) (code:=z1q.body) (TT.of tt_ok pp_ok mm_ok) (fns_ok ⟨rpackint_ok,(z1f.ok k),trivial⟩) mixed Tryz.func104 (by kernel_rfl) (by kernel_rfl) (by kernel_rfl) (by kernel_rfl) (by kernel_rfl) (by kernel_rfl) (fun x=>by kernel_rfl)
def z0I.body:Go.Code:=Tryz.f40.body.getD .skip
def z0I.rs:List Go.ResultVar:=Tryz.f40.results.toList
def z0I.regs:List (Nat × RInfo):=[(0,⟨[1],[1],[0],[],0,[],[],[],[],[]⟩),(1,rq [2] [] 11)]
def z0I.cx (k:Nat):Cx:=⟨tt,pp,[(102,(z1x.e k)),(103,(z1J.e k)),(104,(z1q.e k))],z0I.regs,k,mm⟩
@[reducible] def z0I.sg:Sg:=⟨[.dat tDelta],[],.dat .str,[]⟩
def z0I.f (k:Nat) (a0:Ty.D tDelta):Option (Sg.Out z0I.sg):=Sg.fn z0I.sg (z0I.cx k) z0I.body z0I.rs a0
theorem z0I.f_eq (k:Nat) (a0:Ty.D tDelta):z0I.f k a0=bnd (z1x.f k a0.1) fun r0=>bnd (z1J.f k a0.2.1) fun r1=>br (roomS r0 r1) (bnd (z1q.f k a0.2.2) fun r2=>br (roomS (app r0 r1) r2) (some (app (app r0 r1) r2)) none) none:=by kernel_rfl
def z0I.e (k:Nat):Entry:=Sg.entry z0I.sg fun x=>z0I.f k x
theorem z0I.ok (k:Nat):CallOK Tryz.prog 40 (z0I.e k):=fn_ok (c:=z0I.cx k) (code:=z0I.body) (TT.of tt_ok pp_ok mm_ok) (fns_ok ⟨(z1x.ok k),(z1J.ok k),(z1q.ok k),trivial⟩) mixed Tryz.func40 (by kernel_rfl) (by kernel_rfl) (by kernel_rfl) (by kernel_rfl) (by kernel_rfl) (by kernel_rfl) (fun x=>by kernel_rfl)
@[reducible] def law23_RecordReads.sg:Sg:=⟨[.dat .str,.dat tDelta],[],.dat .bool,[]⟩
@[reducible] def ref22_Good.sg:Sg:=⟨[.dat tState],[],.dat .bool,[]⟩
def z1s.body:Go.Code:=Tryz.f201.body.getD .skip
def z1s.rs:List Go.ResultVar:=Tryz.f201.results.toList
def z1s.regs:List (Nat × RInfo):=[(0,ri [1] [1]),(1,ri [1,3] [1]),(2,ri [1,3,4] [1]),(3,⟨[1,3,4,6],[1],[],[],0,[1,3,4],[1],[],[],[]⟩),(5,ri [1,3,4] [1]),(4,ri [1,3,4] [1]),(6,ri [2] [])]
def z1s.cx (k:Nat):Cx:=⟨tt,pp,[(64,packIntE)],z1s.regs,k,mm⟩
@[reducible] def z1s.sg:Sg:=⟨[.dat tVec],[],.dat .str,[]⟩
def z1s.f (k:Nat) (a0:Ty.D tVec):Option (Sg.Out z1s.sg):=Sg.fn z1s.sg (z1s.cx k) z1s.body z1s.rs a0
def z1s.l3 (k:Nat) (n:Nat) (x3:Ty.D .str) (x4:Ty.D (.int .i64)) (m1:Ty.D tVec):Option (Sg.Out z1s.sg):=loopAt (z1s.cx k) z1s.body [1,1,0,1,0] 3 [1,3,4] [1] [] (Sg.K z1s.sg (z1s.cx k) z1s.rs) n ⟨[(1,.ref 1 []),(3,.dat .str x3),(4,.dat (.int .i64) x4)],[(1,.dat tVec m1)]⟩
theorem z1s.f_eq (k:Nat) (a0:Ty.D tVec):z1s.f k a0=z1s.l3 k k [] 0 a0:=by kernel_rfl
theorem z1s.l3_eq (k:Nat) (n3:Nat) (x3:Ty.D .str) (x4:Ty.D (.int .i64)) (m1:Ty.D tVec):z1s.l3 k (n3+1) x3 x4 m1=br (ilt x4 16) (br (inB x4 16) (bnd (packI (rd (.int .i64) m1 (natOf x4))) fun r0=>br (roomS x3 r0) (z1s.l3 k n3 (app x3 r0) (iadd .i64 x4 1) m1) none) none) (some x3):=by kernel_rfl
def z1s.e (k:Nat):Entry:=Sg.entry z1s.sg fun x=>z1s.f k x
theorem z1s.ok (k:Nat):CallOK Tryz.prog 201 (z1s.e k):=fn_ok (c:=z1s.cx k) (code:=z1s.body) (TT.of tt_ok pp_ok mm_ok) (fns_ok ⟨rpackint_ok,trivial⟩) mixed Tryz.func201 (by kernel_rfl) (by kernel_rfl) (by kernel_rfl) (by kernel_rfl) (by kernel_rfl) (by kernel_rfl) (fun x=>by kernel_rfl)
def z1j.body:Go.Code:=Tryz.f147.body.getD .skip
def z1j.rs:List Go.ResultVar:=Tryz.f147.results.toList
def z1j.regs:List (Nat × RInfo):=[(0,⟨[1],[1],[0],[],0,[],[],[],[],[]⟩),(1,rq [2] [] 7)]
def z1j.cx (k:Nat):Cx:=⟨tt,pp,[(201,(z1s.e k)),(104,(z1q.e k))],z1j.regs,k,mm⟩
@[reducible] def z1j.sg:Sg:=⟨[.dat tDots],[],.dat .str,[]⟩
def z1j.f (k:Nat) (a0:Ty.D tDots):Option (Sg.Out z1j.sg):=Sg.fn z1j.sg (z1j.cx k) z1j.body z1j.rs a0
theorem z1j.f_eq (k:Nat) (a0:Ty.D tDots):z1j.f k a0=bnd (z1s.f k a0.1) fun r0=>bnd (z1q.f k a0.2) fun r1=>br (roomS r0 r1) (some (app r0 r1)) none:=by kernel_rfl
def z1j.e (k:Nat):Entry:=Sg.entry z1j.sg fun x=>z1j.f k x
theorem z1j.ok (k:Nat):CallOK Tryz.prog 147 (z1j.e k):=fn_ok (c:=z1j.cx k) (code:=z1j.body) (TT.of tt_ok pp_ok mm_ok) (fns_ok ⟨(z1s.ok k),(z1q.ok k),trivial⟩) mixed Tryz.func147 (by kernel_rfl) (by kernel_rfl) (by kernel_rfl) (by kernel_rfl) (by kernel_rfl) (by kernel_rfl) (fun x=>by kernel_rfl)
@[reducible] def ref22_Code.sg:Sg:=⟨[.dat tState],[],.dat .str,[]⟩
@[reducible] def ref23_Code.sg:Sg:=⟨[.dat tRecord],[],.dat .str,[]⟩
@[reducible] def ref12_Find.sg:Sg:=⟨[.dat (.slc tTxn),.dat tDot],[],.dat (.int .i64),[]⟩
@[reducible] def ref12_Put.sg:Sg:=⟨[.dat (.slc tTxn),.dat tTxn],[],.dat (.slc tTxn),[]⟩
@[reducible] def ref22_Put.sg:Sg:=⟨[.dat tState,.dat tTxn],[],.dat tState,[]⟩
@[reducible] def ref08_Get.sg:Sg:=⟨[.dat (.slc tUndo),.dat tDot],[],.dat (.int .i64),[]⟩
@[reducible] def ref08_Put.sg:Sg:=⟨[.dat (.slc tUndo),.dat tUndo],[],.dat (.slc tUndo),[]⟩
@[reducible] def ref08_Join.sg:Sg:=⟨[.dat (.slc tUndo),.dat (.slc tUndo)],[],.dat (.slc tUndo),[]⟩
@[reducible] def ref22_Raise.sg:Sg:=⟨[.dat tState,.dat (.slc tUndo)],[],.dat tState,[]⟩
@[reducible] def ref22_Seal.sg:Sg:=⟨[.dat tState,.dat (.slc tDot)],[],.dat tState,[]⟩
@[reducible] def ref23_Merged.sg:Sg:=⟨[.dat tState,.dat tDelta],[],.dat tState,[]⟩
@[reducible] def ref23_Done.sg:Sg:=⟨[.dat tState,.dat tRecord],[],.dat tState,[]⟩
@[reducible] def law23_RecordTells.sg:Sg:=⟨[.dat tState,.dat tRecord],[],.dat .bool,[]⟩
def z0Z.body:Go.Code:=Tryz.f79.body.getD .skip
def z0Z.rs:List Go.ResultVar:=Tryz.f79.results.toList
def z0Z.regs:List (Nat × RInfo):=[(0,⟨[1],[1],[0],[],0,[],[],[],[],[]⟩),(1,ri [2] [])]
def z0Z.cx (k:Nat):Cx:=⟨tt,pp,[],z0Z.regs,k,mm⟩
@[reducible] def z0Z.sg:Sg:=⟨[.dat tKnow],[],.dat .bool,[]⟩
def z0Z.f (k:Nat) (a0:Ty.D tKnow):Option (Sg.Out z0Z.sg):=Sg.fn z0Z.sg (z0Z.cx k) z0Z.body z0Z.rs a0
theorem z0Z.f_eq (k:Nat) (a0:Ty.D tKnow):z0Z.f k a0=br (ile (ilen a0.1.2) 100) (br (ile (ilen a0.2.1) 100) (some (ile (ilen a0.2.2.2) 100)) (some false)) (some false):=by kernel_rfl
def z0Z.e (k:Nat):Entry:=Sg.entry z0Z.sg fun x=>z0Z.f k x
theorem z0Z.ok (k:Nat):CallOK Tryz.prog 79 (z0Z.e k):=fn_ok (c:=z0Z.cx k) (code:=z0Z.body) (TT.of tt_ok pp_ok mm_ok) (fns_ok trivial) mixed Tryz.func79 (by kernel_rfl) (by kernel_rfl) (by kernel_rfl) (by kernel_rfl) (by kernel_rfl) (by kernel_rfl) (fun x=>by kernel_rfl)
def z0Q.body:Go.Code:=Tryz.f20.body.getD .skip
def z0Q.rs:List Go.ResultVar:=Tryz.f20.results.toList
def z0Q.regs:List (Nat × RInfo):=[(0,⟨[1],[1],[0],[],0,[],[],[],[],[]⟩),(1,ri [2] [5,9])]
def z0Q.cx (k:Nat):Cx:=⟨tt,pp,[(37,(z0h.e k)),(79,(z0Z.e k))],z0Q.regs,k,mm⟩
@[reducible] def z0Q.sg:Sg:=⟨[.dat tMessage],[],.dat .bool,[]⟩
def z0Q.f (k:Nat) (a0:Ty.D tMessage):Option (Sg.Out z0Q.sg):=Sg.fn z0Q.sg (z0Q.cx k) z0Q.body z0Q.rs a0
theorem z0Q.f_eq (k:Nat) (a0:Ty.D tMessage):z0Q.f k a0=bnd (z0h.f k a0.2.2.2.1) fun r0=>br r0 (bnd (z0Z.f k a0.2.2.2.2) fun r1=>some r1) (some false):=by kernel_rfl
def z0Q.e (k:Nat):Entry:=Sg.entry z0Q.sg fun x=>z0Q.f k x
theorem z0Q.ok (k:Nat):CallOK Tryz.prog 20 (z0Q.e k):=fn_ok (c:=z0Q.cx k) (code:=z0Q.body) (TT.of tt_ok pp_ok mm_ok) (fns_ok ⟨(z0h.ok k),(z0Z.ok k),trivial⟩) mixed Tryz.func20 (by kernel_rfl) (by kernel_rfl) (by kernel_rfl) (by kernel_rfl) (by kernel_rfl) (by kernel_rfl) (fun x=>by kernel_rfl)
def z1O.body:Go.Code:=Tryz.f264.body.getD .skip
def z1O.rs:List Go.ResultVar:=Tryz.f264.results.toList
def z1O.regs:List (Nat × RInfo):=[(0,ri [0] [0]),(1,ri [0,1] [0,1]),(2,ri [0,1,4] [0,1]),(3,⟨[0,1,4,5],[0,1],[],[],0,[0,1,4],[0,1],[],[],[]⟩),(4,ri [0,1,2,4] [0,1]),(5,ri [0,1,2,3,4] [0,1]),(6,ri [0,1,2,3,4,9] [0,1]),(7,⟨[0,1,2,3,4,9,10],[0,1],[],[],0,[0,1,2,3,4,9],[0,1],[],[],[]⟩),(8,ri [0,1,2,3,4,9,13] [0,1]),(9,ri [0,1,2,3,4,9] [0,1]),(10,ri [0,1,2,3,4,9] [0,1]),(11,ri [0,1,2,3,4,9] [0,1]),(12,ri [0,1,4] [0,1]),(13,ri [0,1,4] [0,1]),(14,ri [0] [0])]
def z1O.cx (k:Nat):Cx:=⟨tt,pp,[],z1O.regs,k,mm⟩
@[reducible] def z1O.sg:Sg:=⟨[],[],.dat (.arr 16 (.int .u32)),[]⟩
def z1O.f (k:Nat):Option (Sg.Out z1O.sg):=Sg.fn z1O.sg (z1O.cx k) z1O.body z1O.rs ()
def z1O.l3 (k:Nat) (n:Nat) (x4:Ty.D (.int .i64)) (m0:Ty.D (.arr 16 (.int .u32))) (m1:Ty.D (.arr 16 (.int .u32))):Option (Sg.Out z1O.sg):=loopAt (z1O.cx k) z1O.body [1,1,0,1,0] 3 [0,1,4] [0,1] [] (Sg.K z1O.sg (z1O.cx k) z1O.rs) n ⟨[(0,.ref 0 []),(1,.ref 1 []),(4,.dat (.int .i64) x4)],[(0,.dat (.arr 16 (.int .u32)) m0),(1,.dat (.arr 16 (.int .u32)) m1)]⟩
def z1O.l7 (k:Nat) (n3:Nat) (n:Nat) (x2:Ty.D (.int .i64)) (x3:Ty.D (.int .u32)) (x4:Ty.D (.int .i64)) (x9:Ty.D (.int .i64)) (m0:Ty.D (.arr 16 (.int .u32))) (m1:Ty.D (.arr 16 (.int .u32))):Option (Sg.Out z1O.sg):=loopAt (z1O.cx k) z1O.body [1,1,0,1,0,0,1,1,0,0,1,1,0,1,0] 7 [0,1,2,3,4,9] [0,1] [n3] (Sg.K z1O.sg (z1O.cx k) z1O.rs) n ⟨[(0,.ref 0 []),(1,.ref 1 []),(2,.dat (.int .i64) x2),(3,.dat (.int .u32) x3),(4,.dat (.int .i64) x4),(9,.dat (.int .i64) x9)],[(0,.dat (.arr 16 (.int .u32)) m0),(1,.dat (.arr 16 (.int .u32)) m1)]⟩
theorem z1O.f_eq (k:Nat):z1O.f k=z1O.l3 k k 0 (zarr 16 0) (zarr 16 0):=by kernel_rfl
theorem z1O.l3_eq (k:Nat) (n3:Nat) (x4:Ty.D (.int .i64)) (m0:Ty.D (.arr 16 (.int .u32))) (m1:Ty.D (.arr 16 (.int .u32))):z1O.l3 k (n3+1) x4 m0 m1=br (ilt x4 16) (z1O.l7 k n3 k x4 (iwrap .u32 x4) x4 0 m0 m1) (some m1):=by kernel_rfl
theorem z1O.l7_eq (k:Nat) (n3:Nat) (n7:Nat) (x2:Ty.D (.int .i64)) (x3:Ty.D (.int .u32)) (x4:Ty.D (.int .i64)) (x9:Ty.D (.int .i64)) (m0:Ty.D (.arr 16 (.int .u32))) (m1:Ty.D (.arr 16 (.int .u32))):z1O.l7 k n3 (n7+1) x2 x3 x4 x9 m0 m1=br (ilt x9 4) (br (ieq (iand .u32 x3 1) 1) (z1O.l7 k n3 n7 x2 (ixor .u32 (ishr .u32 x3 1) 3988292384) x4 (iadd .i64 x9 1) m0 m1) (z1O.l7 k n3 n7 x2 (ishr .u32 x3 1) x4 (iadd .i64 x9 1) m0 m1)) (br (inB x2 16) (z1O.l3 k n3 (iadd .i64 x4 1) m0 (upd m1 (natOf x2) x3)) none):=by kernel_rfl
def z1O.e (k:Nat):Entry:=Sg.entry z1O.sg fun x=>z1O.f k
theorem z1O.ok (k:Nat):CallOK Tryz.prog 264 (z1O.e k):=fn_ok (c:=z1O.cx k) (code:=z1O.body) (TT.of tt_ok pp_ok mm_ok) (fns_ok trivial) mixed Tryz.func264 (by kernel_rfl) (by kernel_rfl) (by kernel_rfl) (by kernel_rfl) (by kernel_rfl) (by kernel_rfl) (fun x=>by kernel_rfl)
def z2m.body:Go.Code:=Tryz.f240.body.getD .skip
def z2m.rs:List Go.ResultVar:=Tryz.f240.results.toList
def z2m.regs:List (Nat × RInfo):=[(0,ri [0,1] []),(1,ri [0,1,5] [5]),(2,ri [1,5,6] [5]),(3,ri [1,5,6,12,13] [5]),(4,⟨[1,5,6,12,13,14],[5],[],[],0,[1,5,6,12,13],[5],[],[],[]⟩),(5,ri [1,5,6,7,12,13] [5]),(6,ri [1,5,6,12,13] [5]),(7,ri [1,5,6,12,13] [5]),(8,ri [1,5,6,12,13] [5]),(9,ri [1,5,6,12,13] [5]),(10,ri [4] [])]
def z2m.cx (k:Nat):Cx:=⟨tt,pp,[(264,(z1O.e k))],z2m.regs,k,mm⟩
@[reducible] def z2m.sg:Sg:=⟨[.dat (.int .u32),.dat .str],[],.dat (.int .u32),[]⟩
def z2m.f (k:Nat) (a0:Ty.D (.int .u32)) (a1:Ty.D .str):Option (Sg.Out z2m.sg):=Sg.fn z2m.sg (z2m.cx k) z2m.body z2m.rs (a0,a1)
def z2m.l4 (k:Nat) (n:Nat) (x1:Ty.D .str) (x6:Ty.D (.int .u32)) (x12:Ty.D (.int .i64)) (x13:Ty.D (.int .i64)) (m5:Ty.D (.arr 16 (.int .u32))):Option (Sg.Out z2m.sg):=loopAt (z2m.cx k) z2m.body [1,1,1,0,1,0] 4 [1,5,6,12,13] [5] [] (Sg.K z2m.sg (z2m.cx k) z2m.rs) n ⟨[(1,.dat .str x1),(5,.ref 5 []),(6,.dat (.int .u32) x6),(12,.dat (.int .i64) x12),(13,.dat (.int .i64) x13)],[(5,.dat (.arr 16 (.int .u32)) m5)]⟩
theorem z2m.f_eq (k:Nat) (a0:Ty.D (.int .u32)) (a1:Ty.D .str):z2m.f k a0 a1=bnd (z1O.f k) fun r0=>z2m.l4 k k a1 (ixor .u32 4294967295 a0) (ilen a1) 0 r0:=by kernel_rfl
theorem z2m.l4_eq (k:Nat) (n4:Nat) (x1:Ty.D .str) (x6:Ty.D (.int .u32)) (x12:Ty.D (.int .i64)) (x13:Ty.D (.int .i64)) (m5:Ty.D (.arr 16 (.int .u32))):z2m.l4 k (n4+1) x1 x6 x12 x13 m5=br (ilt x13 x12) (br (inL x13 x1) (br (inB (iand .u32 (ixor .u32 x6 (iwrap .u32 (byteAt x1 x13))) 15) 16) (br (inB (iand .u32 (ixor .u32 (ishr .u32 (ixor .u32 x6 (iwrap .u32 (byteAt x1 x13))) 4) (rd (.int .u32) m5 (natOf (iand .u32 (ixor .u32 x6 (iwrap .u32 (byteAt x1 x13))) 15)))) 15) 16) (z2m.l4 k n4 x1 (ixor .u32 (ishr .u32 (ixor .u32 (ishr .u32 (ixor .u32 x6 (iwrap .u32 (byteAt x1 x13))) 4) (rd (.int .u32) m5 (natOf (iand .u32 (ixor .u32 x6 (iwrap .u32 (byteAt x1 x13))) 15)))) 4) (rd (.int .u32) m5 (natOf (iand .u32 (ixor .u32 (ishr .u32 (ixor .u32 x6 (iwrap .u32 (byteAt x1 x13))) 4) (rd (.int .u32) m5 (natOf (iand .u32 (ixor .u32 x6 (iwrap .u32 (byteAt x1 x13))) 15)))) 15)))) x12 (iadd .i64 x13 1) m5) none) none) none) (some (ixor .u32 4294967295 x6)):=by kernel_rfl
def z2m.e (k:Nat):Entry:=Sg.entry z2m.sg fun x=>z2m.f k x.1 x.2
theorem z2m.ok (k:Nat):CallOK Tryz.prog 240 (z2m.e k):=fn_ok (c:=z2m.cx k) (code:=z2m.body) (TT.of tt_ok pp_ok mm_ok) (fns_ok ⟨(z1O.ok k),trivial⟩) mixed Tryz.func240 (by kernel_rfl) (by kernel_rfl) (by kernel_rfl) (by kernel_rfl) (by kernel_rfl) (by kernel_rfl) (fun x=>by kernel_rfl)
def z2x.body:Go.Code:=Tryz.f207.body.getD .skip
def z2x.rs:List Go.ResultVar:=Tryz.f207.results.toList
def z2x.regs:List (Nat × RInfo):=[(0,ri [0] []),(1,ri [2] [4])]
def z2x.cx (k:Nat):Cx:=⟨tt,pp,[(240,(z2m.e k))],z2x.regs,k,mm⟩
@[reducible] def z2x.sg:Sg:=⟨[.dat .str],[],.dat (.int .u32),[]⟩
def z2x.f (k:Nat) (a0:Ty.D .str):Option (Sg.Out z2x.sg):=Sg.fn z2x.sg (z2x.cx k) z2x.body z2x.rs a0
theorem z2x.f_eq (k:Nat) (a0:Ty.D .str):z2x.f k a0=bnd (z2m.f k 0 a0) fun r0=>some r0:=by kernel_rfl
def z2x.e (k:Nat):Entry:=Sg.entry z2x.sg fun x=>z2x.f k x
theorem z2x.ok (k:Nat):CallOK Tryz.prog 207 (z2x.e k):=fn_ok (c:=z2x.cx k) (code:=z2x.body) (TT.of tt_ok pp_ok mm_ok) (fns_ok ⟨(z2m.ok k),trivial⟩) mixed Tryz.func207 (by kernel_rfl) (by kernel_rfl) (by kernel_rfl) (by kernel_rfl) (by kernel_rfl) (by kernel_rfl) (fun x=>by kernel_rfl)
def z1y.body:Go.Code:=Tryz.f157.body.getD .skip
def z1y.rs:List Go.ResultVar:=Tryz.f157.results.toList
def z1y.regs:List (Nat × RInfo):=[(0,ri [0] []),(1,ri [2] [])]
def z1y.cx (k:Nat):Cx:=⟨tt,pp,[(207,(z2x.e k)),(206,sumBE)],z1y.regs,k,mm⟩
@[reducible] def z1y.sg:Sg:=⟨[.dat .str],[],.dat .str,[]⟩
def z1y.f (k:Nat) (a0:Ty.D .str):Option (Sg.Out z1y.sg):=Sg.fn z1y.sg (z1y.cx k) z1y.body z1y.rs a0
theorem z1y.f_eq (k:Nat) (a0:Ty.D .str):z1y.f k a0=bnd (z2x.f k a0) fun r0=>bnd (YtggcagclpkhlhaaGreatDoor.sumBI r0) fun r1=>br (roomS a0 r1) (some (app a0 r1)) none:=by kernel_rfl
def z1y.e (k:Nat):Entry:=Sg.entry z1y.sg fun x=>z1y.f k x
theorem z1y.ok (k:Nat):CallOK Tryz.prog 157 (z1y.e k):=fn_ok (c:=z1y.cx k) (code:=z1y.body) (TT.of tt_ok pp_ok mm_ok) (fns_ok ⟨(z2x.ok k),sumBytes_ok,trivial⟩) mixed Tryz.func157 (by kernel_rfl) (by kernel_rfl) (by kernel_rfl) (by kernel_rfl) (by kernel_rfl) (by kernel_rfl) (fun x=>by kernel_rfl)
def z2g.body:Go.Code:=Tryz.f84.body.getD .skip
def z2g.rs:List Go.ResultVar:=Tryz.f84.results.toList
def z2g.regs:List (Nat × RInfo):=[(0,ri [0] []),(1,ri [2] [5])]
def z2g.cx (k:Nat):Cx:=⟨tt,pp,[(158,(z1W.e k)),(157,(z1y.e k))],z2g.regs,k,mm⟩
@[reducible] def z2g.sg:Sg:=⟨[.dat .str],[],.dat .str,[]⟩
def z2g.f (k:Nat) (a0:Ty.D .str):Option (Sg.Out z2g.sg):=Sg.fn z2g.sg (z2g.cx k) z2g.body z2g.rs a0
theorem z2g.f_eq (k:Nat) (a0:Ty.D .str):z2g.f k a0=bnd (z1W.f k a0) fun r0=>bnd (z1y.f k r0) fun r1=>some r1:=by kernel_rfl
def z2g.e (k:Nat):Entry:=Sg.entry z2g.sg fun x=>z2g.f k x
theorem z2g.ok (k:Nat):CallOK Tryz.prog 84 (z2g.e k):=fn_ok (c:=z2g.cx k) (code:=z2g.body) (TT.of tt_ok pp_ok mm_ok) (fns_ok ⟨(z1W.ok k),(z1y.ok k),trivial⟩) mixed Tryz.func84 (by kernel_rfl) (by kernel_rfl) (by kernel_rfl) (by kernel_rfl) (by kernel_rfl) (by kernel_rfl) (fun x=>by kernel_rfl)
def z1u.body:Go.Code:=Tryz.f85.body.getD .skip
def z1u.rs:List Go.ResultVar:=Tryz.f85.results.toList
def z1u.regs:List (Nat × RInfo):=[(0,⟨[1],[1],[0],[],0,[],[],[],[],[]⟩),(1,rq [2] [] 11)]
def z1u.cx (k:Nat):Cx:=⟨tt,pp,[(145,(z1X.e k)),(100,(z1n.e k))],z1u.regs,k,mm⟩
@[reducible] def z1u.sg:Sg:=⟨[.dat tKnow],[],.dat .str,[]⟩
def z1u.f (k:Nat) (a0:Ty.D tKnow):Option (Sg.Out z1u.sg):=Sg.fn z1u.sg (z1u.cx k) z1u.body z1u.rs a0
theorem z1u.f_eq (k:Nat) (a0:Ty.D tKnow):z1u.f k a0=bnd (z1X.f k a0.1) fun r0=>bnd (z1n.f k a0.2.1) fun r1=>br (roomS r0 r1) (bnd (z1X.f k a0.2.2) fun r2=>br (roomS (app r0 r1) r2) (some (app (app r0 r1) r2)) none) none:=by kernel_rfl
def z1u.e (k:Nat):Entry:=Sg.entry z1u.sg fun x=>z1u.f k x
theorem z1u.ok (k:Nat):CallOK Tryz.prog 85 (z1u.e k):=fn_ok (c:=z1u.cx k) (code:=z1u.body) (TT.of tt_ok pp_ok mm_ok) (fns_ok ⟨(z1X.ok k),(z1n.ok k),trivial⟩) mixed Tryz.func85 (by kernel_rfl) (by kernel_rfl) (by kernel_rfl) (by kernel_rfl) (by kernel_rfl) (by kernel_rfl) (fun x=>by kernel_rfl)
def z0B.body:Go.Code:=Tryz.f24.body.getD .skip
def z0B.rs:List Go.ResultVar:=Tryz.f24.results.toList
def z0B.regs:List (Nat × RInfo):=[(0,⟨[1],[1],[0],[],0,[],[],[],[],[]⟩),(1,rq [1,3] [1] 11),(2,ri [1,3,17] [1]),(3,ri [2] [23,29]),(4,ri [2] [23,29])]
def z0B.cx (k:Nat):Cx:=⟨tt,pp,[(60,packIntE),(39,(z0H.e k)),(84,(z2g.e k)),(85,(z1u.e k))],z0B.regs,k,mm⟩
@[reducible] def z0B.sg:Sg:=⟨[.dat tMessage],[],.dat .str,[]⟩
def z0B.f (k:Nat) (a0:Ty.D tMessage):Option (Sg.Out z0B.sg):=Sg.fn z0B.sg (z0B.cx k) z0B.body z0B.rs a0
theorem z0B.f_eq (k:Nat) (a0:Ty.D tMessage):z0B.f k a0=bnd (packI a0.1) fun r0=>bnd (packI a0.2.1) fun r1=>br (roomS r0 r1) (bnd (packI a0.2.2.1) fun r2=>br (roomS (app r0 r1) r2) (br (ieq a0.1 1) (bnd (z0H.f k a0.2.2.2.1) fun r3=>br (roomS (app (app r0 r1) r2) r3) (bnd (z2g.f k (app (app (app r0 r1) r2) r3)) fun r4=>some r4) none) (bnd (z1u.f k a0.2.2.2.2) fun r5=>br (roomS (app (app r0 r1) r2) r5) (bnd (z2g.f k (app (app (app r0 r1) r2) r5)) fun r6=>some r6) none)) none) none:=by kernel_rfl
def z0B.e (k:Nat):Entry:=Sg.entry z0B.sg fun x=>z0B.f k x
theorem z0B.ok (k:Nat):CallOK Tryz.prog 24 (z0B.e k):=fn_ok (c:=z0B.cx k) (code:=z0B.body) (TT.of tt_ok pp_ok mm_ok) (fns_ok ⟨packint_ok,(z0H.ok k),(z2g.ok k),(z1u.ok k),trivial⟩) mixed Tryz.func24 (by kernel_rfl) (by kernel_rfl) (by kernel_rfl) (by kernel_rfl) (by kernel_rfl) (by kernel_rfl) (fun x=>by kernel_rfl)
def z2c.body:Go.Code:=Tryz.f159.body.getD .skip
def z2c.rs:List Go.ResultVar:=Tryz.f159.results.toList
def z2c.regs:List (Nat × RInfo):=[(0,ri [0] []),(1,ri [0,4] []),(2,rq [0,4,20] [] 13),(3,ri [2,3] []),(4,ri [2,3] [])]
def z2c.cx (k:Nat):Cx:=⟨tt,pp,[(207,(z2x.e k)),(206,sumBE)],z2c.regs,k,mm⟩
@[reducible] def z2c.sg:Sg:=⟨[.dat .str],[],.t2 (.dat .str) (.dat .bool),[]⟩
def z2c.f (k:Nat) (a0:Ty.D .str):Option (Sg.Out z2c.sg):=Sg.fn z2c.sg (z2c.cx k) z2c.body z2c.rs a0
theorem z2c.f_eq (k:Nat) (a0:Ty.D .str):z2c.f k a0=br (ilt (isub .i64 (ilen a0) 4) 0) (some ([],false)) (br (inS 0 (isub .i64 (ilen a0) 4) (ilen a0)) (bnd (z2x.f k (piece a0 0 (isub .i64 (ilen a0) 4))) fun r0=>bnd (YtggcagclpkhlhaaGreatDoor.sumBI r0) fun r1=>br (inS (isub .i64 (ilen a0) 4) (ilen a0) (ilen a0)) (br (bnot (seq r1 (piece a0 (isub .i64 (ilen a0) 4) (ilen a0)))) (some ([],false)) (br (inS 0 (isub .i64 (ilen a0) 4) (ilen a0)) (some ((piece a0 0 (isub .i64 (ilen a0) 4)),true)) none)) none) none):=by kernel_rfl
def z2c.e (k:Nat):Entry:=Sg.entry z2c.sg fun x=>z2c.f k x
theorem z2c.ok (k:Nat):CallOK Tryz.prog 159 (z2c.e k):=fn_ok (c:=z2c.cx k) (code:=z2c.body) (TT.of tt_ok pp_ok mm_ok) (fns_ok ⟨(z2x.ok k),sumBytes_ok,trivial⟩) mixed Tryz.func159 (by kernel_rfl) (by kernel_rfl) (by kernel_rfl) (by kernel_rfl) (by kernel_rfl) (by kernel_rfl) (fun x=>by kernel_rfl)
def z1V.body:Go.Code:=Tryz.f86.body.getD .skip
def z1V.rs:List Go.ResultVar:=Tryz.f86.results.toList
def z1V.regs:List (Nat × RInfo):=[(0,ri [0] []),(1,ri [0,5] [11]),(2,ri [0,5,6] [11,13]),(3,ri [0,5,6,7] [11,13]),(4,ri [0,5,6,7,19] [11,13]),(5,ri [2,3,4] [24,41]),(6,ri [0,5,6,7,25] [11,13]),(7,ri [2,3,4] [24,41]),(8,ri [0,6,7,28] [13]),(9,ri [2,3,4] [24,41]),(10,ri [0,6,7,8,9] [13,41]),(11,ri [0,6,7,8,45] [13,41]),(12,ri [2,3,4] [24,41]),(13,rq [2,3,4] [24,41] 10)]
def z1V.cx (k:Nat):Cx:=⟨tt,pp,[(30,(z1N.e k)),(87,(z0m.e k)),(35,(z0e.e k)),(34,(z0c.e k)),(159,(z2c.e k))],z1V.regs,k,mm⟩
@[reducible] def z1V.sg:Sg:=⟨[.dat .str],[],.t3 .str .str (.int .i64),[]⟩
def z1V.f (k:Nat) (a0:Ty.D .str):Option (Sg.Out z1V.sg):=Sg.fn z1V.sg (z1V.cx k) z1V.body z1V.rs a0
theorem z1V.f_eq (k:Nat) (a0:Ty.D .str):z1V.f k a0=bnd (z1N.f k a0) fun r0=>bnd (z0m.f k r0.2) fun r1=>bnd (z0e.f k r1.2) fun r2=>bnd (z0c.f k r2.2) fun r3=>br (bnot (ieq r3.1 0)) (bnd (z0c.f k r3.2) fun r4=>some ([],[],r4.1)) (br (ilt 1048576 r1.1) (some ([],[],6)) (bnd (z0e.f k r3.2) fun r5=>br (ilt r5.1 (iadd .i64 r1.1 4)) (some ([],[],4)) (br (inS 0 (iadd .i64 (iadd .i64 (isub .i64 (ilen a0) r2.1) r1.1) 4) (ilen a0)) (bnd (z2c.f k (piece a0 0 (iadd .i64 (iadd .i64 (isub .i64 (ilen a0) r2.1) r1.1) 4))) fun r6=>br (bnot r6.2) (some ([],[],5)) (br (inS (isub .i64 (ilen a0) r2.1) (ilen r6.1) (ilen r6.1)) (br (inS (iadd .i64 (iadd .i64 (isub .i64 (ilen a0) r2.1) r1.1) 4) (ilen a0) (ilen a0)) (some ((piece r6.1 (isub .i64 (ilen a0) r2.1) (ilen r6.1)),(piece a0 (iadd .i64 (iadd .i64 (isub .i64 (ilen a0) r2.1) r1.1) 4) (ilen a0)),0)) none) none)) none))):=by kernel_rfl
def z1V.e (k:Nat):Entry:=Sg.entry z1V.sg fun x=>z1V.f k x
theorem z1V.ok (k:Nat):CallOK Tryz.prog 86 (z1V.e k):=fn_ok (c:=z1V.cx k) (code:=z1V.body) (TT.of tt_ok pp_ok mm_ok) (fns_ok ⟨(z1N.ok k),(z0m.ok k),(z0e.ok k),(z0c.ok k),(z2c.ok k),trivial⟩) mixed Tryz.func86 (by kernel_rfl) (by kernel_rfl) (by kernel_rfl) (by kernel_rfl) (by kernel_rfl) (by kernel_rfl) (fun x=>by kernel_rfl)
def z1v.body:Go.Code:=Tryz.f88.body.getD .skip
def z1v.rs:List Go.ResultVar:=Tryz.f88.results.toList
def z1v.regs:List (Nat × RInfo):=[(0,ri [0,2] [2,1000000]),(1,⟨[0,2,3],[2,3,1000000],[8],[],0,[],[],[],[],[]⟩),(2,ri [2,3,13] [2,3,1000000]),(3,⟨[2],[2,1000000],[1],[],0,[],[],[],[],[]⟩),(4,⟨[2],[2,1000000],[1],[],0,[],[],[],[],[]⟩)]
def z1v.cx (k:Nat):Cx:=⟨tt,pp,[(160,(z23.e k)),(93,(z1B.e k)),(34,(z0c.e k))],z1v.regs,k,mm⟩
@[reducible] def z1v.sg:Sg:=⟨[.ref],[tpackReader],.dat tKnow,[tpackReader]⟩
def z1v.f (k:Nat) (o0:Ty.D tpackReader):Option (Sg.Out z1v.sg):=Sg.fn z1v.sg (z1v.cx k) z1v.body z1v.rs o0
theorem z1v.f_eq (k:Nat) (o0:Ty.D tpackReader):z1v.f k o0=bnd (z23.f k o0) fun r0=>bnd (z1B.f k 1048576 r0.2) fun r1=>bnd (z23.f k r1.2) fun r2=>bnd (z0c.f k r2.2) fun r3=>br (bnot (ieq r3.1 0)) (some ((((zarr 16 0),[]),([],((zarr 16 0),[]))),r3.2)) (some ((r0.1,(r1.1,r2.1)),r3.2)):=by kernel_rfl
def z1v.e (k:Nat):Entry:=Sg.entry z1v.sg fun x=>z1v.f k x
theorem z1v.ok (k:Nat):CallOK Tryz.prog 88 (z1v.e k):=fn_ok (c:=z1v.cx k) (code:=z1v.body) (TT.of tt_ok pp_ok mm_ok) (fns_ok ⟨(z23.ok k),(z1B.ok k),(z0c.ok k),trivial⟩) mixed Tryz.func88 (by kernel_rfl) (by kernel_rfl) (by kernel_rfl) (by kernel_rfl) (by kernel_rfl) (by kernel_rfl) (fun x=>by kernel_rfl)
def z0o.body:Go.Code:=Tryz.f82.body.getD .skip
def z0o.rs:List Go.ResultVar:=Tryz.f82.results.toList
def z0o.regs:List (Nat × RInfo):=[(0,ri [0] []),(1,ri [2] [])]
def z0o.cx (k:Nat):Cx:=⟨tt,pp,[],z0o.regs,k,mm⟩
@[reducible] def z0o.sg:Sg:=⟨[.dat (.int .i64)],[],.dat .bool,[]⟩
def z0o.f (k:Nat) (a0:Ty.D (.int .i64)):Option (Sg.Out z0o.sg):=Sg.fn z0o.sg (z0o.cx k) z0o.body z0o.rs a0
theorem z0o.f_eq (k:Nat) (a0:Ty.D (.int .i64)):z0o.f k a0=br (ile 0 a0) (some (ilt a0 16)) (some false):=by kernel_rfl
def z0o.e (k:Nat):Entry:=Sg.entry z0o.sg fun x=>z0o.f k x
theorem z0o.ok (k:Nat):CallOK Tryz.prog 82 (z0o.e k):=fn_ok (c:=z0o.cx k) (code:=z0o.body) (TT.of tt_ok pp_ok mm_ok) (fns_ok trivial) mixed Tryz.func82 (by kernel_rfl) (by kernel_rfl) (by kernel_rfl) (by kernel_rfl) (by kernel_rfl) (by kernel_rfl) (fun x=>by kernel_rfl)
def z0N.body:Go.Code:=Tryz.f83.body.getD .skip
def z0N.rs:List Go.ResultVar:=Tryz.f83.results.toList
def z0N.regs:List (Nat × RInfo):=[(0,⟨[1],[1],[0],[],0,[],[],[],[],[]⟩),(1,ri [2] [5,9,14])]
def z0N.cx (k:Nat):Cx:=⟨tt,pp,[(133,(z1g.e k)),(52,(z15.e k))],z0N.regs,k,mm⟩
@[reducible] def z0N.sg:Sg:=⟨[.dat tKnow],[],.dat .bool,[]⟩
def z0N.f (k:Nat) (a0:Ty.D tKnow):Option (Sg.Out z0N.sg):=Sg.fn z0N.sg (z0N.cx k) z0N.body z0N.rs a0
theorem z0N.f_eq (k:Nat) (a0:Ty.D tKnow):z0N.f k a0=bnd (z1g.f k a0.1) fun r0=>br r0 (bnd (z15.f k a0.2.1) fun r1=>br r1 (bnd (z1g.f k a0.2.2) fun r2=>some r2) (some false)) (some false):=by kernel_rfl
def z0N.e (k:Nat):Entry:=Sg.entry z0N.sg fun x=>z0N.f k x
theorem z0N.ok (k:Nat):CallOK Tryz.prog 83 (z0N.e k):=fn_ok (c:=z0N.cx k) (code:=z0N.body) (TT.of tt_ok pp_ok mm_ok) (fns_ok ⟨(z1g.ok k),(z15.ok k),trivial⟩) mixed Tryz.func83 (by kernel_rfl) (by kernel_rfl) (by kernel_rfl) (by kernel_rfl) (by kernel_rfl) (by kernel_rfl) (fun x=>by kernel_rfl)
def z0v.body:Go.Code:=Tryz.f23.body.getD .skip
def z0v.rs:List Go.ResultVar:=Tryz.f23.results.toList
def z0v.regs:List (Nat × RInfo):=[(0,⟨[1],[1],[0],[],0,[],[],[],[],[]⟩),(1,ri [1,19] [1]),(2,ri [2] [27,32]),(3,ri [1,21] [1]),(4,ri [1,21,22] [1]),(5,ri [2] [27,32]),(6,ri [1,28] [1]),(7,ri [2] [27,32]),(8,ri [2] [27,32])]
def z0v.cx (k:Nat):Cx:=⟨tt,pp,[(82,(z0o.e k)),(13,(z0C.e k)),(83,(z0N.e k))],z0v.regs,k,mm⟩
@[reducible] def z0v.sg:Sg:=⟨[.dat tMessage],[],.dat .bool,[]⟩
def z0v.f (k:Nat) (a0:Ty.D tMessage):Option (Sg.Out z0v.sg):=Sg.fn z0v.sg (z0v.cx k) z0v.body z0v.rs a0
theorem z0v.f_eq (k:Nat) (a0:Ty.D tMessage):z0v.f k a0=bnd (z0o.f k a0.2.1) fun r0=>br (bnot r0) (some false) (bnd (z0o.f k a0.2.2.1) fun r1=>br (bnot r1) (some false) (br (ieq a0.2.1 a0.2.2.1) (some false) (br (ieq a0.1 1) (bnd (z0C.f k (3,(((0,0),(0,(0,(false,[])))),(0,(((0,0),0),(0,(a0.2.2.2.1,([],([],(((zarr 16 0),[]),(((zarr 16 0),[]),(zarr 8 [])))))))))))) fun r2=>some r2) (br (ieq a0.1 2) (bnd (z0N.f k a0.2.2.2.2) fun r3=>some r3) (some false))))):=by kernel_rfl
def z0v.e (k:Nat):Entry:=Sg.entry z0v.sg fun x=>z0v.f k x
theorem z0v.ok (k:Nat):CallOK Tryz.prog 23 (z0v.e k):=fn_ok (c:=z0v.cx k) (code:=z0v.body) (TT.of tt_ok pp_ok mm_ok) (fns_ok ⟨(z0o.ok k),(z0C.ok k),(z0N.ok k),trivial⟩) mixed Tryz.func23 (by kernel_rfl) (by kernel_rfl) (by kernel_rfl) (by kernel_rfl) (by kernel_rfl) (by kernel_rfl) (fun x=>by kernel_rfl)
def z0w.body:Go.Code:=Tryz.f25.body.getD .skip
def z0w.rs:List Go.ResultVar:=Tryz.f25.results.toList
def z0w.regs:List (Nat × RInfo):=[(0,ri [0,2] [2]),(1,ri [2,4,5,6] [2,13]),(2,ri [2,4,5,6,17] [2,13]),(3,⟨[2,3],[2,13,52],[2],[],0,[],[],[],[],[]⟩),(4,ri [2,4,22] [2,13]),(5,⟨[2,3],[2,13,52],[1],[],0,[],[],[],[],[]⟩),(6,ri [2,7] [2,27]),(7,ri [2,7,8] [2,27]),(8,⟨[2,7,9],[2,9,27],[8],[],0,[],[],[],[],[]⟩),(9,ri [2,7,9,38] [2,9,27]),(11,ri [2,7,9,38,41] [2,9,27]),(12,⟨[2,7,9],[2,9,27],[3],[],0,[],[],[],[],[]⟩),(13,ri [2,7,9,46] [2,9,27]),(14,⟨[2,7,9],[2,9,27],[3],[],0,[],[],[],[],[]⟩),(10,ri [2,7,9] [2,9,27]),(15,ri [2,9,10] [2,9,52]),(16,ri [2,9,10,54] [2,9,52]),(17,⟨[2,3],[2,13,52],[2],[],0,[],[],[],[],[]⟩),(18,ri [2,9,59] [2,9]),(19,⟨[2,3],[2,13,52],[1],[],0,[],[],[],[],[]⟩),(20,⟨[2,3],[2,13,52],[1],[],0,[],[],[],[],[]⟩)]
def z0w.cx (k:Nat):Cx:=⟨tt,pp,[(86,(z1V.e k)),(30,(z1N.e k)),(87,(z0m.e k)),(32,(z0i.e k)),(88,(z1v.e k)),(89,(z0g.e k)),(41,(z0l.e k)),(23,(z0v.e k))],z0w.regs,k,mm⟩
@[reducible] def z0w.sg:Sg:=⟨[.dat .str],[],.t2 (.dat tMessage) (.dat (.int .i64)),[]⟩
def z0w.f (k:Nat) (a0:Ty.D .str):Option (Sg.Out z0w.sg):=Sg.fn z0w.sg (z0w.cx k) z0w.body z0w.rs a0
theorem z0w.f_eq (k:Nat) (a0:Ty.D .str):z0w.f k a0=bnd (z1V.f k a0) fun r0=>br (bnot (ieq r0.2.2 0)) (some ((0,(0,(0,(([],([],[])),(((zarr 16 0),[]),([],((zarr 16 0),[]))))))),r0.2.2)) (br (bnot (seq r0.2.1 [])) (some ((0,(0,(0,(([],([],[])),(((zarr 16 0),[]),([],((zarr 16 0),[]))))))),3)) (bnd (z1N.f k r0.1) fun r1=>bnd (z0m.f k r1.2) fun r2=>bnd (z0m.f k r2.2) fun r3=>bnd (z0m.f k r3.2) fun r4=>br (ieq r2.1 1) (bnd (z0i.f k r4.2) fun r5=>bnd (z0l.f k r5.2) fun r6=>br (bnot (ieq r6.1 0)) (some ((0,(0,(0,(([],([],[])),(((zarr 16 0),[]),([],((zarr 16 0),[]))))))),r6.1)) (bnd (z0v.f k (r2.1,(r3.1,(r4.1,(r5.1,(((zarr 16 0),[]),([],((zarr 16 0),[])))))))) fun r7=>br (bnot r7) (some ((0,(0,(0,(([],([],[])),(((zarr 16 0),[]),([],((zarr 16 0),[]))))))),2)) (some ((r2.1,(r3.1,(r4.1,(r5.1,(((zarr 16 0),[]),([],((zarr 16 0),[]))))))),0)))) (br (ieq r2.1 2) (bnd (z1v.f k r4.2) fun r8=>bnd (z0l.f k r8.2) fun r9=>br (bnot (ieq r9.1 0)) (some ((0,(0,(0,(([],([],[])),(((zarr 16 0),[]),([],((zarr 16 0),[]))))))),r9.1)) (bnd (z0v.f k (r2.1,(r3.1,(r4.1,(([],([],[])),r8.1))))) fun r10=>br (bnot r10) (some ((0,(0,(0,(([],([],[])),(((zarr 16 0),[]),([],((zarr 16 0),[]))))))),2)) (some ((r2.1,(r3.1,(r4.1,(([],([],[])),r8.1)))),0)))) (bnd (z0g.f k 18 r4.2) fun r11=>bnd (z0l.f k r11.2) fun r12=>br (bnot (ieq r12.1 0)) (some ((0,(0,(0,(([],([],[])),(((zarr 16 0),[]),([],((zarr 16 0),[]))))))),r12.1)) (bnd (z0v.f k (r2.1,(r3.1,(r4.1,(([],([],[])),(((zarr 16 0),[]),([],((zarr 16 0),[])))))))) fun r13=>br (bnot r13) (some ((0,(0,(0,(([],([],[])),(((zarr 16 0),[]),([],((zarr 16 0),[]))))))),2)) (some ((r2.1,(r3.1,(r4.1,(([],([],[])),(((zarr 16 0),[]),([],((zarr 16 0),[]))))))),0))))))):=by kernel_rfl
def z0w.e (k:Nat):Entry:=Sg.entry z0w.sg fun x=>z0w.f k x
theorem z0w.ok (k:Nat):CallOK Tryz.prog 25 (z0w.e k):=fn_ok (c:=z0w.cx k) (code:=z0w.body) (TT.of tt_ok pp_ok mm_ok) (fns_ok ⟨(z1V.ok k),(z1N.ok k),(z0m.ok k),(z0i.ok k),(z1v.ok k),(z0g.ok k),(z0l.ok k),(z0v.ok k),trivial⟩) mixed Tryz.func25 (by kernel_rfl) (by kernel_rfl) (by kernel_rfl) (by kernel_rfl) (by kernel_rfl) (by kernel_rfl) (fun x=>by kernel_rfl)
def z1M.body:Go.Code:=Tryz.f205.body.getD .skip
def z1M.rs:List Go.ResultVar:=Tryz.f205.results.toList
def z1M.regs:List (Nat × RInfo):=[(0,ri [0,1] []),(1,ri [1,5] []),(2,ri [1,5,6] []),(3,⟨[1,5,6,14],[],[],[],0,[1,5,6],[],[],[],[]⟩),(5,ri [1,5,6] []),(6,ri [1,5,6,7] []),(7,⟨[1,5,6,7,24],[],[],[],0,[1,5,6,7],[],[],[],[]⟩),(9,ri [1,5,6,7,8] []),(10,ri [1,5,6,7,8] []),(11,ri [1,5,6,7,32] []),(12,ri [1,5,6,7] []),(8,ri [1,5,6,7] []),(4,ri [1,5,6] []),(13,ri [4] [])]
def z1M.cx (k:Nat):Cx:=⟨tt,pp,[],z1M.regs,k,mm⟩
@[reducible] def z1M.sg:Sg:=⟨[.dat (.int .u32),.dat .str],[],.dat (.int .u32),[]⟩
def z1M.f (k:Nat) (a0:Ty.D (.int .u32)) (a1:Ty.D .str):Option (Sg.Out z1M.sg):=Sg.fn z1M.sg (z1M.cx k) z1M.body z1M.rs (a0,a1)
def z1M.l3 (k:Nat) (n:Nat) (x1:Ty.D .str) (x5:Ty.D (.int .u32)) (x6:Ty.D (.int .i64)):Option (Sg.Out z1M.sg):=loopAt (z1M.cx k) z1M.body [1,1,0,1,0] 3 [1,5,6] [] [] (Sg.K z1M.sg (z1M.cx k) z1M.rs) n ⟨[(1,.dat .str x1),(5,.dat (.int .u32) x5),(6,.dat (.int .i64) x6)],[]⟩
def z1M.l7 (k:Nat) (n3:Nat) (n:Nat) (x1:Ty.D .str) (x5:Ty.D (.int .u32)) (x6:Ty.D (.int .i64)) (x7:Ty.D (.int .i64)):Option (Sg.Out z1M.sg):=loopAt (z1M.cx k) z1M.body [1,1,0,1,0,0,1,0,0,1,1,0] 7 [1,5,6,7] [] [n3] (Sg.K z1M.sg (z1M.cx k) z1M.rs) n ⟨[(1,.dat .str x1),(5,.dat (.int .u32) x5),(6,.dat (.int .i64) x6),(7,.dat (.int .i64) x7)],[]⟩
theorem z1M.f_eq (k:Nat) (a0:Ty.D (.int .u32)) (a1:Ty.D .str):z1M.f k a0 a1=z1M.l3 k k a1 (ixor .u32 a0 4294967295) 0:=by kernel_rfl
theorem z1M.l3_eq (k:Nat) (n3:Nat) (x1:Ty.D .str) (x5:Ty.D (.int .u32)) (x6:Ty.D (.int .i64)):z1M.l3 k (n3+1) x1 x5 x6=br (ilt x6 (ilen x1)) (br (inL x6 x1) (z1M.l7 k n3 k x1 (ixor .u32 x5 (iwrap .u32 (byteAt x1 x6))) x6 0) none) (some (ixor .u32 x5 4294967295)):=by kernel_rfl
theorem z1M.l7_eq (k:Nat) (n3:Nat) (n7:Nat) (x1:Ty.D .str) (x5:Ty.D (.int .u32)) (x6:Ty.D (.int .i64)) (x7:Ty.D (.int .i64)):z1M.l7 k n3 (n7+1) x1 x5 x6 x7=br (ilt x7 8) (br (ieq (irem x5 2) 1) (z1M.l7 k n3 n7 x1 (ixor .u32 (iquo .u32 x5 2) 3988292384) x6 (iadd .i64 x7 1)) (z1M.l7 k n3 n7 x1 (iquo .u32 x5 2) x6 (iadd .i64 x7 1))) (z1M.l3 k n3 x1 x5 (iadd .i64 x6 1)):=by kernel_rfl
def z1M.e (k:Nat):Entry:=Sg.entry z1M.sg fun x=>z1M.f k x.1 x.2
theorem z1M.ok (k:Nat):CallOK Tryz.prog 205 (z1M.e k):=fn_ok (c:=z1M.cx k) (code:=z1M.body) (TT.of tt_ok pp_ok mm_ok) (fns_ok trivial) mixed Tryz.func205 (by kernel_rfl) (by kernel_rfl) (by kernel_rfl) (by kernel_rfl) (by kernel_rfl) (by kernel_rfl) (fun x=>by kernel_rfl)
def z2p.body:Go.Code:=Tryz.f156.body.getD .skip
def z2p.rs:List Go.ResultVar:=Tryz.f156.results.toList
def z2p.regs:List (Nat × RInfo):=[(0,ri [0] []),(1,ri [2] [4])]
def z2p.cx (k:Nat):Cx:=⟨tt,pp,[(205,(z1M.e k))],z2p.regs,k,mm⟩
@[reducible] def z2p.sg:Sg:=⟨[.dat .str],[],.dat (.int .u32),[]⟩
def z2p.f (k:Nat) (a0:Ty.D .str):Option (Sg.Out z2p.sg):=Sg.fn z2p.sg (z2p.cx k) z2p.body z2p.rs a0
theorem z2p.f_eq (k:Nat) (a0:Ty.D .str):z2p.f k a0=bnd (z1M.f k 0 a0) fun r0=>some r0:=by kernel_rfl
def z2p.e (k:Nat):Entry:=Sg.entry z2p.sg fun x=>z2p.f k x
theorem z2p.ok (k:Nat):CallOK Tryz.prog 156 (z2p.e k):=fn_ok (c:=z2p.cx k) (code:=z2p.body) (TT.of tt_ok pp_ok mm_ok) (fns_ok ⟨(z1M.ok k),trivial⟩) mixed Tryz.func156 (by kernel_rfl) (by kernel_rfl) (by kernel_rfl) (by kernel_rfl) (by kernel_rfl) (by kernel_rfl) (fun x=>by kernel_rfl)
def z2d.body:Go.Code:=Tryz.f80.body.getD .skip
def z2d.rs:List Go.ResultVar:=Tryz.f80.results.toList
def z2d.regs:List (Nat × RInfo):=[(0,ri [0] []),(1,ri [3] [5]),(2,ri [2] [])]
def z2d.cx (k:Nat):Cx:=⟨tt,pp,[(154,(z1L.e k)),(156,(z2p.e k)),(155,sumBE)],z2d.regs,k,mm⟩
@[reducible] def z2d.sg:Sg:=⟨[.dat .str],[],.dat .str,[]⟩
def z2d.f (k:Nat) (a0:Ty.D .str):Option (Sg.Out z2d.sg):=Sg.fn z2d.sg (z2d.cx k) z2d.body z2d.rs a0
theorem z2d.f_eq (k:Nat) (a0:Ty.D .str):z2d.f k a0=bnd (z1L.f k a0) fun r0=>bnd (z2p.f k r0) fun r1=>bnd (YtggcagclpkhlhaaGreatDoor.sumBI r1) fun r2=>br (roomS r0 r2) (some (app r0 r2)) none:=by kernel_rfl
def z2d.e (k:Nat):Entry:=Sg.entry z2d.sg fun x=>z2d.f k x
theorem z2d.ok (k:Nat):CallOK Tryz.prog 80 (z2d.e k):=fn_ok (c:=z2d.cx k) (code:=z2d.body) (TT.of tt_ok pp_ok mm_ok) (fns_ok ⟨(z1L.ok k),(z2p.ok k),rsumBytes_ok,trivial⟩) mixed Tryz.func80 (by kernel_rfl) (by kernel_rfl) (by kernel_rfl) (by kernel_rfl) (by kernel_rfl) (by kernel_rfl) (fun x=>by kernel_rfl)
def z0T.body:Go.Code:=Tryz.f21.body.getD .skip
def z0T.rs:List Go.ResultVar:=Tryz.f21.results.toList
def z0T.regs:List (Nat × RInfo):=[(0,ri [] []),(1,⟨[1],[1],[2],[],0,[],[],[],[],[]⟩),(2,ri [1,2] [1,7]),(3,⟨[1,2,4],[1,7,10],[6],[],0,[],[],[],[],[]⟩),(4,ri [0] [22])]
def z0T.cx (k:Nat):Cx:=⟨tt,pp,[(24,(z0B.e k)),(25,(z0w.e k)),(80,(z2d.e k)),(23,(z0v.e k))],z0T.regs,k,mm⟩
@[reducible] def z0T.sg:Sg:=⟨[],[],.dat .bool,[]⟩
def z0T.f (k:Nat):Option (Sg.Out z0T.sg):=Sg.fn z0T.sg (z0T.cx k) z0T.body z0T.rs ()
theorem z0T.f_eq (k:Nat):z0T.f k=bnd (z0B.f k (1,(0,(1,(([],([],[])),(((zarr 16 0),[]),([],((zarr 16 0),[])))))))) fun r0=>bnd (z0w.f k r0) fun r1=>bnd (z2d.f k (1::(0::(1::(0::(0::(0::[]))))))) fun r2=>br (seq r0 r2) (br (ieq r1.2 0) (bnd (z0v.f k (1,(0,(1,(([],([],[])),(((zarr 16 0),[]),([],((zarr 16 0),[])))))))) fun r3=>some r3) (some false)) (some false):=by kernel_rfl
def z0T.e (k:Nat):Entry:=Sg.entry z0T.sg fun x=>z0T.f k
theorem z0T.ok (k:Nat):CallOK Tryz.prog 21 (z0T.e k):=fn_ok (c:=z0T.cx k) (code:=z0T.body) (TT.of tt_ok pp_ok mm_ok) (fns_ok ⟨(z0B.ok k),(z0w.ok k),(z2d.ok k),(z0v.ok k),trivial⟩) mixed Tryz.func21 (by kernel_rfl) (by kernel_rfl) (by kernel_rfl) (by kernel_rfl) (by kernel_rfl) (by kernel_rfl) (fun x=>by kernel_rfl)
def z0J.body:Go.Code:=Tryz.f81.body.getD .skip
def z0J.rs:List Go.ResultVar:=Tryz.f81.results.toList
def z0J.regs:List (Nat × RInfo):=[(0,⟨[1],[1],[0],[],0,[],[],[],[],[]⟩),(1,ri [2] [5,9,14])]
def z0J.cx (k:Nat):Cx:=⟨tt,pp,[(76,(z0Y.e k)),(49,(z16.e k))],z0J.regs,k,mm⟩
@[reducible] def z0J.sg:Sg:=⟨[.dat tKnow],[],.dat .bool,[]⟩
def z0J.f (k:Nat) (a0:Ty.D tKnow):Option (Sg.Out z0J.sg):=Sg.fn z0J.sg (z0J.cx k) z0J.body z0J.rs a0
theorem z0J.f_eq (k:Nat) (a0:Ty.D tKnow):z0J.f k a0=bnd (z0Y.f k a0.1) fun r0=>br r0 (bnd (z16.f k a0.2.1) fun r1=>br r1 (bnd (z0Y.f k a0.2.2) fun r2=>some r2) (some false)) (some false):=by kernel_rfl
def z0J.e (k:Nat):Entry:=Sg.entry z0J.sg fun x=>z0J.f k x
theorem z0J.ok (k:Nat):CallOK Tryz.prog 81 (z0J.e k):=fn_ok (c:=z0J.cx k) (code:=z0J.body) (TT.of tt_ok pp_ok mm_ok) (fns_ok ⟨(z0Y.ok k),(z16.ok k),trivial⟩) mixed Tryz.func81 (by kernel_rfl) (by kernel_rfl) (by kernel_rfl) (by kernel_rfl) (by kernel_rfl) (by kernel_rfl) (fun x=>by kernel_rfl)
def z14.body:Go.Code:=Tryz.f22.body.getD .skip
def z14.rs:List Go.ResultVar:=Tryz.f22.results.toList
def z14.regs:List (Nat × RInfo):=[(0,⟨[1],[1],[0],[],0,[],[],[],[],[]⟩),(1,ri [1,27] [1]),(2,ri [2] [33,40]),(3,ri [1,30] [1]),(4,ri [2] [33,40]),(5,ri [2] [33,40])]
def z14.cx (k:Nat):Cx:=⟨tt,pp,[(38,(z0d.e k)),(81,(z0J.e k))],z14.regs,k,mm⟩
@[reducible] def z14.sg:Sg:=⟨[.dat tMessage],[],.dat .bool,[]⟩
def z14.f (k:Nat) (a0:Ty.D tMessage):Option (Sg.Out z14.sg):=Sg.fn z14.sg (z14.cx k) z14.body z14.rs a0
theorem z14.f_eq (k:Nat) (a0:Ty.D tMessage):z14.f k a0=br (ilt a0.2.1 0) (some false) (br (ilt 15 a0.2.1) (some false) (br (ilt a0.2.2.1 0) (some false) (br (ilt 15 a0.2.2.1) (some false) (br (ieq a0.2.1 a0.2.2.1) (some false) (br (ieq a0.1 1) (bnd (z0d.f k a0.2.2.2.1) fun r0=>some r0) (br (ieq a0.1 2) (bnd (z0J.f k a0.2.2.2.2) fun r1=>some r1) (some false))))))):=by kernel_rfl
def z14.e (k:Nat):Entry:=Sg.entry z14.sg fun x=>z14.f k x
theorem z14.ok (k:Nat):CallOK Tryz.prog 22 (z14.e k):=fn_ok (c:=z14.cx k) (code:=z14.body) (TT.of tt_ok pp_ok mm_ok) (fns_ok ⟨(z0d.ok k),(z0J.ok k),trivial⟩) mixed Tryz.func22 (by kernel_rfl) (by kernel_rfl) (by kernel_rfl) (by kernel_rfl) (by kernel_rfl) (by kernel_rfl) (fun x=>by kernel_rfl)
def z1d.body:Go.Code:=Tryz.f90.body.getD .skip
def z1d.rs:List Go.ResultVar:=Tryz.f90.results.toList
def z1d.regs:List (Nat × RInfo):=[(0,⟨[1],[1],[0],[],0,[],[],[],[],[]⟩),(1,rq [2] [] 11)]
def z1d.cx (k:Nat):Cx:=⟨tt,pp,[(147,(z1j.e k)),(103,(z1J.e k))],z1d.regs,k,mm⟩
@[reducible] def z1d.sg:Sg:=⟨[.dat tKnow],[],.dat .str,[]⟩
def z1d.f (k:Nat) (a0:Ty.D tKnow):Option (Sg.Out z1d.sg):=Sg.fn z1d.sg (z1d.cx k) z1d.body z1d.rs a0
theorem z1d.f_eq (k:Nat) (a0:Ty.D tKnow):z1d.f k a0=bnd (z1j.f k a0.1) fun r0=>bnd (z1J.f k a0.2.1) fun r1=>br (roomS r0 r1) (bnd (z1j.f k a0.2.2) fun r2=>br (roomS (app r0 r1) r2) (some (app (app r0 r1) r2)) none) none:=by kernel_rfl
def z1d.e (k:Nat):Entry:=Sg.entry z1d.sg fun x=>z1d.f k x
theorem z1d.ok (k:Nat):CallOK Tryz.prog 90 (z1d.e k):=fn_ok (c:=z1d.cx k) (code:=z1d.body) (TT.of tt_ok pp_ok mm_ok) (fns_ok ⟨(z1j.ok k),(z1J.ok k),trivial⟩) mixed Tryz.func90 (by kernel_rfl) (by kernel_rfl) (by kernel_rfl) (by kernel_rfl) (by kernel_rfl) (by kernel_rfl) (fun x=>by kernel_rfl)
def z1w.body:Go.Code:=Tryz.f26.body.getD .skip
def z1w.rs:List Go.ResultVar:=Tryz.f26.results.toList
def z1w.regs:List (Nat × RInfo):=[(0,⟨[1],[1],[0],[],0,[],[],[],[],[]⟩),(1,rq [1,3] [1] 11),(2,ri [1,3,17] [1]),(3,ri [2] [23,29]),(4,ri [2] [23,29])]
def z1w.cx (k:Nat):Cx:=⟨tt,pp,[(64,packIntE),(40,(z0I.e k)),(80,(z2d.e k)),(90,(z1d.e k))],z1w.regs,k,mm⟩
@[reducible] def z1w.sg:Sg:=⟨[.dat tMessage],[],.dat .str,[]⟩
def z1w.f (k:Nat) (a0:Ty.D tMessage):Option (Sg.Out z1w.sg):=Sg.fn z1w.sg (z1w.cx k) z1w.body z1w.rs a0
theorem z1w.f_eq (k:Nat) (a0:Ty.D tMessage):z1w.f k a0=bnd (packI a0.1) fun r0=>bnd (packI a0.2.1) fun r1=>br (roomS r0 r1) (bnd (packI a0.2.2.1) fun r2=>br (roomS (app r0 r1) r2) (br (ieq a0.1 1) (bnd (z0I.f k a0.2.2.2.1) fun r3=>br (roomS (app (app r0 r1) r2) r3) (bnd (z2d.f k (app (app (app r0 r1) r2) r3)) fun r4=>some r4) none) (bnd (z1d.f k a0.2.2.2.2) fun r5=>br (roomS (app (app r0 r1) r2) r5) (bnd (z2d.f k (app (app (app r0 r1) r2) r5)) fun r6=>some r6) none)) none) none:=by kernel_rfl
def z1w.e (k:Nat):Entry:=Sg.entry z1w.sg fun x=>z1w.f k x
theorem z1w.ok (k:Nat):CallOK Tryz.prog 26 (z1w.e k):=fn_ok (c:=z1w.cx k) (code:=z1w.body) (TT.of tt_ok pp_ok mm_ok) (fns_ok ⟨rpackint_ok,(z0I.ok k),(z2d.ok k),(z1d.ok k),trivial⟩) mixed Tryz.func26 (by kernel_rfl) (by kernel_rfl) (by kernel_rfl) (by kernel_rfl) (by kernel_rfl) (by kernel_rfl) (fun x=>by kernel_rfl)
def z1H.body:Go.Code:=Tryz.f91.body.getD .skip
def z1H.rs:List Go.ResultVar:=Tryz.f91.results.toList
def z1H.regs:List (Nat × RInfo):=[(0,⟨[2,3],[2,3],[0,1],[],0,[],[],[],[],[]⟩),(1,ri [4] [9,15,22])]
def z1H.cx (k:Nat):Cx:=⟨tt,pp,[(71,(z1a.e k)),(70,(z1e.e k))],z1H.regs,k,mm⟩
@[reducible] def z1H.sg:Sg:=⟨[.dat tKnow,.dat tKnow],[],.dat .bool,[]⟩
def z1H.f (k:Nat) (a0:Ty.D tKnow) (a1:Ty.D tKnow):Option (Sg.Out z1H.sg):=Sg.fn z1H.sg (z1H.cx k) z1H.body z1H.rs (a0,a1)
theorem z1H.f_eq (k:Nat) (a0:Ty.D tKnow) (a1:Ty.D tKnow):z1H.f k a0 a1=bnd (z1a.f k a0.1 a1.1) fun r0=>br r0 (bnd (z1e.f k a0.2.1 a1.2.1) fun r1=>br r1 (bnd (z1a.f k a0.2.2 a1.2.2) fun r2=>some r2) (some false)) (some false):=by kernel_rfl
def z1H.e (k:Nat):Entry:=Sg.entry z1H.sg fun x=>z1H.f k x.1 x.2
theorem z1H.ok (k:Nat):CallOK Tryz.prog 91 (z1H.e k):=fn_ok (c:=z1H.cx k) (code:=z1H.body) (TT.of tt_ok pp_ok mm_ok) (fns_ok ⟨(z1a.ok k),(z1e.ok k),trivial⟩) mixed Tryz.func91 (by kernel_rfl) (by kernel_rfl) (by kernel_rfl) (by kernel_rfl) (by kernel_rfl) (by kernel_rfl) (fun x=>by kernel_rfl)
def z19.body:Go.Code:=Tryz.f27.body.getD .skip
def z19.rs:List Go.ResultVar:=Tryz.f27.results.toList
def z19.regs:List (Nat × RInfo):=[(0,⟨[2,3],[2,3],[0,1],[],0,[],[],[],[],[]⟩),(1,ri [2,3,23] [2,3]),(2,ri [4] [31,36]),(3,ri [2,3,26] [2,3]),(4,ri [4] [31,36]),(5,ri [4] [31,36])]
def z19.cx (k:Nat):Cx:=⟨tt,pp,[(31,(z0n.e k)),(91,(z1H.e k))],z19.regs,k,mm⟩
@[reducible] def z19.sg:Sg:=⟨[.dat tMessage,.dat tMessage],[],.dat .bool,[]⟩
def z19.f (k:Nat) (a0:Ty.D tMessage) (a1:Ty.D tMessage):Option (Sg.Out z19.sg):=Sg.fn z19.sg (z19.cx k) z19.body z19.rs (a0,a1)
theorem z19.f_eq (k:Nat) (a0:Ty.D tMessage) (a1:Ty.D tMessage):z19.f k a0 a1=br (bnot (ieq a0.1 a1.1)) (some false) (br (bnot (ieq a0.2.1 a1.2.1)) (some false) (br (bnot (ieq a0.2.2.1 a1.2.2.1)) (some false) (br (ieq a0.1 1) (bnd (z0n.f k a0.2.2.2.1 a1.2.2.2.1) fun r0=>some r0) (bnd (z1H.f k a0.2.2.2.2 a1.2.2.2.2) fun r1=>some r1)))):=by kernel_rfl
def z19.e (k:Nat):Entry:=Sg.entry z19.sg fun x=>z19.f k x.1 x.2
theorem z19.ok (k:Nat):CallOK Tryz.prog 27 (z19.e k):=fn_ok (c:=z19.cx k) (code:=z19.body) (TT.of tt_ok pp_ok mm_ok) (fns_ok ⟨(z0n.ok k),(z1H.ok k),trivial⟩) mixed Tryz.func27 (by kernel_rfl) (by kernel_rfl) (by kernel_rfl) (by kernel_rfl) (by kernel_rfl) (by kernel_rfl) (fun x=>by kernel_rfl)
def z0b.body:Go.Code:=Tryz.f4.body.getD .skip
def z0b.rs:List Go.ResultVar:=Tryz.f4.results.toList
def z0b.regs:List (Nat × RInfo):=[(0,⟨[1],[1],[0],[],0,[],[],[],[],[]⟩),(1,ri [1,9] [1]),(2,ri [2] [10,19,38,41]),(3,ri [1,3] [1,12]),(4,ri [1,3,16] [1,12]),(5,ri [2] [10,19,38,41]),(6,ri [1,18] [1]),(7,ri [2] [10,19,38,41]),(8,ri [1,4] [1,21]),(9,⟨[1,4,5,6],[1,5,21,24],[6],[],0,[],[],[],[],[]⟩),(10,ri [2] [10,19,38,41])]
def z0b.cx (k:Nat):Cx:=⟨tt,pp,[(20,(z0Q.e k)),(21,(z0T.e k)),(22,(z14.e k)),(23,(z0v.e k)),(24,(z0B.e k)),(25,(z0w.e k)),(26,(z1w.e k)),(27,(z19.e k))],z0b.regs,k,mm⟩
@[reducible] def z0b.sg:Sg:=⟨[.dat tMessage],[],.dat .bool,[]⟩
def z0b.f (k:Nat) (a0:Ty.D tMessage):Option (Sg.Out z0b.sg):=Sg.fn z0b.sg (z0b.cx k) z0b.body z0b.rs a0
theorem z0b.f_eq (k:Nat) (a0:Ty.D tMessage):z0b.f k a0=bnd (z0Q.f k a0) fun r0=>br (bnot r0) (bnd (z0T.f k) fun r1=>some r1) (bnd (z14.f k a0) fun r2=>bnd (z0v.f k a0) fun r3=>br (bnot (deq .bool r3 r2)) (some false) (br (bnot r2) (bnd (z0T.f k) fun r4=>some r4) (bnd (z0B.f k a0) fun r5=>bnd (z0w.f k r5) fun r6=>bnd (z1w.f k a0) fun r7=>br (seq r5 r7) (br (ieq r6.2 0) (bnd (z19.f k r6.1 a0) fun r8=>br r8 (bnd (z0T.f k) fun r9=>some r9) (some false)) (some false)) (some false)))):=by kernel_rfl
def z0b.e (k:Nat):Entry:=Sg.entry z0b.sg fun x=>z0b.f k x
theorem z0b.ok (k:Nat):CallOK Tryz.prog 4 (z0b.e k):=fn_ok (c:=z0b.cx k) (code:=z0b.body) (TT.of tt_ok pp_ok mm_ok) (fns_ok ⟨(z0Q.ok k),(z0T.ok k),(z14.ok k),(z0v.ok k),(z0B.ok k),(z0w.ok k),(z1w.ok k),(z19.ok k),trivial⟩) mixed Tryz.func4 (by kernel_rfl) (by kernel_rfl) (by kernel_rfl) (by kernel_rfl) (by kernel_rfl) (by kernel_rfl) (fun x=>by kernel_rfl)
@[reducible] def law28_MessageFinds.sg:Sg:=⟨[.dat tMessage,.dat (.int .i64),.dat (.int .u8)],[],.dat .bool,[]⟩
end Go.Proofs.YtggcagclpkhlhaaGreatDoor
end
noncomputable section
/- Sets of dots: one way to stand. -/
namespace Go.Proofs.YtggcagclpkhlhaaGreatDoor
open Pal
abbrev Vec:=List Int
abbrev DSet:=Vec × List Dot
def vat (v:Vec) (r:Int):Int:=rd (.int .i64) v (natOf r)
theorem rightD_iff (d:Dot):rightD d=true ↔ 0≤d.1∧d.1<16∧1≤d.2∧d.2≤1048576:=by unfold rightD;rw [decide_eq_true_iff]
theorem vat_get {v:Vec} {i:Nat} (h:i<v.length):vat v (i:Int)=v[i]:=by unfold vat;rw [natOf_nat];exact rd_at' (e:=.int .i64) h
structure VOk (v:Vec):Prop where
 len:v.length=16
 lo:∀ r,0≤r→r<16→0≤vat v r
 hi:∀ r,0≤r→r<16→vat v r≤1048576
structure Can (s:DSet):Prop where
 vok:VOk s.1
 rt:∀ d ∈ s.2,rightD d=true
 gap:∀ d ∈ s.2,vat s.1 d.1+1<d.2
 srt:s.2.Pairwise (fun a b=>dotLt a b=true)
def put1 (s:DSet) (d:Dot):DSet :=
 if d.2≤vat s.1 d.1 then s else if d.2=vat s.1 d.1+1 then (upd s.1 (natOf d.1) d.2,s.2) else if s.2.getLast? = some d then s else (s.1,s.2++[d])
def mk (v:Vec) (l:List Dot):DSet:=l.foldl put1 (v,[])
end Go.Proofs.YtggcagclpkhlhaaGreatDoor
end
noncomputable section
/- What the functions of the layer of dots compute. -/
namespace Go.Proofs.YtggcagclpkhlhaaGreatDoor
open Pal
theorem iadd_s {a b:Int} (h1:-1000000000000≤a) (h2:a≤1000000000000) (h3:-1000000000000≤b) (h4:b≤1000000000000):iadd .i64 a b=a+b:=by
 have e1:((2:Int) ^ 63)=9223372036854775808:=by decide
 show IntKind.wrap .i64 (a+b)=_
 rw [wrap_i64 (by rw [e1];omega) (by rw [e1];omega)]
theorem isub_s {a b:Int} (h1:-1000000000000≤a) (h2:a≤1000000000000) (h3:-1000000000000≤b) (h4:b≤1000000000000):isub .i64 a b=a - b:=by
 have e1:((2:Int) ^ 63)=9223372036854775808:=by decide
 show IntKind.wrap .i64 (a - b)=_
 rw [wrap_i64 (by rw [e1];omega) (by rw [e1];omega)]
theorem inB16 {r:Int} (h0:0≤r) (h1:r<16):inB r 16=true:=by simp [inB,h0];omega
theorem room1 {α:Type} {xs:List α} {x:α} (h:xs.length<4000000):room xs (x::[])=true:=by simp [room];omega
theorem ile_dec (a b:Int):ile a b=decide (a≤b):=rfl
theorem ilt_dec (a b:Int):ilt a b=decide (a<b):=rfl
theorem deqD (a b:Dot):deq tDot a b=decide (a=b):=deq_dec (τ:=tDot) rfl a b
theorem rright_is (k:Nat) (d:Dot):z12.f k d=some (rightD d):=by
 rw [z12.f_eq]
 have:ile d.1 15=ilt d.1 16:=by unfold ile ilt;congr 1;exact propext ⟨fun h=>by omega,fun h=>by omega⟩
 rw [this]
 have:=right_is k d
 rw [z1U.f_eq] at this
 exact this
def memB (s:DSet) (d:Dot):Bool:=rightD d && (decide (d.2≤vat s.1 d.1) || decide (d ∈ s.2))
end Go.Proofs.YtggcagclpkhlhaaGreatDoor
end
noncomputable section
/- What the functions of the layer of dots compute, on. -/
namespace Go.Proofs.YtggcagclpkhlhaaGreatDoor
open Pal
theorem srt_get {l:List Dot} (hs:l.Pairwise (fun a b=>dotLt a b=true)) {i j:Nat} (hi:i<l.length) (hj:j<l.length) (h:i<j):dotLt l[i] l[j]=true:=List.pairwise_iff_getElem.1 hs i j hi hj h
theorem cmp_lt0 (a b:Dot):ilt (cmpD a b) 0=dotLt a b:=rfl
def insR (d:Dot):List Dot→List Dot
 | []=>[d]
 | y::r=>if dotLt d y then d::y::r else y::insR d r
def putD (s:DSet) (d:Dot):DSet:=if memB s d=true∨rightD d=false then s else mk s.1 (insR d s.2)
end Go.Proofs.YtggcagclpkhlhaaGreatDoor
end
noncomputable section
/- What the document's functions of the layer of dots compute. -/
namespace Go.Proofs.YtggcagclpkhlhaaGreatDoor
open Pal
theorem rcmp_is (k:Nat) (a b:Dot):z0t.f k a b=some (cmpD a b):=by
 rw [z0t.f_eq,z1m.f_eq,z1m.f_eq,ieq_dec,bnot_dec]
 have hI:∀ x y:Int,br (ilt x y) (some (-1)) (br (ilt y x) (some 1) (some 0))=some (cmpI x y):=fun x y=>by
  unfold cmpI
  by_cases h1:x<y
  ·simp [ilt,h1,br_true]
  ·by_cases h2:y<x <;> simp [ilt,h1,h2,br_true,br_false]
 have hI':∀ x y:Int,bnd (br (ilt x y) (some (-1)) (br (ilt y x) (some 1) (some 0))) (fun r=>some r)=some (cmpI x y):=fun x y=>by rw [hI];rfl
 rw [hI',hI']
 unfold cmpD
 by_cases h:a.1=b.1
 ·rw [if_pos ((cmpI_eq _ _).2 h)];simp [h,br_false]
 ·rw [if_neg (fun e=>h ((cmpI_eq _ _).1 e))];simp [h,br_true]
end Go.Proofs.YtggcagclpkhlhaaGreatDoor
end
noncomputable section
/- The same, and right, among sets of dots. -/
namespace Go.Proofs.YtggcagclpkhlhaaGreatDoor
open Pal
theorem reqD_l (k:Nat) (xs ys:List Dot) (hl:xs.length=ys.length) (hb:xs.length<1000000):∀ (n i:Nat),i≤xs.length→xs.length<n+i →
  z1t.l4 k n xs ys (i:Int)=some (zall (fun x y=>decide (x=y)) (xs.drop i) (ys.drop i))
 | 0,i,h,h'=>by omega
 | n+1,i,h,h'=>by
  rw [z1t.l4_eq,ilt_nat,inL_nat,inL_nat,natOf_nat]
  by_cases hi:i<xs.length
  ·have hi':i<ys.length:=by omega
   rw [zall_step hi hi',rd_at' (e:=tDot) hi,rd_at' (e:=tDot) hi',deqD,bnot_dec,iadd_nat (by omega)]
   simp only [hi,hi',decide_true,br_true]
   by_cases he:xs[i]=ys[i]
   ·simp only [he,not_true,decide_true,decide_false,br_false,Bool.true_and]
    exact reqD_l k xs ys hl hb n (i+1) (by omega) (by omega)
   ·simp only [he,not_false_eq_true,decide_false,decide_true,br_true,Bool.false_and]
  ·rw [zall_end (by omega)]
   simp only [hi,decide_false,br_false]
theorem reqD (k:Nat) (xs ys:List Dot) (hb:xs.length<k) (hk:k<1000000):z1t.f k xs ys=some (decide (xs=ys)):=by
 rw [z1t.f_eq,ieq_len,bnot_dec]
 by_cases hl:xs.length=ys.length
 ·simp only [hl,not_true,decide_false,br_false]
  have:=reqD_l k xs ys hl (by omega) k 0 (by omega) (by omega)
  simp only [List.drop_zero,zall_eq xs ys hl] at this
  exact this
 ·have:xs ≠ ys:=fun e=>hl (by rw [e])
  simp only [hl,this,not_false_eq_true,decide_true,decide_false,br_true]
theorem deqV (a b:Vec):deq tVec a b=decide (a=b):=by
 have h:=deq_iff tVec rfl a b
 by_cases he:a=b
 ·rw [decide_eq_true he];exact h.2 he
 ·rw [decide_eq_false he,← Bool.not_eq_true,h];exact he
theorem rsame_is (k:Nat) (s t:DSet) (hb:s.2.length<k) (hk:k<1000000):z1a.f k s t=some (decide (s=t)):=by
 rw [z1a.f_eq,deqV,reqD k _ _ hb hk]
 obtain ⟨a,b⟩:=s
 obtain ⟨c,d⟩:=t
 by_cases h1:a=c <;> by_cases h2:b=d <;> simp [h1,h2,br_true,br_false,bnd]
def vin (v:Vec) (r:Int):Prop:=0≤vat v r∧vat v r≤1048576
theorem rvr_l (k:Nat) (v:Vec):∀ (n i:Nat),i≤16→16<n+i→∃ b,z0R.l2 k n (i:Int) v=some b∧(b=true ↔ ∀ r:Nat,i≤r→r<16→vin v r)
 | 0,i,h,h'=>by omega
 | n+1,i,h,h'=>by
  rw [z0R.l2_eq,natOf_nat]
  have e1:ilt (i:Int) 16=decide (i<16):=ilt_nn i 16
  rw [e1,inB_nat]
  by_cases hi:i<16
  ·have hv:rd (.int .i64) v i=vat v (i:Int):=rfl
   rw [hv,iadd_nat (by omega),ilt_dec,ilt_dec]
   simp only [hi,decide_true,br_true]
   by_cases h1:vat v (i:Int)<0
   ·simp only [h1,decide_true,br_true]
    exact ⟨false,rfl,⟨fun h=>(by cases h),fun h=>by have:=(h i (Nat.le_refl _) hi).1;omega⟩⟩
   ·simp only [h1,decide_false,br_false]
    by_cases h2:1048576<vat v (i:Int)
    ·simp only [h2,decide_true,br_true]
     exact ⟨false,rfl,⟨fun h=>(by cases h),fun h=>by have:=(h i (Nat.le_refl _) hi).2;omega⟩⟩
    ·simp only [h2,decide_false,br_false]
     obtain ⟨b,hb,hbi⟩:=rvr_l k v n (i+1) (by omega) (by omega)
     refine ⟨b,hb,hbi.trans ⟨fun h r hr hr2=>?_,fun h r hr hr2=>h r (by omega) hr2⟩⟩
     by_cases he:r=i
     ·subst he;exact ⟨by omega,by omega⟩
     ·exact h r (by omega) hr2
  ·simp only [hi,decide_false,br_false]
   exact ⟨true,rfl,⟨fun _ r hr hr2=>by omega,fun _=>rfl⟩⟩
theorem vok_iff {v:Vec} (hl:v.length=16):VOk v ↔ ∀ r:Nat,0≤r→r<16→vin v r:=by
 constructor
 ·intro h r _ hr;exact ⟨h.lo r (by omega) (by omega),h.hi r (by omega) (by omega)⟩
 ·intro h
  refine ⟨hl,fun r h0 h1=>?_,fun r h0 h1=>?_⟩
  ·obtain ⟨a,rfl⟩:=Int.eq_ofNat_of_zero_le h0;exact (h a (by omega) (by omega)).1
  ·obtain ⟨a,rfl⟩:=Int.eq_ofNat_of_zero_le h0;exact (h a (by omega) (by omega)).2
theorem rvr_is (k:Nat) (v:Vec) (hl:v.length=16) (hk:17<k):∃ b,z0R.f k v=some b∧(b=true ↔ VOk v):=by
 rw [z0R.f_eq,vok_iff hl]
 exact rvr_l k v k 0 (by omega) (by omega)
theorem vr_l (k:Nat) (v:Vec):∀ (n i:Nat),i≤16→16<n+i→∃ b,z24.l2 k n v (i:Int)=some b∧(b=true ↔ ∀ r:Nat,i≤r→r<16→vin v r)
 | 0,i,h,h'=>by omega
 | n+1,i,h,h'=>by
  rw [z24.l2_eq,natOf_nat]
  have e1:ilt (i:Int) 16=decide (i<16):=ilt_nn i 16
  rw [e1,inB_nat]
  by_cases hi:i<16
  ·have hv:rd (.int .i64) v i=vat v (i:Int):=rfl
   rw [hv,iadd_nat (by omega),ilt_dec,ilt_dec]
   simp only [hi,decide_true,br_true]
   by_cases h1:vat v (i:Int)<0
   ·simp only [h1,decide_true,br_true]
    exact ⟨false,rfl,⟨fun h=>(by cases h),fun h=>by have:=(h i (Nat.le_refl _) hi).1;omega⟩⟩
   ·simp only [h1,decide_false,br_false]
    by_cases h2:1048576<vat v (i:Int)
    ·simp only [h2,decide_true,br_true]
     exact ⟨false,rfl,⟨fun h=>(by cases h),fun h=>by have:=(h i (Nat.le_refl _) hi).2;omega⟩⟩
    ·simp only [h2,decide_false,br_false]
     obtain ⟨b,hb,hbi⟩:=vr_l k v n (i+1) (by omega) (by omega)
     refine ⟨b,hb,hbi.trans ⟨fun h r hr hr2=>?_,fun h r hr hr2=>h r (by omega) hr2⟩⟩
     by_cases he:r=i
     ·subst he;exact ⟨by omega,by omega⟩
     ·exact h r (by omega) hr2
  ·simp only [hi,decide_false,br_false]
   exact ⟨true,rfl,⟨fun _ r hr hr2=>by omega,fun _=>rfl⟩⟩
theorem vr_is (k:Nat) (v:Vec) (hl:v.length=16) (hk:17<k):∃ b,z24.f k v=some b∧(b=true ↔ VOk v):=by
 rw [z24.f_eq,vok_iff hl]
 exact vr_l k v k 0 (by omega) (by omega)
def okAt (s:DSet) (j:Nat) (h:j<s.2.length):Prop:=rightD s.2[j]=true∧vat s.1 s.2[j].1+1<s.2[j].2∧(∀ h0:0<j,dotLt (s.2[j - 1]'(by omega)) s.2[j]=true)
theorem can_iff {s:DSet} (hv:VOk s.1):Can s ↔ ∀ j (h:j<s.2.length),0≤j→okAt s j h:=by
 constructor
 ·intro hs j h _
  exact ⟨hs.rt _ (List.getElem_mem h),hs.gap _ (List.getElem_mem h),fun h0=>srt_get hs.srt (by omega) h (by omega)⟩
 ·intro h
  refine ⟨hv,fun d hd=>?_,fun d hd=>?_,?_⟩
  ·obtain ⟨j,hj,rfl⟩:=List.getElem_of_mem hd;exact (h j hj (Nat.zero_le _)).1
  ·obtain ⟨j,hj,rfl⟩:=List.getElem_of_mem hd;exact (h j hj (Nat.zero_le _)).2.1
  ·have key:∀ t i (hi:i<s.2.length) (hj:i+1+t<s.2.length),dotLt s.2[i] s.2[i+1+t]=true:=by
    intro t
    induction t with
    | zero=>intro i hi hj;exact (h (i+1) hj (Nat.zero_le _)).2.2 (by omega)
    | succ t ih =>
     intro i hi hj
     have h1:=ih i hi (by omega)
     have h2:=(h (i+1+(t+1)) hj (Nat.zero_le _)).2.2 (by omega)
     exact dotLt_swo.trans _ _ _ h1 h2
   rw [List.pairwise_iff_getElem]
   intro i j hi hj hij
   have:=key (j - i - 1) i hi (by omega)
   have e:i+1+(j - i - 1)=j:=by omega
   simp only [e] at this;exact this
theorem cmp_m1 (a b:Dot):bnot (ieq (cmpD a b) (-1))=!dotLt a b:=by
 have h1:∀ x y:Int,cmpI x y=-1∨cmpI x y=0∨cmpI x y=1:=fun x y=>by unfold cmpI;split <;> (try split) <;> simp
 have h:cmpD a b=-1∨cmpD a b=0∨cmpD a b=1:=by unfold cmpD;split <;> exact h1 _ _
 show bnot (ieq (cmpD a b) (-1))=!decide (cmpD a b<0)
 rcases h with h | h | h <;> rw [h] <;> rfl
theorem rr_l (k:Nat) (s:DSet) (hl:s.2.length<1000000) (hv:VOk s.1):∀ (n i:Nat),i≤s.2.length→s.2.length<n+i→∃ b,z0Y.l4 k n (i:Int) s=some b∧(b=true ↔ ∀ j (h:j<s.2.length),i≤j→okAt s j h)
 | 0,i,h,h'=>by omega
 | n+1,i,h,h'=>by
  rw [z0Y.l4_eq,ilt_nat,inL_nat,natOf_nat]
  by_cases hi:i<s.2.length
  ·rw [rd_at' (e:=tDot) hi,rright_is,iadd_nat (by omega)]
   simp only [hi,decide_true,br_true,bnd_some]
   cases hr:rightD s.2[i] with
   | false =>
    have e:bnot false=true:=rfl
    rw [e]
    exact ⟨false,rfl,⟨fun h=>(by cases h),fun h=>by rw [(h i hi (Nat.le_refl _)).1] at hr;cases hr⟩⟩
   | true =>
    have e:bnot true=false:=rfl
    obtain ⟨r0,r1,r2,r3⟩:=(rightD_iff s.2[i]).1 hr
    have hvv:rd (.int .i64) s.1 (natOf s.2[i].1)=vat s.1 s.2[i].1:=rfl
    rw [e,inB16 r0 r1,hvv,isub_s (by omega) (by omega) (by omega) (by omega),ile_dec]
    simp only [br_true,br_false]
    by_cases hg:s.2[i].2 - 1≤vat s.1 s.2[i].1
    ·simp only [hg,decide_true,br_true]
     exact ⟨false,rfl,⟨fun h=>(by cases h),fun h=>by have:=(h i hi (Nat.le_refl _)).2.1;omega⟩⟩
    ·simp only [hg,decide_false,br_false]
     obtain ⟨b,hb,hbi⟩:=rr_l k s hl hv n (i+1) (by omega) (by omega)
     have step:(∀ h0:0<i,dotLt (s.2[i - 1]'(by omega)) s.2[i]=true)→(b=true ↔ ∀ j (h:j<s.2.length),i≤j→okAt s j h):=fun hlt=>hbi.trans ⟨fun h j hj hij=>by
      by_cases he:j=i
      ·subst he;exact ⟨hr,by omega,hlt⟩
      ·exact h j hj (by omega),fun h j hj hij=>h j hj (by omega)⟩
     by_cases h0:0<i
     ·have e2:ilt 0 (i:Int)=true:=by simp [ilt];omega
      have e3:isub .i64 (i:Int) 1=((i - 1:Nat):Int):=by rw [isub_s (by omega) (by omega) (by omega) (by omega)];omega
      have hi1:i - 1<s.2.length:=by omega
      rw [e2,e3,inL_nat,natOf_nat,rd_at' (e:=tDot) hi1,rcmp_is]
      simp only [hi1,decide_true,br_true,bnd_some,cmp_m1]
      cases hc:dotLt s.2[i - 1] s.2[i] with
      | true=>exact ⟨b,hb,step fun _=>hc⟩
      | false=>exact ⟨false,rfl,⟨fun h=>(by cases h),fun h=>by have:=(h i hi (Nat.le_refl _)).2.2 h0;rw [hc] at this;cases this⟩⟩
     ·have e2:ilt 0 (i:Int)=false:=by simp [ilt];omega
      rw [e2]
      exact ⟨b,hb,step fun h=>absurd h h0⟩
  ·simp only [hi,decide_false,br_false]
   exact ⟨true,rfl,⟨fun _ j hj hij=>by omega,fun _=>rfl⟩⟩
theorem rr_is (k:Nat) (s:DSet) (hl:s.1.length=16) (hk:5000<k) (hk2:k<1000000):∃ b,z0Y.f k s=some b∧(b=true ↔ Can s∧s.2.length≤4096):=by
 obtain ⟨b,hb,hbi⟩:=rvr_is k s.1 hl (by omega)
 rw [z0Y.f_eq,hb]
 simp only [bnd_some]
 cases b with
 | false=>exact ⟨false,rfl,⟨fun h=>(by cases h),fun h=>hbi.2 h.1.vok⟩⟩
 | true =>
  have hv:=hbi.1 rfl
  have e:bnot true=false:=rfl
  have e2:ilt 4096 (ilen s.2)=decide (4096<s.2.length):=ilt_nat 4096 s.2
  rw [e,e2]
  simp only [br_false]
  by_cases h:4096<s.2.length
  ·simp only [h,decide_true,br_true]
   exact ⟨false,rfl,⟨fun h=>(by cases h),fun h=>by omega⟩⟩
  ·simp only [h,decide_false,br_false]
   obtain ⟨b,hb,hbi⟩:=rr_l k s (by omega) hv k 0 (by omega) (by omega)
   exact ⟨b,hb,hbi.trans ⟨fun h2=>⟨(can_iff hv).2 h2,by omega⟩,fun h2=>(can_iff hv).1 h2.1⟩⟩
end Go.Proofs.YtggcagclpkhlhaaGreatDoor
end
noncomputable section
/- Whether a set is right, how many dots there are, and the next one's number. -/
namespace Go.Proofs.YtggcagclpkhlhaaGreatDoor
open Pal
theorem dr_l (k:Nat) (s:DSet) (hl:s.2.length<1000000) (hv:VOk s.1):∀ (n i:Nat),i≤s.2.length→s.2.length<n+i→∃ b,z1g.l4 (k+3) n s.2 (ilen s.2) (i:Int) s=some b∧(b=true ↔ ∀ j (h:j<s.2.length),i≤j→okAt s j h)
 | 0,i,h,h'=>by omega
 | n+1,i,h,h'=>by
  rw [z1g.l4_eq,ilt_nat,inL_nat,natOf_nat]
  by_cases hi:i<s.2.length
  ·rw [rd_at' (e:=tDot) hi,right_is,iadd_nat (by omega)]
   simp only [hi,decide_true,br_true,bnd_some]
   cases hr:rightD s.2[i] with
   | false =>
    have e:bnot false=true:=rfl
    rw [e]
    exact ⟨false,rfl,⟨fun h=>(by cases h),fun h=>by rw [(h i hi (Nat.le_refl _)).1] at hr;cases hr⟩⟩
   | true =>
    have e:bnot true=false:=rfl
    obtain ⟨r0,r1,r2,r3⟩:=(rightD_iff s.2[i]).1 hr
    have hvv:rd (.int .i64) s.1 (natOf s.2[i].1)=vat s.1 s.2[i].1:=rfl
    have v0:=hv.lo s.2[i].1 r0 r1
    have v1:=hv.hi s.2[i].1 r0 r1
    rw [e,inB16 r0 r1,hvv,iadd_s (by omega) (by omega) (by omega) (by omega),ile_dec]
    simp only [br_true,br_false]
    by_cases hg:s.2[i].2≤vat s.1 s.2[i].1+1
    ·simp only [hg,decide_true,br_true]
     exact ⟨false,rfl,⟨fun h=>(by cases h),fun h=>by have:=(h i hi (Nat.le_refl _)).2.1;omega⟩⟩
    ·simp only [hg,decide_false,br_false]
     obtain ⟨b,hb,hbi⟩:=dr_l k s hl hv n (i+1) (by omega) (by omega)
     have step:(∀ h0:0<i,dotLt (s.2[i - 1]'(by omega)) s.2[i]=true)→(b=true ↔ ∀ j (h:j<s.2.length),i≤j→okAt s j h):=fun hlt=>hbi.trans ⟨fun h j hj hij=>by
      by_cases he:j=i
      ·subst he;exact ⟨hr,by omega,hlt⟩
      ·exact h j hj (by omega),fun h j hj hij=>h j hj (by omega)⟩
     by_cases h0:0<i
     ·have e2:ilt 0 (i:Int)=true:=by simp [ilt];omega
      have e3:isub .i64 (i:Int) 1=((i - 1:Nat):Int):=by rw [isub_s (by omega) (by omega) (by omega) (by omega)];omega
      have hi1:i - 1<s.2.length:=by omega
      have e4:∀ a b:Dot,ile 0 (cmpD a b)=!dotLt a b:=fun a b=>by
       show decide (0≤cmpD a b)=!decide (cmpD a b<0)
       by_cases h:cmpD a b<0
       ·rw [decide_eq_true h,decide_eq_false (by omega)];rfl
       ·rw [decide_eq_false h,decide_eq_true (by omega)];rfl
      rw [e2,e3,inL_nat,natOf_nat,rd_at' (e:=tDot) hi1,cmpD_is]
      simp only [hi1,decide_true,br_true,bnd_some,e4]
      cases hc:dotLt s.2[i - 1] s.2[i] with
      | true=>exact ⟨b,hb,step fun _=>hc⟩
      | false=>exact ⟨false,rfl,⟨fun h=>(by cases h),fun h=>by have:=(h i hi (Nat.le_refl _)).2.2 h0;rw [hc] at this;cases this⟩⟩
     ·have e2:ilt 0 (i:Int)=false:=by simp [ilt];omega
      rw [e2]
      exact ⟨b,hb,step fun h=>absurd h h0⟩
  ·simp only [hi,decide_false,br_false]
   exact ⟨true,rfl,⟨fun _ j hj hij=>by omega,fun _=>rfl⟩⟩
theorem dr_is (k:Nat) (s:DSet) (hl:s.1.length=16) (hk:5000<k) (hk2:k<1000000):∃ b,z1g.f k s=some b∧(b=true ↔ Can s∧s.2.length≤4096):=by
 obtain ⟨b,hb,hbi⟩:=vr_is k s.1 hl (by omega)
 rw [z1g.f_eq,hb]
 simp only [bnd_some]
 cases b with
 | false=>exact ⟨false,rfl,⟨fun h=>(by cases h),fun h=>hbi.2 h.1.vok⟩⟩
 | true =>
  have hv:=hbi.1 rfl
  have e:bnot true=false:=rfl
  have e2:ilt 4096 (ilen s.2)=decide (4096<s.2.length):=ilt_nat 4096 s.2
  rw [e,e2]
  simp only [br_false]
  by_cases h:4096<s.2.length
  ·simp only [h,decide_true,br_true]
   exact ⟨false,rfl,⟨fun h=>(by cases h),fun h=>by omega⟩⟩
  ·simp only [h,decide_false,br_false]
   obtain ⟨q,rfl⟩:∃ q,k=q+3:=⟨k - 3,by omega⟩
   obtain ⟨b,hb,hbi⟩:=dr_l q s (by omega) hv (q+3) 0 (by omega) (by omega)
   exact ⟨b,hb,hbi.trans ⟨fun h2=>⟨(can_iff hv).2 h2,by omega⟩,fun h2=>(can_iff hv).1 h2.1⟩⟩
end Go.Proofs.YtggcagclpkhlhaaGreatDoor
end
noncomputable section
/- Unions, and what is within what. -/
namespace Go.Proofs.YtggcagclpkhlhaaGreatDoor
open Pal
end Go.Proofs.YtggcagclpkhlhaaGreatDoor
end
noncomputable section
/- Readers: the program's and the document's read the same. -/
namespace Go.Proofs.YtggcagclpkhlhaaGreatDoor
open Pal
abbrev Rdr:=List UInt8 × Int
theorem fine_is (k:Nat) (o:Rdr):z0j.f k o=some (decide (o.2=0),o):=by rw [z0j.f_eq,ieq_dec]
theorem fail_is (k:Nat) (e:Int) (o:Rdr):z0g.f k e o=some ((),if o.2=0 then (o.1,e) else o):=by
 rw [z0g.f_eq,fine_is]
 simp only [bnd_some,br_dec]
 split <;> rfl
theorem wrap64 {n:Int} (h1:-9000000000000000000≤n) (h2:n≤9000000000000000000):IntKind.wrap .i64 n=n:=by
 have e1:((2:Int) ^ 63)=9223372036854775808:=by decide
 exact wrap_i64 (by rw [e1];omega) (by rw [e1];omega)
theorem iand127 {c:Nat} (h:c<9000000000000000000):iand .i64 (c:Int) 127=((c % 128:Nat):Int):=by
 show IntKind.wrap .i64 (((BitVec.ofInt 64 (c:Int) &&& BitVec.ofInt 64 127).toNat:Nat):Int)=_
 have e:(BitVec.ofInt 64 (c:Int) &&& BitVec.ofInt 64 127).toNat=c % 128:=by
  have e1:BitVec.ofInt 64 (c:Int)=BitVec.ofNat 64 c:=by simp
  have e2:BitVec.ofInt 64 127=BitVec.ofNat 64 127:=by decide
  rw [e1,e2,BitVec.toNat_and,BitVec.toNat_ofNat,BitVec.toNat_ofNat,Nat.mod_eq_of_lt (show c<2 ^ 64 by omega),show 127 % 2 ^ 64=2 ^ 7 - 1 by decide,Nat.and_two_pow_sub_one_eq_mod]
 rw [e,wrap64 (by omega) (by omega)]
theorem ior_add {a b m:Nat} (ha:a<2 ^ m) (hb:2 ^ m * b+a<9000000000000000000):ior .i64 (a:Int) ((2 ^ m * b:Nat):Int)=((2 ^ m * b+a:Nat):Int):=by
 show IntKind.wrap .i64 (((BitVec.ofInt 64 (a:Int) ||| BitVec.ofInt 64 ((2 ^ m * b:Nat):Int)).toNat:Nat):Int)=_
 have e:(BitVec.ofInt 64 (a:Int) ||| BitVec.ofInt 64 ((2 ^ m * b:Nat):Int)).toNat=2 ^ m * b+a:=by
  have e1:∀ c:Nat,BitVec.ofInt 64 (c:Int)=BitVec.ofNat 64 c:=fun c=>by simp
  rw [e1,e1,BitVec.toNat_or,BitVec.toNat_ofNat,BitVec.toNat_ofNat,Nat.mod_eq_of_lt (show a<2 ^ 64 by omega),Nat.mod_eq_of_lt (show 2 ^ m * b<2 ^ 64 by omega),Nat.or_comm,Nat.two_pow_add_eq_or_of_lt ha]
 rw [e,wrap64 (by omega) (by omega)]
theorem pow_mono {i:Nat} (h:i≤8):2 ^ (7 * i)≤72057594037927936:=by
 have:2 ^ (7 * i)≤2 ^ 56:=Nat.pow_le_pow_right (by decide) (by omega)
 exact this
theorem pow_mono7 {i:Nat} (h:i<8):2 ^ (7 * i)≤562949953421312:=by
 have:2 ^ (7 * i)≤2 ^ 49:=Nat.pow_le_pow_right (by decide) (by omega)
 exact this
theorem num_step {i c n:Nat} (hi:i<8) (hc:c<256) (hn:n<2 ^ (7 * i)) :
  ior .i64 (n:Int) (ishl .i64 (iand .i64 (c:Int) 127) (imul .i64 7 (i:Int)))=((2 ^ (7 * i) * (c % 128)+n:Nat):Int)∧2 ^ (7 * i) * (c % 128)+n<2 ^ (7 * (i+1)):=by
 have hp:=pow_mono7 hi
 have hp1:=pow_mono (show i+1≤8 by omega)
 have e7:2 ^ (7 * (i+1))=2 ^ (7 * i) * 128:=by rw [show 7 * (i+1)=7 * i+7 by omega,Nat.pow_add]
 have hm:c % 128≤127:=by omega
 have hmul:2 ^ (7 * i) * (c % 128)≤2 ^ (7 * i) * 127:=Nat.mul_le_mul_left _ hm
 have hlt:2 ^ (7 * i) * (c % 128)+n<2 ^ (7 * (i+1)):=by rw [e7];omega
 refine ⟨?_,hlt⟩
 have e1:imul .i64 7 (i:Int)=((7 * i:Nat):Int):=by
  show IntKind.wrap .i64 (7 * (i:Int))=_
  rw [wrap64 (by omega) (by omega)];omega
 have e2:ishl .i64 ((c % 128:Nat):Int) ((7 * i:Nat):Int)=((2 ^ (7 * i) * (c % 128):Nat):Int):=by
  show IntKind.wrap .i64 (((c % 128:Nat):Int) * 2 ^ (min ((7 * i:Nat):Int).toNat 64))=_
  have:min ((7 * i:Nat):Int).toNat 64=7 * i:=by omega
  rw [this]
  have e3:((c % 128:Nat):Int) * 2 ^ (7 * i)=((2 ^ (7 * i) * (c % 128):Nat):Int):=by
   rw [Int.natCast_mul,Int.natCast_pow,Int.mul_comm];rfl
  rw [e3,wrap64 (by omega) (by omega)]
 rw [iand127 (by omega),e1,e2,ior_add hn (by omega)]
theorem fault_is (k:Nat) (r:Rdr):z0c.f k r=some (r.2,r):=z0c.f_eq k r
end Go.Proofs.YtggcagclpkhlhaaGreatDoor
end
noncomputable section
/- Numbers of 32 bits: what the operations come to. -/
namespace Go.Proofs.YtggcagclpkhlhaaGreatDoor
open Pal
theorem wrapu32 {n:Nat} (h:n<4294967296):IntKind.wrap .u32 (n:Int)=(n:Int):=by
 rw [IntKind.wrap_u32];omega
theorem bv32 (c:Nat):BitVec.ofInt 32 (c:Int)=BitVec.ofNat 32 c:=by simp
theorem ixor32 {a b:Nat} (ha:a<4294967296) (hb:b<4294967296):ixor .u32 (a:Int) (b:Int)=((a ^^^ b:Nat):Int):=by
 show IntKind.wrap .u32 (((BitVec.ofInt 32 (a:Int) ^^^ BitVec.ofInt 32 (b:Int)).toNat:Nat):Int)=_
 have e:(BitVec.ofInt 32 (a:Int) ^^^ BitVec.ofInt 32 (b:Int)).toNat=a ^^^ b:=by
  rw [bv32,bv32,BitVec.toNat_xor,BitVec.toNat_ofNat,BitVec.toNat_ofNat,Nat.mod_eq_of_lt (show a<2 ^ 32 by omega),Nat.mod_eq_of_lt (show b<2 ^ 32 by omega)]
 rw [e,wrapu32 (Crc.xor_lt ha hb)]
theorem iand_2 {a:Nat} (j:Nat) (hj:j≤8) (ha:a<4294967296):iand .u32 (a:Int) ((2 ^ j - 1:Nat):Int)=((a % 2 ^ j:Nat):Int):=by
 have hp:2 ^ j≤2 ^ 8:=Nat.pow_le_pow_right (by decide) hj
 have hp1:0<2 ^ j:=Nat.pow_pos (by decide)
 show IntKind.wrap .u32 (((BitVec.ofInt 32 (a:Int) &&& BitVec.ofInt 32 ((2 ^ j - 1:Nat):Int)).toNat:Nat):Int)=_
 have e:(BitVec.ofInt 32 (a:Int) &&& BitVec.ofInt 32 ((2 ^ j - 1:Nat):Int)).toNat=a % 2 ^ j:=by
  rw [bv32,bv32,BitVec.toNat_and,BitVec.toNat_ofNat,BitVec.toNat_ofNat,Nat.mod_eq_of_lt (show a<2 ^ 32 by omega),Nat.mod_eq_of_lt (show 2 ^ j - 1<2 ^ 32 by omega),Nat.and_two_pow_sub_one_eq_mod]
 have hm:=Nat.mod_lt a hp1
 rw [e,wrapu32 (by omega)]
theorem iand1 {a:Nat} (ha:a<4294967296):iand .u32 (a:Int) 1=((a % 2:Nat):Int):=iand_2 1 (by decide) ha
theorem iand15 {a:Nat} (ha:a<4294967296):iand .u32 (a:Int) 15=((a % 16:Nat):Int):=iand_2 4 (by decide) ha
theorem ishr1 (a:Nat):ishr .u32 (a:Int) 1=((a / 2:Nat):Int):=by
 show (a:Int).fdiv 2=_
 rw [Int.fdiv_eq_ediv_of_nonneg _ (by decide)];rfl
theorem ishr4 (a:Nat):ishr .u32 (a:Int) 4=((a / 16:Nat):Int):=by
 show (a:Int).fdiv 16=_
 rw [Int.fdiv_eq_ediv_of_nonneg _ (by decide)];rfl
theorem iquo2 {a:Nat} (ha:a<4294967296):iquo .u32 (a:Int) 2=((a / 2:Nat):Int):=by
 show IntKind.wrap .u32 ((a:Int).tdiv 2)=_
 have e:((a:Int)).tdiv 2=((a / 2:Nat):Int):=rfl
 rw [e,wrapu32 (by omega)]
theorem irem_2 (a:Nat):irem (a:Int) 2=((a % 2:Nat):Int):=rfl
theorem iwrapu {a:Nat} (ha:a<4294967296):iwrap .u32 (a:Int)=(a:Int):=wrapu32 ha
theorem ieq1 (a:Nat):ieq (a:Int) 1=decide (a=1):=by rw [ieq_dec];exact decide_eq_decide.2 ⟨fun h=>by omega,fun h=>by omega⟩
theorem step_eq (c:Nat):Crc.step c=if c % 2=1 then (c / 2) ^^^ 3988292384 else c / 2:=rfl
end Go.Proofs.YtggcagclpkhlhaaGreatDoor
end
noncomputable section
/- The sums: the program's and the document's are the plain one. -/
namespace Go.Proofs.YtggcagclpkhlhaaGreatDoor
open Pal
theorem byteAt_get {s:List UInt8} {i:Nat} (h:i<s.length):byteAt s (i:Int)=((s[i].toNat:Nat):Int):=by
 unfold byteAt
 rw [Int.toNat_natCast,List.getD_eq_getElem?_getD,List.getElem?_eq_getElem h];rfl
theorem tab_step (k n3 n7:Nat) (x2 x4:Int) (m0 m1:List Int) {c j:Nat} (hc:c<4294967296) (hj:j<4):z1O.l7 k n3 (n7+1) x2 (c:Int) x4 (j:Int) m0 m1=z1O.l7 k n3 n7 x2 ((Crc.step c:Nat):Int) x4 ((j+1:Nat):Int) m0 m1:=by
 have e4:iadd .i64 (j:Int) 1=((j+1:Nat):Int):=iadd_nat (by omega)
 rw [z1O.l7_eq,show ilt (j:Int) 4=decide (j<4) from ilt_nn j 4,decide_eq_true hj,br_true,iand1 hc,ieq1,ishr1,e4,step_eq]
 have hx:ixor .u32 ((c / 2:Nat):Int) 3988292384=((c / 2 ^^^ 3988292384:Nat):Int):=ixor32 (b:=3988292384) (by omega) (by decide)
 rw [hx]
 by_cases h:c % 2=1
 ·rw [decide_eq_true h,br_true,if_pos h]
 ·rw [decide_eq_false h,br_false,if_neg h]
theorem tab_l3 (k:Nat) (hk:20<k) (m0:List Int):∀ (n i:Nat) (m1:List Int),i≤16→16<n+i→m1.length=16→(∀ j:Nat,j<i→m1[j]? = some ((Crc.step4 j:Nat):Int)) →
  ∃ T:List Int,z1O.l3 k n (i:Int) m0 m1=some T∧T.length=16∧∀ j:Nat,j<16→T[j]? = some ((Crc.step4 j:Nat):Int)
 | 0,i,_,h,h',_,_=>by omega
 | n+1,i,m1,h,h',hl,hm=>by
  rw [z1O.l3_eq,show ilt (i:Int) 16=decide (i<16) from ilt_nn i 16]
  by_cases hi:i<16
  ·obtain ⟨q,rfl⟩:∃ q,k=q+5:=⟨k - 5,by omega⟩
   have e4:iadd .i64 (i:Int) 1=((i+1:Nat):Int):=iadd_nat (by omega)
   have s1:Crc.step i<4294967296:=Crc.step_lt (by omega)
   have s2:=Crc.step_lt s1
   have s3:=Crc.step_lt s2
   rw [decide_eq_true hi,br_true,iwrapu (by omega)]
   have t0:=tab_step (q+5) n (q+4) (i:Int) (i:Int) m0 m1 (c:=i) (j:=0) (by omega) (by decide)
   have t1:=tab_step (q+5) n (q+3) (i:Int) (i:Int) m0 m1 (j:=1) s1 (by decide)
   have t2:=tab_step (q+5) n (q+2) (i:Int) (i:Int) m0 m1 (j:=2) s2 (by decide)
   have t3:=tab_step (q+5) n (q+1) (i:Int) (i:Int) m0 m1 (j:=3) s3 (by decide)
   rw [show ((0:Nat):Int)=0 from rfl] at t0
   rw [t0,t1,t2,t3,z1O.l7_eq,show ilt ((3+1:Nat):Int) 4=false from rfl,br_false,inB_nat,decide_eq_true hi,br_true,natOf_nat,e4]
   refine tab_l3 (q+5) hk m0 n (i+1) _ (by omega) (by omega) (by simp [upd,hl]) (fun j hj=>?_)
   show (List.set m1 i _)[j]? = _
   by_cases e:j=i
   ·subst e
    rw [List.getElem?_set_self (by omega)];rfl
   ·rw [List.getElem?_set_ne (fun h=>e h.symm)]
    exact hm j (by omega)
  ·rw [decide_eq_false hi,br_false]
   exact ⟨m1,rfl,hl,fun j hj=>hm j (by omega)⟩
theorem table_is (k:Nat) (hk:20<k):∃ T:List Int,z1O.f k=some T∧T.length=16∧∀ j:Nat,j<16→T[j]? = some ((Crc.step4 j:Nat):Int):=by
 rw [z1O.f_eq]
 exact tab_l3 k hk (zarr 16 0) k 0 (zarr 16 0) (by omega) (by omega) (by simp [zarr]) (fun j hj=>by omega)
theorem more_l (k:Nat) (s:List UInt8) (hs:s.length<4000000) (T:List Int) (hT:T.length=16) (hTj:∀ j:Nat,j<16→T[j]? = some ((Crc.step4 j:Nat):Int)):∀ (n i c:Nat),i≤s.length→s.length<n+i→c<4294967296 →
  z2m.l4 k n s (c:Int) (ilen s) (i:Int) T=some (((Crc.crc c (s.drop i) ^^^ 4294967295:Nat)):Int)
 | 0,i,c,h,h',_=>by omega
 | n+1,i,c,h,h',hc=>by
  rw [z2m.l4_eq,ilt_nat,inL_nat]
  by_cases hi:i<s.length
  ·have e4:iadd .i64 (i:Int) 1=((i+1:Nat):Int):=iadd_nat (by omega)
   have hb:s[i].toNat<256:=Crc.ub _
   have hx:=Crc.xor_lt hc (show s[i].toNat<4294967296 by omega)
   have rdT:∀ j:Nat,j<16→rd (.int .u32) T j=((Crc.step4 j:Nat):Int):=fun j hj=>by
    have hj':j<T.length:=by omega
    rw [rd_at' (e:=.int .u32) hj']
    have:=hTj j hj
    rw [List.getElem?_eq_getElem hj'] at this
    injection this
   have nib:∀ x:Nat,x<4294967296→ixor .u32 (ishr .u32 (x:Int) 4) (rd (.int .u32) T (natOf (iand .u32 (x:Int) 15)))=((Crc.step4 x:Nat):Int):=fun x hx=>by
    have h16:x % 16<16:=by omega
    have h4:Crc.step4 (x % 16)<4294967296:=Crc.step4_lt (by omega)
    rw [iand15 hx,natOf_nat,rdT _ h16,ishr4,ixor32 (by omega) h4,← Crc.step4_is]
   have inb:∀ x:Nat,x<4294967296→inB (iand .u32 (x:Int) 15) 16=true:=fun x hx=>by
    rw [iand15 hx,inB_nat];exact decide_eq_true (by omega)
   have s4:=Crc.step4_lt hx
   rw [decide_eq_true hi,br_true,br_true,byteAt_get hi,iwrapu (by omega),ixor32 hc (show s[i].toNat<4294967296 by omega),inb _ hx,br_true,nib _ hx,inb _ s4,br_true,nib _ s4,e4]
   have ed:s.drop i=s[i]::s.drop (i+1):=List.drop_eq_getElem_cons hi
   rw [ed]
   exact more_l k s hs T hT hTj n (i+1) (Crc.byteStep c s[i].toNat) (by omega) (by omega) (Crc.byteStep_lt hc hb)
  ·have e0:s.drop i=[]:=List.drop_eq_nil_of_le (by omega)
   have hx:ixor .u32 4294967295 (c:Int)=((c ^^^ 4294967295:Nat):Int):=by
    rw [Nat.xor_comm];exact ixor32 (a:=4294967295) (by decide) hc
   rw [decide_eq_false hi,br_false,e0,hx];rfl
theorem sum_is (k:Nat) (s:List UInt8) (hs:s.length<k) (hk:20<k) (hk2:k<1000000):z2x.f k s=some ((Crc.sumN s:Nat):Int):=by
 obtain ⟨T,h1,h2,h3⟩:=table_is k hk
 have hx:ixor .u32 4294967295 0=((4294967295:Nat):Int):=by decide
 rw [z2x.f_eq,z2m.f_eq,h1,bnd_some,hx]
 have:=more_l k s (by omega) T h2 h3 k 0 4294967295 (by omega) (by omega) (by decide)
 rw [show ((0:Nat):Int)=0 from rfl,List.drop_zero] at this
 rw [this,bnd_some];rfl
theorem rstep (k n3 n7:Nat) (s:List UInt8) (x6:Int) {c j:Nat} (hc:c<4294967296) (hj:j<8):z1M.l7 k n3 (n7+1) s (c:Int) x6 (j:Int)=z1M.l7 k n3 n7 s ((Crc.step c:Nat):Int) x6 ((j+1:Nat):Int):=by
 have e4:iadd .i64 (j:Int) 1=((j+1:Nat):Int):=iadd_nat (by omega)
 rw [z1M.l7_eq,show ilt (j:Int) 8=decide (j<8) from ilt_nn j 8,decide_eq_true hj,br_true,irem_2,ieq1,iquo2 hc,e4,step_eq]
 have hx:ixor .u32 ((c / 2:Nat):Int) 3988292384=((c / 2 ^^^ 3988292384:Nat):Int):=ixor32 (b:=3988292384) (by omega) (by decide)
 rw [hx]
 by_cases h:c % 2=1
 ·rw [decide_eq_true h,br_true,if_pos h]
 ·rw [decide_eq_false h,br_false,if_neg h]
theorem rmore_l (k:Nat) (hk:20<k) (s:List UInt8) (hs:s.length<4000000):∀ (n i c:Nat),i≤s.length→s.length<n+i→c<4294967296 →
  z1M.l3 k n s (c:Int) (i:Int)=some (((Crc.crc c (s.drop i) ^^^ 4294967295:Nat)):Int)
 | 0,i,c,h,h',_=>by omega
 | n+1,i,c,h,h',hc=>by
  rw [z1M.l3_eq,ilt_nat,inL_nat]
  by_cases hi:i<s.length
  ·have e4:iadd .i64 (i:Int) 1=((i+1:Nat):Int):=iadd_nat (by omega)
   have hb:s[i].toNat<256:=Crc.ub _
   have hx:=Crc.xor_lt hc (show s[i].toNat<4294967296 by omega)
   obtain ⟨q,rfl⟩:∃ q,k=q+9:=⟨k - 9,by omega⟩
   have s1:=Crc.step_lt hx
   have s2:=Crc.step_lt s1
   have s3:=Crc.step_lt s2
   have s4:=Crc.step_lt s3
   have s5:=Crc.step_lt s4
   have s6:=Crc.step_lt s5
   have s7:=Crc.step_lt s6
   have t0:=rstep (q+9) n (q+8) s (i:Int) (j:=0) hx (by decide)
   rw [show ((0:Nat):Int)=0 from rfl] at t0
   rw [decide_eq_true hi,br_true,br_true,byteAt_get hi,iwrapu (by omega),ixor32 hc (show s[i].toNat<4294967296 by omega),t0,
    rstep (q+9) n (q+7) s (i:Int) (j:=1) s1 (by decide),rstep (q+9) n (q+6) s (i:Int) (j:=2) s2 (by decide),rstep (q+9) n (q+5) s (i:Int) (j:=3) s3 (by decide),
    rstep (q+9) n (q+4) s (i:Int) (j:=4) s4 (by decide),rstep (q+9) n (q+3) s (i:Int) (j:=5) s5 (by decide),rstep (q+9) n (q+2) s (i:Int) (j:=6) s6 (by decide),rstep (q+9) n (q+1) s (i:Int) (j:=7) s7 (by decide),
    z1M.l7_eq,show ilt ((7+1:Nat):Int) 8=false from rfl,br_false,e4]
   have ed:s.drop i=s[i]::s.drop (i+1):=List.drop_eq_getElem_cons hi
   rw [ed]
   exact rmore_l (q+9) hk s hs n (i+1) (Crc.byteStep c s[i].toNat) (by omega) (by omega) (Crc.byteStep_lt hc hb)
  ·have e0:s.drop i=[]:=List.drop_eq_nil_of_le (by omega)
   have hx:ixor .u32 (c:Int) 4294967295=((c ^^^ 4294967295:Nat):Int):=ixor32 (b:=4294967295) hc (by decide)
   rw [decide_eq_false hi,br_false,e0,hx];rfl
theorem rsum_is (k:Nat) (s:List UInt8) (hs:s.length<k) (hk:20<k) (hk2:k<1000000):z2p.f k s=some ((Crc.sumN s:Nat):Int):=by
 have hx:ixor .u32 0 4294967295=((4294967295:Nat):Int):=by decide
 rw [z2p.f_eq,z1M.f_eq,hx]
 have:=rmore_l k hk s (by omega) k 0 4294967295 (by omega) (by omega) (by decide)
 rw [show ((0:Nat):Int)=0 from rfl,List.drop_zero] at this
 rw [this,bnd_some];rfl
end Go.Proofs.YtggcagclpkhlhaaGreatDoor
end
noncomputable section
/- That runs answer; binary search. -/
namespace Go.Proofs.YtggcagclpkhlhaaGreatDoor.Pal
open Go
def Tot {α:Type} (x:Option α):Prop:=∃ r,x=some r
theorem some_tot {α:Type} (a:α):Tot (some a):=⟨a,rfl⟩
theorem br_tot {α:Type} {b:Bool} {x y:Option α} (h1:Tot x) (h2:Tot y):Tot (br b x y):=by cases b <;> assumption
theorem bnd_tot {α β:Type} {x:Option α} {f:α→Option β} (h1:Tot x) (h2:∀ r,x=some r→Tot (f r)):Tot (bnd x f):=by
 obtain ⟨r,rfl⟩:=h1
 exact h2 r rfl
theorem bnd_tot' {α β:Type} {x:Option α} {f:α→Option β} (h1:Tot x) (h2:∀ r,Tot (f r)):Tot (bnd x f):=bnd_tot h1 fun r _=>h2 r
theorem loop_tot {ρ:Type} (N:Nat) (L:Nat→Nat→Option ρ) (hs:∀ n i,i<N→Tot (L n (i+1))→Tot (L (n+1) i)) (he:∀ n,Tot (L (n+1) N)):∀ n i,i≤N→N<n+i→Tot (L n i)
 | 0,i,h,h'=>by omega
 | n+1,i,h,h'=>by
  by_cases hi:i<N
  ·exact hs n i hi (loop_tot N L hs he n (i+1) (by omega) (by omega))
  ·have:i=N:=by omega
   subst this;exact he n
end Go.Proofs.YtggcagclpkhlhaaGreatDoor.Pal
end
noncomputable section
/- The document's checks of names, paths, values, operations and transactions answer, of short ones. -/
namespace Go.Proofs.YtggcagclpkhlhaaGreatDoor
open Pal
abbrev Str:=List UInt8
abbrev Val:=Int × (Int × Str)
abbrev Op:=Int × (List Str × (Val × (Int × List (Dot × Int))))
abbrev Txn:=Dot × (Int × (Int × (Bool × List Op)))
noncomputable instance decOp:DecidableEq Op:=fun a b=>Classical.propDecidable (a=b)
noncomputable instance decTxn:DecidableEq Txn:=fun a b=>Classical.propDecidable (a=b)
theorem ilt_lenR {α:Type} (c:Nat) (xs:List α):ilt (c:Int) (ilen xs)=decide (c<xs.length):=by unfold ilt ilen;exact decide_eq_decide.2 ⟨fun h=>by omega,fun h=>by omega⟩
theorem ile_len {α:Type} (c:Nat) (xs:List α):ile (ilen xs) (c:Int)=decide (xs.length≤c):=by unfold ile ilen;exact decide_eq_decide.2 ⟨fun h=>by omega,fun h=>by omega⟩
theorem rchar_is (k:Nat) (s:Str) (hk:10<k) (hs:s.length<4000000):∃ (c n:Int),z1i.f k s=some (c,n)∧0≤n∧n≤(s.length:Int):=by
 rw [z1i.f_eq]
 have e0:ieq (ilen s) 0=decide (s.length=0):=ieq0 s
 rw [e0]
 by_cases h0:s.length=0
 ·rw [decide_eq_true h0];exact ⟨0,0,rfl,by decide,by omega⟩
 rw [decide_eq_false h0]
 have e1:inL 0 s=true:=by
  have:=inL_nat 0 s
  rw [show inL 0 s=decide (0<s.length) from this];exact decide_eq_true (by omega)
 have l2:∀ c:Nat,ilt (ilen s) (c:Int)=decide (s.length<c):=fun c=>by unfold ilt ilen;exact decide_eq_decide.2 ⟨fun h=>by omega,fun h=>by omega⟩
 have key:∀ (N:Nat) (m x:Int),1≤N→N≤s.length→N≤4→∃ (c n:Int),z1i.l17 k k s x (N:Int) m 1=some (c,n)∧0≤n∧n≤(s.length:Int):=by
  intro N m x hN1 hN hN4
  have:∀ n i (x:Int),1≤i→N<n+i→i≤N→∃ (c q:Int),z1i.l17 k n s x (N:Int) m (i:Int)=some (c,q)∧0≤q∧q≤(s.length:Int):=by
   intro n
   induction n with
   | zero =>
    intro i x h1 h2 h3
    omega
   | succ n ih =>
    intro i x h1 h2 h3
    rw [z1i.l17_eq,ilt_nn]
    by_cases hi:i<N
    ·have e2:inL (i:Int) s=true:=by rw [inL_nat];exact decide_eq_true (by omega)
     have e3:iadd .i64 (i:Int) 1=((i+1:Nat):Int):=iadd_nat (by omega)
     rw [decide_eq_true hi,e2,e3]
     simp only [br_true]
     have z:∃ (c q:Int),(some ((0:Int),(0:Int)))=some (c,q)∧0≤q∧q≤(s.length:Int):=⟨0,0,rfl,by decide,by omega⟩
     have y:=ih (i+1) (isub .i64 (iadd .i64 (imul .i64 64 x) (iwrap .i64 (byteAt s (i:Int)))) 128) (by omega) (by omega) (by omega)
     cases ilt (byteAt s (i:Int)) 128 with
     | true=>exact z
     | false =>
      cases ilt 191 (byteAt s (i:Int)) with
      | true=>exact z
      | false=>exact y
    ·rw [decide_eq_false hi]
     simp only [br_false]
     have z:∃ (c q:Int),(some ((0:Int),(0:Int)))=some (c,q)∧0≤q∧q≤(s.length:Int):=⟨0,0,rfl,by decide,by omega⟩
     have y:∃ (c q:Int),(some (x,(N:Int)))=some (c,q)∧0≤q∧q≤(s.length:Int):=⟨x,N,rfl,by omega,by omega⟩
     cases ilt x m with
     | true=>exact z
     | false =>
      cases ilt 1114111 x with
      | true=>exact z
      | false =>
       cases ile 55296 x with
       | false=>exact y
       | true=>cases ile x 57343 with
        | true=>exact z
        | false=>exact y
  exact this k 1 x (by omega) (by omega) (by omega)
 have z:∃ (c q:Int),(some ((0:Int),(0:Int)))=some (c,q)∧0≤q∧q≤(s.length:Int):=⟨0,0,rfl,by decide,by omega⟩
 have kk:∀ (N:Nat) (m x:Int),1≤N→N≤4→∃ (c n:Int),br (ilt (ilen s) (N:Int)) (some ((0:Int),(0:Int))) (z1i.l17 k k s x (N:Int) m 1)=some (c,n)∧0≤n∧n≤(s.length:Int):=by
  intro N m x hN1 hN
  rw [l2]
  by_cases h:s.length<N
  ·rw [decide_eq_true h];exact z
  ·rw [decide_eq_false h];exact key N m x hN1 (by omega) hN
 have k2:=fun m x=>kk 2 m x (by decide) (by decide)
 have k3:=fun m x=>kk 3 m x (by decide) (by decide)
 have k4:=fun m x=>kk 4 m x (by decide) (by decide)
 rw [e1]
 simp only [br_true,br_false]
 generalize iwrap .i64 (byteAt s 0)=b
 cases ilt b 128 with
 | true=>exact ⟨b,1,rfl,by decide,by omega⟩
 | false =>
  cases ile 194 b <;> cases ilt b 224 <;> cases ile 224 b <;> cases ilt b 240 <;> cases ile 240 b <;> cases ilt b 245 <;> simp only [br_true,br_false] <;> first | exact z | exact k2 _ _ | exact k3 _ _ | exact k4 _ _
theorem rrunes_is (k:Nat) (s:Str) (hk:10<k) (hs:s.length<k) (hk2:k<1000000):∃ (l:List Int) (b:Bool),z0X.f k s=some (l,b)∧l.length≤s.length:=by
 rw [z0X.f_eq]
 have:∀ n i (l:List Int),i≤s.length→s.length<n+i→l.length≤i→∃ (l':List Int) (b:Bool),z0X.l3 k n s l (i:Int)=some (l',b)∧l'.length≤s.length:=by
  intro n
  induction n with
  | zero=>intro i l h1 h2;omega
  | succ n ih =>
   intro i l h1 h2 hl
   rw [z0X.l3_eq,ilt_nat]
   by_cases hi:i<s.length
   ·have hin:inS (i:Int) (ilen s) (ilen s)=true:=by
     have h1:(i:Int)≤(s.length:Int):=by omega
     show (decide ((0:Int)≤(i:Int)) && decide ((i:Int)≤(s.length:Int)) && decide ((s.length:Int)≤(s.length:Int)))=true
     rw [decide_eq_true h1,decide_eq_true (show (0:Int)≤(i:Int) by omega),decide_eq_true (Int.le_refl _)];rfl
    have hp:(piece s (i:Int) (ilen s)).length=s.length - i:=by
     unfold piece ilen
     rw [Int.toNat_natCast,Int.toNat_natCast,List.take_length,List.length_drop]
    obtain ⟨c,q,hc,q0,q1⟩:=rchar_is k (piece s (i:Int) (ilen s)) hk (by omega)
    rw [decide_eq_true hi,hin,hc]
    simp only [br_true,bnd_some,ieq_dec]
    rw [hp] at q1
    by_cases hq:q=0
    ·rw [decide_eq_true hq];exact ⟨[],false,rfl,by simp⟩
    ·rw [decide_eq_false hq]
     simp only [br_false]
     have hr:room l (c::[])=true:=room_le (by simp only [List.length_cons,List.length_nil];omega)
     obtain ⟨Q,rfl⟩:∃ Q:Nat,q=(Q:Int):=⟨q.toNat,by omega⟩
     have e3:iadd .i64 (i:Int) (Q:Int)=((i+Q:Nat):Int):=by rw [iadd_s (by omega) (by omega) (by omega) (by omega)];omega
     rw [hr,e3]
     simp only [br_true]
     exact ih (i+Q) _ (by omega) (by omega) (by simp only [app,List.length_append,List.length_cons,List.length_nil];omega)
   ·rw [decide_eq_false hi]
    exact ⟨l,true,rfl,by omega⟩
 exact this k 0 [] (by omega) (by omega) (by simp)
theorem rmay_tot (k:Nat) (c:Int):Tot (z2a.f k c):=by
 rw [z2a.f_eq]
 repeat' first | exact some_tot _ | apply br_tot
theorem rname_tot (k:Nat) (s:Str) (hk:10<k) (hs:s.length<k) (hk2:k<1000000):Tot (z0W.f k s):=by
 obtain ⟨l,b,h,hl⟩:=rrunes_is k s hk hs hk2
 rw [z0W.f_eq,h]
 simp only [bnd_some]
 refine loop_tot l.length (fun n i=>z0W.l3 k n l b (i:Int)) (fun n i hi ih=>?_) (fun n=>?_) k 0 (by omega) (by omega)
 ·have e3:iadd .i64 (i:Int) 1=((i+1:Nat):Int):=iadd_nat (by omega)
  simp only [z0W.l3_eq,ilt_nat,inL_nat,hi,decide_true,br_true,e3]
  exact bnd_tot' (rmay_tot k _) fun r=>br_tot (some_tot _) ih
 ·simp only [z0W.l3_eq,ilt_nat,Nat.lt_irrefl,decide_false,br_false]
  repeat' first | exact some_tot _ | apply br_tot
def ShortP (p:List Str):Prop:=p.length≤12∧∀ s ∈ p,List.length s≤120
theorem rpath_tot (k:Nat) (p:List Str) (hp:ShortP p) (hk:1000<k) (hk2:k<1000000):Tot (z0M.f k p):=by
 rw [z0M.f_eq]
 refine br_tot (some_tot _) (br_tot (some_tot _) ?_)
 have:=hp.1
 refine loop_tot p.length (fun n i=>z0M.l6 k n p (i:Int)) (fun n i hi ih=>?_) (fun n=>?_) k 0 (by omega) (by omega)
 ·have e3:iadd .i64 (i:Int) 1=((i+1:Nat):Int):=iadd_nat (by omega)
  simp only [z0M.l6_eq,ilt_nat,inL_nat,natOf_nat,hi,decide_true,br_true,e3,rd_at' (e:=.str) hi]
  have:=hp.2 p[i] (List.getElem_mem hi)
  exact bnd_tot' (rname_tot k _ (by omega) (by omega) hk2) fun r=>br_tot (some_tot _) ih
 ·simp only [z0M.l6_eq,ilt_nat,Nat.lt_irrefl,decide_false,br_false]
  exact some_tot _
theorem rval_tot (k:Nat) (v:Val) (hv:v.2.2.length≤200) (hk:1000<k) (hk2:k<1000000):Tot (z0V.f k v):=by
 rw [z0V.f_eq]
 obtain ⟨l,b,h,hl⟩:=rrunes_is k v.2.2 (by omega) (by omega) hk2
 rw [h]
 simp only [bnd_some]
 repeat' first | exact some_tot _ | apply br_tot
theorem rrefs_tot (k:Nat) (l:List (Dot × Int)) (hl:l.length≤300) (hk:1000<k) (hk2:k<1000000):Tot (z1c.f k l):=by
 rw [z1c.f_eq]
 refine loop_tot l.length (fun n i=>z1c.l2 k n l (i:Int)) (fun n i hi ih=>?_) (fun n=>?_) k 0 (by omega) (by omega)
 ·have e3:iadd .i64 (i:Int) 1=((i+1:Nat):Int):=iadd_nat (by omega)
  have e4:ilt 0 (i:Int)=decide (0<i):=ilt_nn 0 i
  simp only [z1c.l2_eq,ilt_nat,inL_nat,hi,decide_true,br_true,e3,rright_is,bnd_some,e4]
  refine br_tot (some_tot _) (br_tot (some_tot _) (br_tot (some_tot _) ?_))
  by_cases h0:0<i
  ·have hi1:i - 1<l.length:=by omega
   have e5:isub .i64 (i:Int) 1=((i - 1:Nat):Int):=by rw [isub_s (by omega) (by omega) (by omega) (by omega)];omega
   simp only [h0,decide_true,br_true,e5,inL_nat,hi1,z1I.f_eq,rcmp_is,bnd_some]
   refine bnd_tot' (br_tot (some_tot _) (bnd_tot' ?_ fun r=>some_tot _)) fun r=>br_tot (some_tot _) ih
   rw [z1m.f_eq]
   repeat' first | exact some_tot _ | apply br_tot
  ·simp only [h0,decide_false,br_false];exact ih
 ·simp only [z1c.l2_eq,ilt_nat,Nat.lt_irrefl,decide_false,br_false]
  exact some_tot _
structure ShortO (o:Op):Prop where
 path:ShortP o.2.1
 val:o.2.2.1.2.2.length≤200
 seen:o.2.2.2.2.length≤300
theorem rgone_tot (k:Nat) (o:Op):Tot (z1o.f k o):=by
 rw [z1o.f_eq]
 repeat' first | exact some_tot _ | apply br_tot
theorem rop_tot (k:Nat) (o:Op) (ho:ShortO o) (hk:1000<k) (hk2:k<1000000):Tot (z0P.f k o):=by
 rw [z0P.f_eq]
 obtain ⟨r1,h1⟩:=rpath_tot k _ ho.path hk hk2
 obtain ⟨r2,h2⟩:=rval_tot k _ ho.val hk hk2
 obtain ⟨r3,h3⟩:=rrefs_tot k _ ho.seen hk hk2
 rw [h1,h2,h3]
 simp only [bnd_some]
 repeat' first | exact some_tot _ | apply br_tot
structure ShortT (t:Txn):Prop where
 len:t.2.2.2.2.length≤20
 ops:∀ o ∈ t.2.2.2.2,ShortO o
theorem rpathshort_is (k:Nat) (p:List Str) (hk:1000<k) (hk2:k<1000000):∃ b,z0L.f k p=some b∧(b=true→ShortP p):=by
 rw [z0L.f_eq,show ilt 12 (ilen p)=decide (12<p.length) from ilt_lenR 12 p]
 by_cases h:12<p.length
 ·rw [decide_eq_true h];exact ⟨false,rfl,fun h=>by cases h⟩
 ·rw [decide_eq_false h]
  simp only [br_false]
  obtain ⟨b,hb,hbi⟩:=loop_all' p.length (fun n i=>z0L.l4 k n p (i:Int)) (fun j=>∀ s,p[j]? = some s→List.length s≤120) (fun n i hi=>by
   have e3:iadd .i64 (i:Int) 1=((i+1:Nat):Int):=iadd_nat (by omega)
   have e4:ilt 120 (ilen p[i])=decide (120<List.length p[i]):=ilt_lenR 120 p[i]
   simp only [z0L.l4_eq,ilt_nat,inL_nat,natOf_nat,hi,decide_true,br_true,e3,rd_at' (e:=.str) hi,e4,br_dec,List.getElem?_eq_getElem hi]
   by_cases hl:120<List.length p[i]
   ·exact .inr ⟨fun hh=>by have:=hh _ rfl;omega,if_pos hl⟩
   ·exact .inl ⟨fun s hs=>by injection hs with hs;subst hs;omega,if_neg hl⟩) (fun n=>by simp only [z0L.l4_eq,ilt_nat,Nat.lt_irrefl,decide_false,br_false]) k 0 (by omega) (by omega)
  refine ⟨b,hb,fun hh=>⟨by omega,fun s hs=>?_⟩⟩
  obtain ⟨j,hj,rfl⟩:=List.mem_iff_getElem.1 hs
  exact hbi.1 hh j (by omega) hj _ (List.getElem?_eq_getElem hj)
theorem ropshort_is (k:Nat) (o:Op) (hk:1000<k) (hk2:k<1000000):∃ b,z11.f k o=some b∧(b=true→ShortO o):=by
 obtain ⟨b,hb,hbi⟩:=rpathshort_is k o.2.1 hk hk2
 rw [z11.f_eq,hb]
 simp only [bnd_some]
 rw [show ile (ilen o.2.2.1.2.2) 200=decide (o.2.2.1.2.2.length≤200) from ile_len 200 _,show ile (ilen o.2.2.2.2) 300=decide (o.2.2.2.2.length≤300) from ile_len 300 _]
 cases b with
 | false=>exact ⟨false,rfl,fun h=>by cases h⟩
 | true =>
  simp only [br_true,br_dec]
  by_cases h:o.2.2.1.2.2.length≤200
  ·rw [if_pos h];exact ⟨_,rfl,fun hh=>⟨hbi rfl,h,of_decide_eq_true hh⟩⟩
  ·rw [if_neg h];exact ⟨false,rfl,fun h=>by cases h⟩
def shortAt (k:Nat) (t:Txn) (j:Nat):Prop:=∀ o,t.2.2.2.2[j]? = some o→∃ b,z11.f k o=some b∧b=true
theorem rtxnshort_is (k:Nat) (t:Txn) (hk:1000<k) (hk2:k<1000000):∃ b,z0S.f k t=some b∧(b=true→ShortT t):=by
 rw [z0S.f_eq,show ilt 20 (ilen t.2.2.2.2)=decide (20<t.2.2.2.2.length) from ilt_lenR 20 _]
 by_cases h:20<t.2.2.2.2.length
 ·rw [decide_eq_true h];exact ⟨false,rfl,fun h=>by cases h⟩
 ·rw [decide_eq_false h]
  simp only [br_false]
  obtain ⟨b,hb,hbi⟩:=loop_all' t.2.2.2.2.length (fun n i=>br (decide True) (z0S.l4 k n (i:Int) t) none) (shortAt k t) (fun n i hi=>by
   have e3:iadd .i64 (i:Int) 1=((i+1:Nat):Int):=iadd_nat (by omega)
   obtain ⟨b,hb,_⟩:=ropshort_is k t.2.2.2.2[i] hk hk2
   simp only [decide_true,br_true,z0S.l4_eq,ilt_nat,inL_nat,natOf_nat,hi,e3,rd_at' (e:=tOp) hi,hb,bnd_some]
   cases b with
   | false=>exact .inr ⟨fun hh=>(by obtain ⟨c,h1,h2⟩:=hh _ (List.getElem?_eq_getElem hi);rw [hb] at h1;injection h1 with h1;subst h1;cases h2),rfl⟩
   | true=>exact .inl ⟨fun s hs=>(by rw [List.getElem?_eq_getElem hi] at hs;injection hs with hs;subst hs;exact ⟨true,hb,rfl⟩),rfl⟩) (fun n=>by simp only [decide_true,br_true,z0S.l4_eq,ilt_nat,Nat.lt_irrefl,decide_false,br_false]) k 0 (by omega) (by omega)
  refine ⟨b,hb,fun hh=>⟨by omega,fun o ho=>?_⟩⟩
  obtain ⟨j,hj,rfl⟩:=List.mem_iff_getElem.1 ho
  obtain ⟨c,h1,h2⟩:=hbi.1 hh j (by omega) hj _ (List.getElem?_eq_getElem hj)
  obtain ⟨d,h3,h4⟩:=ropshort_is k _ hk hk2
  rw [h3] at h1;injection h1 with h1;subst h1
  exact h4 h2
theorem rtxn_is (k:Nat) (t:Txn) (ht:ShortT t) (hk:1000<k) (hk2:k<1000000):∃ e:Int,z17.f k t=some e∧(e=0→rightD t.1=true):=by
 rw [z17.f_eq,rright_is]
 simp only [bnd_some]
 cases hd:rightD t.1 with
 | false=>exact ⟨2,rfl,fun h=>by cases h⟩
 | true =>
  have:Tot (z17.l8 k k 0 t):=by
   have:=ht.len
   refine loop_tot t.2.2.2.2.length (fun n i=>z17.l8 k n (i:Int) t) (fun n i hi ih=>?_) (fun n=>?_) k 0 (by omega) (by omega)
   ·have e3:iadd .i64 (i:Int) 1=((i+1:Nat):Int):=iadd_nat (by omega)
    obtain ⟨e,he⟩:=rop_tot k t.2.2.2.2[i] (ht.ops _ (List.getElem_mem hi)) hk hk2
    obtain ⟨g,hg⟩:=rgone_tot k t.2.2.2.2[i]
    simp only [z17.l8_eq,ilt_nat,inL_nat,natOf_nat,hi,decide_true,br_true,e3,rd_at' (e:=tOp) hi,he,hg,bnd_some]
    exact br_tot (br_tot (br_tot (some_tot _) ih) (br_tot (some_tot _) ih)) ih
   ·simp only [z17.l8_eq,ilt_nat,Nat.lt_irrefl,decide_false,br_false]
    exact some_tot _
  have bt:bnot true=false:=rfl
  rw [bt]
  simp only [br_false]
  have all:Tot (br (ilt t.2.1 0) (some (2:Int)) (br (ilt 7 t.2.1) (some 2) (br (ilt t.2.2.1 1) (some 2) (br (ilt 1099511627776 t.2.2.1) (some 2) (br (ieq (ilen t.2.2.2.2) 0) (some 11) (br (ilt 16 (ilen t.2.2.2.2)) (some 7) (z17.l8 k k 0 t))))))):=by
   repeat' first | exact some_tot _ | exact this | apply br_tot
  obtain ⟨e,he⟩:=all
  exact ⟨e,he,fun _=>trivial⟩
end Go.Proofs.YtggcagclpkhlhaaGreatDoor
end
