/- The functions that the statement reaches, and what they come to. Part 2. -/
import Derived.Lib.DecodeN
import Derived.Test.YtggcagclpkhlhaaGreatDoorFw1
import Derived.Test.YtggcagclpkhlhaaGreatDoorFw2
import Derived.Test.YtggcagclpkhlhaaGreatDoorFw3
import Derived.Test.YtggcagclpkhlhaaGreatDoorMessageFinds1
set_option linter.unusedVariables false
set_option linter.unusedSimpArgs false
set_option linter.unusedSectionVars false
noncomputable section
/- The program's functions, as plain equations. -/
namespace Go.Proofs.YtggcagclpkhlhaaGreatDoor
open Pal
set_option maxRecDepth 100000
def z0j.body:Go.Code:=Tryz.f28.body.getD .skip
def z0j.rs:List Go.ResultVar:=Tryz.f28.results.toList
def z0j.regs:List (Nat × RInfo):=[(0,ri [0] [1000000]),(1,ri [0,11] [1000000]),(2,ri [2] [1000000]),(3,ri [0,3,4] [1000000]),(4,ri [0,3,4,5] [1000000]),(5,⟨[0,3,4,5,13],[1000000],[],[],0,[0,3,4,5],[1000000],[],[],[]⟩),(7,rq [0,3,4,5,27] [1000000] 12),(8,ri [] [1000000]),(9,ri [2] [1000000]),(10,rq [0,3,4,5,6] [1000000] 12),(11,ri [0,3,4,5,6,44] [1000000]),(12,ri [0,3,4,5,6,50] [1000000]),(13,ri [] [1000000]),(14,ri [2] [1000000]),(15,ri [3,4,6] [1000000]),(16,ri [2] [1000000]),(17,ri [0,3,4,5] [1000000]),(18,ri [0,3,4,5] [1000000]),(6,ri [0,3,4,5] [1000000]),(19,ri [] [1000000]),(20,ri [2] [1000000])]
def z0j.cx (k:Nat):Cx:=⟨tt,pp,[],z0j.regs,k,mm⟩
@[reducible] def z0j.sg:Sg:=⟨[.ref],[tref02Reader],.dat (.int .i64),[tref02Reader]⟩
def z0j.f (k:Nat) (o0:Ty.D tref02Reader):Option (Sg.Out z0j.sg):=Sg.fn z0j.sg (z0j.cx k) z0j.body z0j.rs o0
def z0j.l5 (k:Nat) (n:Nat) (x3:Ty.D (.int .i64)) (x4:Ty.D (.int .i64)) (x5:Ty.D (.int .i64)) (m1000000:Ty.D tref02Reader):Option (Sg.Out z0j.sg):=loopAt (z0j.cx k) z0j.body [1,1,1,0,1,0] 5 [0,3,4,5] [1000000] [] (Sg.K z0j.sg (z0j.cx k) z0j.rs) n ⟨[(0,.ref 1000000 []),(3,.dat (.int .i64) x3),(4,.dat (.int .i64) x4),(5,.dat (.int .i64) x5)],[(1000000,.dat tref02Reader m1000000)]⟩
theorem z0j.f_eq (k:Nat) (o0:Ty.D tref02Reader):z0j.f k o0=br (bnot (ieq o0.2.2 0)) (some (0,o0)) (z0j.l5 k k 0 1 0 o0):=by kernel_rfl
theorem z0j.l5_eq (k:Nat) (n5:Nat) (x3:Ty.D (.int .i64)) (x4:Ty.D (.int .i64)) (x5:Ty.D (.int .i64)) (m1000000:Ty.D tref02Reader):z0j.l5 k (n5+1) x3 x4 x5 m1000000=br (ilt x5 8) (br (ile (ilen m1000000.1) (iadd .i64 m1000000.2.1 x5)) (some (0,(m1000000.1,(m1000000.2.1,4)))) (br (inL (iadd .i64 m1000000.2.1 x5) m1000000.1) (br (ilt (iwrap .i64 (byteAt m1000000.1 (iadd .i64 m1000000.2.1 x5))) 128) (br (ieq (iwrap .i64 (byteAt m1000000.1 (iadd .i64 m1000000.2.1 x5))) 0) (br (ilt 0 x5) (some (0,(m1000000.1,(m1000000.2.1,3)))) (some ((iadd .i64 x3 (imul .i64 (iwrap .i64 (byteAt m1000000.1 (iadd .i64 m1000000.2.1 x5))) x4)),(m1000000.1,((iadd .i64 (iadd .i64 m1000000.2.1 x5) 1),m1000000.2.2))))) (some ((iadd .i64 x3 (imul .i64 (iwrap .i64 (byteAt m1000000.1 (iadd .i64 m1000000.2.1 x5))) x4)),(m1000000.1,((iadd .i64 (iadd .i64 m1000000.2.1 x5) 1),m1000000.2.2))))) (z0j.l5 k n5 (iadd .i64 x3 (imul .i64 (isub .i64 (iwrap .i64 (byteAt m1000000.1 (iadd .i64 m1000000.2.1 x5))) 128) x4)) (imul .i64 x4 128) (iadd .i64 x5 1) m1000000)) none)) (some (0,(m1000000.1,(m1000000.2.1,6)))):=by kernel_rfl
def z0j.e (k:Nat):Entry:=Sg.entry z0j.sg fun x=>z0j.f k x
theorem z0j.ok (k:Nat):CallOK Tryz.prog 28 (z0j.e k):=fn_ok (c:=z0j.cx k) (code:=z0j.body) (TT.of tt_ok pp_ok mm_ok) (fns_ok trivial) mixed Tryz.func28 (by kernel_rfl) (by kernel_rfl) (by kernel_rfl) (by kernel_rfl) (by kernel_rfl) (by kernel_rfl) (fun x=>by kernel_rfl)
def z0P.body:Go.Code:=Tryz.f77.body.getD .skip
def z0P.rs:List Go.ResultVar:=Tryz.f77.results.toList
def z0P.regs:List (Nat × RInfo):=[(0,ri [1] [1]),(1,ri [2] [])]
def z0P.cx (k:Nat):Cx:=⟨tt,pp,[],z0P.regs,k,mm⟩
@[reducible] def z0P.sg:Sg:=⟨[.dat tDot],[],.dat .bool,[]⟩
def z0P.f (k:Nat) (a0:Ty.D tDot):Option (Sg.Out z0P.sg):=Sg.fn z0P.sg (z0P.cx k) z0P.body z0P.rs a0
theorem z0P.f_eq (k:Nat) (a0:Ty.D tDot):z0P.f k a0=br (ile 0 a0.1) (br (ile a0.1 15) (br (ile 1 a0.2) (some (ile a0.2 1048576)) (some false)) (some false)) (some false):=by kernel_rfl
def z0P.e (k:Nat):Entry:=Sg.entry z0P.sg fun x=>z0P.f k x
theorem z0P.ok (k:Nat):CallOK Tryz.prog 77 (z0P.e k):=fn_ok (c:=z0P.cx k) (code:=z0P.body) (TT.of tt_ok pp_ok mm_ok) (fns_ok trivial) mixed Tryz.func77 (by kernel_rfl) (by kernel_rfl) (by kernel_rfl) (by kernel_rfl) (by kernel_rfl) (by kernel_rfl) (fun x=>by kernel_rfl)
@[reducible] def ref04_Read.sg:Sg:=⟨[.ref],[tref02Reader],.dat tDot,[tref02Reader]⟩
@[reducible] def ref02_Reader_Fail.sg:Sg:=⟨[.ref,.dat (.int .i64)],[tref02Reader],.unit,[tref02Reader]⟩
@[reducible] def ref02_Reader_Many.sg:Sg:=⟨[.ref,.dat (.int .i64)],[tref02Reader],.dat (.int .i64),[tref02Reader]⟩
@[reducible] def ref02_Reader_Text.sg:Sg:=⟨[.ref],[tref02Reader],.dat .str,[tref02Reader]⟩
def z1r.body:Go.Code:=Tryz.f244.body.getD .skip
def z1r.rs:List Go.ResultVar:=Tryz.f244.results.toList
def z1r.regs:List (Nat × RInfo):=[(0,ri [0] []),(1,ri [0,10] []),(2,ri [2,3] []),(3,ri [0,4] []),(4,ri [0,4] []),(6,ri [0,4,14] []),(7,ri [2,3] []),(8,ri [0,4,18] []),(9,ri [0,4,5,6] []),(10,ri [0,4,27] []),(11,ri [0,4,5,6] []),(12,ri [0,4,36] []),(13,ri [0,4,5,6] []),(5,ri [2,3] []),(14,ri [0,4,5,6,48] []),(15,ri [2,3] []),(16,ri [0,4,5,6,7] []),(17,⟨[0,4,5,6,7,51],[],[],[],0,[0,4,5,6,7],[],[],[],[]⟩),(19,ri [0,4,5,6,7,63] []),(20,ri [2,3] []),(21,ri [0,4,5,6,7] []),(18,ri [0,4,5,6,7] []),(22,ri [4,5,86] []),(23,ri [2,3] []),(24,ri [2,3] [])]
def z1r.cx (k:Nat):Cx:=⟨tt,pp,[],z1r.regs,k,mm⟩
@[reducible] def z1r.sg:Sg:=⟨[.dat .str],[],.t2 (.dat (.int .i64)) (.dat (.int .i64)),[]⟩
def z1r.f (k:Nat) (a0:Ty.D .str):Option (Sg.Out z1r.sg):=Sg.fn z1r.sg (z1r.cx k) z1r.body z1r.rs a0
def z1r.l17 (k:Nat) (n:Nat) (x0:Ty.D .str) (x4:Ty.D (.int .i64)) (x5:Ty.D (.int .i64)) (x6:Ty.D (.int .i64)) (x7:Ty.D (.int .i64)):Option (Sg.Out z1r.sg):=loopAt (z1r.cx k) z1r.body [1,1,1,1,1,1,0,1,0] 17 [0,4,5,6,7] [] [] (Sg.K z1r.sg (z1r.cx k) z1r.rs) n ⟨[(0,.dat .str x0),(4,.dat (.int .i64) x4),(5,.dat (.int .i64) x5),(6,.dat (.int .i64) x6),(7,.dat (.int .i64) x7)],[]⟩
theorem z1r.f_eq (k:Nat) (a0:Ty.D .str):z1r.f k a0=br (ieq (ilen a0) 0) (some (0,0)) (br (inL 0 a0) (br (ilt (iwrap .i64 (byteAt a0 0)) 128) (some ((iwrap .i64 (byteAt a0 0)),1)) (br (ile 194 (iwrap .i64 (byteAt a0 0))) (br (ilt (iwrap .i64 (byteAt a0 0)) 224) (br (ilt (ilen a0) 2) (some (0,0)) (z1r.l17 k k a0 (isub .i64 (iwrap .i64 (byteAt a0 0)) 192) 2 128 1)) (br (ile 224 (iwrap .i64 (byteAt a0 0))) (br (ilt (iwrap .i64 (byteAt a0 0)) 240) (br (ilt (ilen a0) 3) (some (0,0)) (z1r.l17 k k a0 (isub .i64 (iwrap .i64 (byteAt a0 0)) 224) 3 2048 1)) (br (ile 240 (iwrap .i64 (byteAt a0 0))) (br (ilt (iwrap .i64 (byteAt a0 0)) 245) (br (ilt (ilen a0) 4) (some (0,0)) (z1r.l17 k k a0 (isub .i64 (iwrap .i64 (byteAt a0 0)) 240) 4 65536 1)) (some (0,0))) (some (0,0)))) (br (ile 240 (iwrap .i64 (byteAt a0 0))) (br (ilt (iwrap .i64 (byteAt a0 0)) 245) (br (ilt (ilen a0) 4) (some (0,0)) (z1r.l17 k k a0 (isub .i64 (iwrap .i64 (byteAt a0 0)) 240) 4 65536 1)) (some (0,0))) (some (0,0))))) (br (ile 224 (iwrap .i64 (byteAt a0 0))) (br (ilt (iwrap .i64 (byteAt a0 0)) 240) (br (ilt (ilen a0) 3) (some (0,0)) (z1r.l17 k k a0 (isub .i64 (iwrap .i64 (byteAt a0 0)) 224) 3 2048 1)) (br (ile 240 (iwrap .i64 (byteAt a0 0))) (br (ilt (iwrap .i64 (byteAt a0 0)) 245) (br (ilt (ilen a0) 4) (some (0,0)) (z1r.l17 k k a0 (isub .i64 (iwrap .i64 (byteAt a0 0)) 240) 4 65536 1)) (some (0,0))) (some (0,0)))) (br (ile 240 (iwrap .i64 (byteAt a0 0))) (br (ilt (iwrap .i64 (byteAt a0 0)) 245) (br (ilt (ilen a0) 4) (some (0,0)) (z1r.l17 k k a0 (isub .i64 (iwrap .i64 (byteAt a0 0)) 240) 4 65536 1)) (some (0,0))) (some (0,0)))))) none):=by kernel_rfl
theorem z1r.l17_eq (k:Nat) (n17:Nat) (x0:Ty.D .str) (x4:Ty.D (.int .i64)) (x5:Ty.D (.int .i64)) (x6:Ty.D (.int .i64)) (x7:Ty.D (.int .i64)):z1r.l17 k (n17+1) x0 x4 x5 x6 x7=br (ilt x7 x5) (br (inL x7 x0) (br (ilt (byteAt x0 x7) 128) (some (0,0)) (br (inL x7 x0) (br (ilt 191 (byteAt x0 x7)) (some (0,0)) (br (inL x7 x0) (z1r.l17 k n17 x0 (isub .i64 (iadd .i64 (imul .i64 64 x4) (iwrap .i64 (byteAt x0 x7))) 128) x5 x6 (iadd .i64 x7 1)) none)) none)) none) (br (ilt x4 x6) (some (0,0)) (br (ilt 1114111 x4) (some (0,0)) (br (ile 55296 x4) (br (ile x4 57343) (some (0,0)) (some (x4,x5))) (some (x4,x5))))):=by kernel_rfl
def z1r.e (k:Nat):Entry:=Sg.entry z1r.sg fun x=>z1r.f k x
theorem z1r.ok (k:Nat):CallOK Tryz.prog 244 (z1r.e k):=fn_ok (c:=z1r.cx k) (code:=z1r.body) (TT.of tt_ok pp_ok mm_ok) (fns_ok trivial) mixed Tryz.func244 (by kernel_rfl) (by kernel_rfl) (by kernel_rfl) (by kernel_rfl) (by kernel_rfl) (by kernel_rfl) (fun x=>by kernel_rfl)
def z0T.body:Go.Code:=Tryz.f219.body.getD .skip
def z0T.rs:List Go.ResultVar:=Tryz.f219.results.toList
def z0T.regs:List (Nat × RInfo):=[(0,ri [0] []),(1,ri [0,4] []),(2,ri [0,4,5] []),(3,⟨[0,4,5,11],[],[],[],0,[0,4,5],[],[],[],[]⟩),(4,ri [0,4,5,6,7] [16]),(5,ri [0,4,5,6,7,20] [16]),(6,ri [2,3] []),(7,⟨[0,4,5,7],[16],[0,3,4],[],0,[],[],[],[],[]⟩),(8,ri [0,4,5] []),(9,⟨[2,3],[],[0,1],[],0,[],[],[],[],[]⟩)]
def z0T.cx (k:Nat):Cx:=⟨tt,pp,[(244,(z1r.e k))],z0T.regs,k,mm⟩
@[reducible] def z0T.sg:Sg:=⟨[.dat .str],[],.t2 (.dat (.slc (.int .i64))) (.dat .bool),[]⟩
def z0T.f (k:Nat) (a0:Ty.D .str):Option (Sg.Out z0T.sg):=Sg.fn z0T.sg (z0T.cx k) z0T.body z0T.rs a0
def z0T.l3 (k:Nat) (n:Nat) (x0:Ty.D .str) (x4:List (Ty.D (.int .i64))) (x5:Ty.D (.int .i64)):Option (Sg.Out z0T.sg):=loopAt (z0T.cx k) z0T.body [1,1,0,1,0] 3 [0,4,5] [] [] (Sg.K z0T.sg (z0T.cx k) z0T.rs) n ⟨[(0,.dat .str x0),(4,.own (.int .i64) x4),(5,.dat (.int .i64) x5)],[]⟩
theorem z0T.f_eq (k:Nat) (a0:Ty.D .str):z0T.f k a0=z0T.l3 k k a0 [] 0:=by kernel_rfl
theorem z0T.l3_eq (k:Nat) (n3:Nat) (x0:Ty.D .str) (x4:List (Ty.D (.int .i64))) (x5:Ty.D (.int .i64)):z0T.l3 k (n3+1) x0 x4 x5=br (ilt x5 (ilen x0)) (br (inS x5 (ilen x0) (ilen x0)) (bnd (z1r.f k (piece x0 x5 (ilen x0))) fun r0=>br (ieq r0.2 0) (some ([],false)) (br (room x4 (r0.1::[])) (z0T.l3 k n3 x0 (app x4 (r0.1::[])) (iadd .i64 x5 r0.2)) none)) none) (some (x4,true)):=by kernel_rfl
def z0T.e (k:Nat):Entry:=Sg.entry z0T.sg fun x=>z0T.f k x
theorem z0T.ok (k:Nat):CallOK Tryz.prog 219 (z0T.e k):=fn_ok (c:=z0T.cx k) (code:=z0T.body) (TT.of tt_ok pp_ok mm_ok) (fns_ok ⟨(z1r.ok k),trivial⟩) mixed Tryz.func219 (by kernel_rfl) (by kernel_rfl) (by kernel_rfl) (by kernel_rfl) (by kernel_rfl) (by kernel_rfl) (fun x=>by kernel_rfl)
def z1N.body:Go.Code:=Tryz.f243.body.getD .skip
def z1N.rs:List Go.ResultVar:=Tryz.f243.results.toList
def z1N.regs:List (Nat × RInfo):=[(0,ri [0] []),(1,ri [2] [])]
def z1N.cx (k:Nat):Cx:=⟨tt,pp,[],z1N.regs,k,mm⟩
@[reducible] def z1N.sg:Sg:=⟨[.dat (.int .i64)],[],.dat .bool,[]⟩
def z1N.f (k:Nat) (a0:Ty.D (.int .i64)):Option (Sg.Out z1N.sg):=Sg.fn z1N.sg (z1N.cx k) z1N.body z1N.rs a0
theorem z1N.f_eq (k:Nat) (a0:Ty.D (.int .i64)):z1N.f k a0=br (ile 32 a0) (br (ilt a0 127) (some (bnot (ieq a0 65533))) (br (ilt 159 a0) (some (bnot (ieq a0 65533))) (some false))) (some false):=by kernel_rfl
def z1N.e (k:Nat):Entry:=Sg.entry z1N.sg fun x=>z1N.f k x
theorem z1N.ok (k:Nat):CallOK Tryz.prog 243 (z1N.e k):=fn_ok (c:=z1N.cx k) (code:=z1N.body) (TT.of tt_ok pp_ok mm_ok) (fns_ok trivial) mixed Tryz.func243 (by kernel_rfl) (by kernel_rfl) (by kernel_rfl) (by kernel_rfl) (by kernel_rfl) (by kernel_rfl) (fun x=>by kernel_rfl)
def z0O.body:Go.Code:=Tryz.f218.body.getD .skip
def z0O.rs:List Go.ResultVar:=Tryz.f218.results.toList
def z0O.regs:List (Nat × RInfo):=[(0,ri [0] []),(1,⟨[3,4],[8],[5],[],0,[],[],[],[],[]⟩),(2,ri [3,4,5] [8]),(3,⟨[3,4,5,14],[8],[],[],0,[3,4,5],[8],[],[],[]⟩),(5,ri [3,4,5,22] [8]),(6,ri [2] [8]),(4,ri [3,4,5] [8]),(7,ri [2] [8])]
def z0O.cx (k:Nat):Cx:=⟨tt,pp,[(219,(z0T.e k)),(243,(z1N.e k))],z0O.regs,k,mm⟩
@[reducible] def z0O.sg:Sg:=⟨[.dat .str],[],.dat .bool,[]⟩
def z0O.f (k:Nat) (a0:Ty.D .str):Option (Sg.Out z0O.sg):=Sg.fn z0O.sg (z0O.cx k) z0O.body z0O.rs a0
def z0O.l3 (k:Nat) (n:Nat) (x3:Ty.D (.slc (.int .i64))) (x4:Ty.D .bool) (x5:Ty.D (.int .i64)):Option (Sg.Out z0O.sg):=loopAt (z0O.cx k) z0O.body [1,1,0,1,0] 3 [3,4,5] [8] [] (Sg.K z0O.sg (z0O.cx k) z0O.rs) n ⟨[(3,.dat (.slc (.int .i64)) x3),(4,.dat .bool x4),(5,.dat (.int .i64) x5)],[]⟩
theorem z0O.f_eq (k:Nat) (a0:Ty.D .str):z0O.f k a0=bnd (z0T.f k a0) fun r0=>z0O.l3 k k r0.1 r0.2 0:=by kernel_rfl
theorem z0O.l3_eq (k:Nat) (n3:Nat) (x3:Ty.D (.slc (.int .i64))) (x4:Ty.D .bool) (x5:Ty.D (.int .i64)):z0O.l3 k (n3+1) x3 x4 x5=br (ilt x5 (ilen x3)) (br (inL x5 x3) (bnd (z1N.f k (rd (.int .i64) x3 (natOf x5))) fun r0=>br (bnot r0) (some false) (z0O.l3 k n3 x3 x4 (iadd .i64 x5 1))) none) (br x4 (br (ile 1 (ilen x3)) (some (ile (ilen x3) 24)) (some false)) (some false)):=by kernel_rfl
def z0O.e (k:Nat):Entry:=Sg.entry z0O.sg fun x=>z0O.f k x
theorem z0O.ok (k:Nat):CallOK Tryz.prog 218 (z0O.e k):=fn_ok (c:=z0O.cx k) (code:=z0O.body) (TT.of tt_ok pp_ok mm_ok) (fns_ok ⟨(z0T.ok k),(z1N.ok k),trivial⟩) mixed Tryz.func218 (by kernel_rfl) (by kernel_rfl) (by kernel_rfl) (by kernel_rfl) (by kernel_rfl) (by kernel_rfl) (fun x=>by kernel_rfl)
def z12.body:Go.Code:=Tryz.f168.body.getD .skip
def z12.rs:List Go.ResultVar:=Tryz.f168.results.toList
def z12.regs:List (Nat × RInfo):=[(0,ri [0] []),(1,ri [0,6] []),(2,ri [2] []),(3,ri [0,9] []),(4,ri [2] []),(5,ri [0,3] []),(6,⟨[0,3,13],[],[],[],0,[0,3],[],[],[],[]⟩),(8,ri [0,3,21] []),(9,ri [2] []),(7,ri [0,3] []),(10,ri [2] [])]
def z12.cx (k:Nat):Cx:=⟨tt,pp,[(218,(z0O.e k))],z12.regs,k,mm⟩
@[reducible] def z12.sg:Sg:=⟨[.dat (.slc .str)],[],.dat (.int .i64),[]⟩
def z12.f (k:Nat) (a0:Ty.D (.slc .str)):Option (Sg.Out z12.sg):=Sg.fn z12.sg (z12.cx k) z12.body z12.rs a0
def z12.l6 (k:Nat) (n:Nat) (x0:Ty.D (.slc .str)) (x3:Ty.D (.int .i64)):Option (Sg.Out z12.sg):=loopAt (z12.cx k) z12.body [1,1,1,0,1,0] 6 [0,3] [] [] (Sg.K z12.sg (z12.cx k) z12.rs) n ⟨[(0,.dat (.slc .str) x0),(3,.dat (.int .i64) x3)],[]⟩
theorem z12.f_eq (k:Nat) (a0:Ty.D (.slc .str)):z12.f k a0=br (ieq (ilen a0) 0) (some 8) (br (ilt 8 (ilen a0)) (some 9) (z12.l6 k k a0 0)):=by kernel_rfl
theorem z12.l6_eq (k:Nat) (n6:Nat) (x0:Ty.D (.slc .str)) (x3:Ty.D (.int .i64)):z12.l6 k (n6+1) x0 x3=br (ilt x3 (ilen x0)) (br (inL x3 x0) (bnd (z0O.f k (rd .str x0 (natOf x3))) fun r0=>br (bnot r0) (some 8) (z12.l6 k n6 x0 (iadd .i64 x3 1))) none) (some 0):=by kernel_rfl
def z12.e (k:Nat):Entry:=Sg.entry z12.sg fun x=>z12.f k x
theorem z12.ok (k:Nat):CallOK Tryz.prog 168 (z12.e k):=fn_ok (c:=z12.cx k) (code:=z12.body) (TT.of tt_ok pp_ok mm_ok) (fns_ok ⟨(z0O.ok k),trivial⟩) mixed Tryz.func168 (by kernel_rfl) (by kernel_rfl) (by kernel_rfl) (by kernel_rfl) (by kernel_rfl) (by kernel_rfl) (fun x=>by kernel_rfl)
@[reducible] def ref10_Read.sg:Sg:=⟨[.ref],[tref02Reader],.own .str,[tref02Reader]⟩
def z0F.body:Go.Code:=Tryz.f214.body.getD .skip
def z0F.rs:List Go.ResultVar:=Tryz.f214.results.toList
def z0F.regs:List (Nat × RInfo):=[(0,ri [0] []),(1,ri [0,5] []),(2,ri [2] []),(3,ri [2] [])]
def z0F.cx (k:Nat):Cx:=⟨tt,pp,[],z0F.regs,k,mm⟩
@[reducible] def z0F.sg:Sg:=⟨[.dat (.int .i64)],[],.dat (.int .i64),[]⟩
def z0F.f (k:Nat) (a0:Ty.D (.int .i64)):Option (Sg.Out z0F.sg):=Sg.fn z0F.sg (z0F.cx k) z0F.body z0F.rs a0
theorem z0F.f_eq (k:Nat) (a0:Ty.D (.int .i64)):z0F.f k a0=br (ieq (irem a0 2) 0) (some (iquo .i64 a0 2)) (some (isub .i64 (isub .i64 0 (iquo .i64 a0 2)) 1)):=by kernel_rfl
def z15.body:Go.Code:=Tryz.f169.body.getD .skip
def z15.rs:List Go.ResultVar:=Tryz.f169.results.toList
def z15.regs:List (Nat × RInfo):=[(0,ri [1] [1]),(1,ri [1,7] [1]),(2,ri [2] [27]),(3,ri [1,23] [1]),(4,⟨[1,4],[1,27],[6],[],0,[],[],[],[],[]⟩),(5,ri [2] [27]),(6,ri [2] [27])]
def z15.cx (k:Nat):Cx:=⟨tt,pp,[(219,(z0T.e k))],z15.regs,k,mm⟩
@[reducible] def z15.sg:Sg:=⟨[.dat tValue],[],.dat .bool,[]⟩
def z15.f (k:Nat) (a0:Ty.D tValue):Option (Sg.Out z15.sg):=Sg.fn z15.sg (z15.cx k) z15.body z15.rs a0
theorem z15.f_eq (k:Nat) (a0:Ty.D tValue):z15.f k a0=br (ieq a0.1 1) (br (seq a0.2.2 []) (br (ile (-2147483647) a0.2.1) (some (ile a0.2.1 2147483647)) (some false)) (some false)) (br (ieq a0.1 2) (bnd (z0T.f k a0.2.2) fun r0=>br (ieq a0.2.1 0) (br r0.2 (some (ile (ilen a0.2.2) 64)) (some false)) (some false)) (br (ieq a0.1 3) (br (seq a0.2.2 []) (br (ile 0 a0.2.1) (some (ile a0.2.1 1)) (some false)) (some false)) (some false))):=by kernel_rfl
def z15.e (k:Nat):Entry:=Sg.entry z15.sg fun x=>z15.f k x
theorem z15.ok (k:Nat):CallOK Tryz.prog 169 (z15.e k):=fn_ok (c:=z15.cx k) (code:=z15.body) (TT.of tt_ok pp_ok mm_ok) (fns_ok ⟨(z0T.ok k),trivial⟩) mixed Tryz.func169 (by kernel_rfl) (by kernel_rfl) (by kernel_rfl) (by kernel_rfl) (by kernel_rfl) (by kernel_rfl) (fun x=>by kernel_rfl)
@[reducible] def ref09_Read.sg:Sg:=⟨[.ref],[tref02Reader],.dat tValue,[tref02Reader]⟩
def z1n.body:Go.Code:=Tryz.f171.body.getD .skip
def z1n.rs:List Go.ResultVar:=Tryz.f171.results.toList
def z1n.regs:List (Nat × RInfo):=[(0,ri [0,1] []),(1,ri [0,1,7] []),(2,ri [4] []),(3,ri [10] []),(4,ri [4] []),(5,ri [4] [])]
def z1n.cx (k:Nat):Cx:=⟨tt,pp,[],z1n.regs,k,mm⟩
@[reducible] def z1n.sg:Sg:=⟨[.dat (.int .i64),.dat (.int .i64)],[],.dat (.int .i64),[]⟩
def z1n.f (k:Nat) (a0:Ty.D (.int .i64)) (a1:Ty.D (.int .i64)):Option (Sg.Out z1n.sg):=Sg.fn z1n.sg (z1n.cx k) z1n.body z1n.rs (a0,a1)
theorem z1n.f_eq (k:Nat) (a0:Ty.D (.int .i64)) (a1:Ty.D (.int .i64)):z1n.f k a0 a1=br (ilt a0 a1) (some (-1)) (br (ilt a1 a0) (some 1) (some 0)):=by kernel_rfl
def z1n.e (k:Nat):Entry:=Sg.entry z1n.sg fun x=>z1n.f k x.1 x.2
theorem z1n.ok (k:Nat):CallOK Tryz.prog 171 (z1n.e k):=fn_ok (c:=z1n.cx k) (code:=z1n.body) (TT.of tt_ok pp_ok mm_ok) (fns_ok trivial) mixed Tryz.func171 (by kernel_rfl) (by kernel_rfl) (by kernel_rfl) (by kernel_rfl) (by kernel_rfl) (by kernel_rfl) (fun x=>by kernel_rfl)
def z0y.body:Go.Code:=Tryz.f118.body.getD .skip
def z0y.rs:List Go.ResultVar:=Tryz.f118.results.toList
def z0y.regs:List (Nat × RInfo):=[(0,ri [2,3] [2,3]),(1,ri [2,3,9] [2,3]),(2,ri [4] [14,19]),(3,ri [4] [14,19])]
def z0y.cx (k:Nat):Cx:=⟨tt,pp,[(171,(z1n.e k))],z0y.regs,k,mm⟩
@[reducible] def z0y.sg:Sg:=⟨[.dat tDot,.dat tDot],[],.dat (.int .i64),[]⟩
def z0y.f (k:Nat) (a0:Ty.D tDot) (a1:Ty.D tDot):Option (Sg.Out z0y.sg):=Sg.fn z0y.sg (z0y.cx k) z0y.body z0y.rs (a0,a1)
theorem z0y.f_eq (k:Nat) (a0:Ty.D tDot) (a1:Ty.D tDot):z0y.f k a0 a1=br (bnot (ieq a0.1 a1.1)) (bnd (z1n.f k a0.1 a1.1) fun r0=>some r0) (bnd (z1n.f k a0.2 a1.2) fun r1=>some r1):=by kernel_rfl
def z0y.e (k:Nat):Entry:=Sg.entry z0y.sg fun x=>z0y.f k x.1 x.2
theorem z0y.ok (k:Nat):CallOK Tryz.prog 118 (z0y.e k):=fn_ok (c:=z0y.cx k) (code:=z0y.body) (TT.of tt_ok pp_ok mm_ok) (fns_ok ⟨(z1n.ok k),trivial⟩) mixed Tryz.func118 (by kernel_rfl) (by kernel_rfl) (by kernel_rfl) (by kernel_rfl) (by kernel_rfl) (by kernel_rfl) (fun x=>by kernel_rfl)
def z1B.body:Go.Code:=Tryz.f220.body.getD .skip
def z1B.rs:List Go.ResultVar:=Tryz.f220.results.toList
def z1B.regs:List (Nat × RInfo):=[(0,ri [2,3] [2,3]),(1,ri [2,3,10] [2,3]),(2,ri [4] [15,20]),(3,ri [4] [15,20])]
def z1B.cx (k:Nat):Cx:=⟨tt,pp,[(118,(z0y.e k)),(171,(z1n.e k))],z1B.regs,k,mm⟩
@[reducible] def z1B.sg:Sg:=⟨[.dat tUndo,.dat tUndo],[],.dat (.int .i64),[]⟩
def z1B.f (k:Nat) (a0:Ty.D tUndo) (a1:Ty.D tUndo):Option (Sg.Out z1B.sg):=Sg.fn z1B.sg (z1B.cx k) z1B.body z1B.rs (a0,a1)
theorem z1B.f_eq (k:Nat) (a0:Ty.D tUndo) (a1:Ty.D tUndo):z1B.f k a0 a1=bnd (z0y.f k a0.1 a1.1) fun r0=>br (bnot (ieq r0 0)) (bnd (z0y.f k a0.1 a1.1) fun r1=>some r1) (bnd (z1n.f k a0.2 a1.2) fun r2=>some r2):=by kernel_rfl
def z1B.e (k:Nat):Entry:=Sg.entry z1B.sg fun x=>z1B.f k x.1 x.2
theorem z1B.ok (k:Nat):CallOK Tryz.prog 220 (z1B.e k):=fn_ok (c:=z1B.cx k) (code:=z1B.body) (TT.of tt_ok pp_ok mm_ok) (fns_ok ⟨(z0y.ok k),(z1n.ok k),trivial⟩) mixed Tryz.func220 (by kernel_rfl) (by kernel_rfl) (by kernel_rfl) (by kernel_rfl) (by kernel_rfl) (by kernel_rfl) (fun x=>by kernel_rfl)
def z1o.body:Go.Code:=Tryz.f170.body.getD .skip
def z1o.rs:List Go.ResultVar:=Tryz.f170.results.toList
def z1o.regs:List (Nat × RInfo):=[(0,ri [0] []),(1,ri [0,3] []),(2,⟨[0,3,7],[],[],[],0,[0,3],[],[],[],[]⟩),(4,ri [0,3,32] []),(5,ri [2] []),(6,rq [0,3,47] [] 15),(7,ri [2] []),(3,ri [0,3] []),(8,ri [2] [])]
def z1o.cx (k:Nat):Cx:=⟨tt,pp,[(77,(z0P.e k)),(220,(z1B.e k))],z1o.regs,k,mm⟩
@[reducible] def z1o.sg:Sg:=⟨[.dat (.slc tUndo)],[],.dat .bool,[]⟩
def z1o.f (k:Nat) (a0:Ty.D (.slc tUndo)):Option (Sg.Out z1o.sg):=Sg.fn z1o.sg (z1o.cx k) z1o.body z1o.rs a0
def z1o.l2 (k:Nat) (n:Nat) (x0:Ty.D (.slc tUndo)) (x3:Ty.D (.int .i64)):Option (Sg.Out z1o.sg):=loopAt (z1o.cx k) z1o.body [1,0,1,0] 2 [0,3] [] [] (Sg.K z1o.sg (z1o.cx k) z1o.rs) n ⟨[(0,.dat (.slc tUndo) x0),(3,.dat (.int .i64) x3)],[]⟩
theorem z1o.f_eq (k:Nat) (a0:Ty.D (.slc tUndo)):z1o.f k a0=z1o.l2 k k a0 0:=by kernel_rfl
theorem z1o.l2_eq (k:Nat) (n2:Nat) (x0:Ty.D (.slc tUndo)) (x3:Ty.D (.int .i64)):z1o.l2 k (n2+1) x0 x3=br (ilt x3 (ilen x0)) (br (inL x3 x0) (bnd (z0P.f k ((rd tUndo x0 (natOf x3)).1)) fun r0=>br (bnot r0) (some false) (br (inL x3 x0) (br (ilt ((rd tUndo x0 (natOf x3)).2) 0) (some false) (br (inL x3 x0) (br (ilt 15 ((rd tUndo x0 (natOf x3)).2)) (some false) (br (ilt 0 x3) (br (inL (isub .i64 x3 1) x0) (br (inL x3 x0) (bnd (z1B.f k (rd tUndo x0 (natOf (isub .i64 x3 1))) (rd tUndo x0 (natOf x3))) fun r1=>br (bnot (ieq r1 (-1))) (some false) (z1o.l2 k n2 x0 (iadd .i64 x3 1))) none) none) (z1o.l2 k n2 x0 (iadd .i64 x3 1)))) none)) none)) none) (some true):=by kernel_rfl
def z1o.e (k:Nat):Entry:=Sg.entry z1o.sg fun x=>z1o.f k x
theorem z1o.ok (k:Nat):CallOK Tryz.prog 170 (z1o.e k):=fn_ok (c:=z1o.cx k) (code:=z1o.body) (TT.of tt_ok pp_ok mm_ok) (fns_ok ⟨(z0P.ok k),(z1B.ok k),trivial⟩) mixed Tryz.func170 (by kernel_rfl) (by kernel_rfl) (by kernel_rfl) (by kernel_rfl) (by kernel_rfl) (by kernel_rfl) (fun x=>by kernel_rfl)
def z16.body:Go.Code:=Tryz.f115.body.getD .skip
def z16.rs:List Go.ResultVar:=Tryz.f115.results.toList
def z16.regs:List (Nat × RInfo):=[(0,⟨[1],[1],[0],[],0,[],[],[],[],[]⟩),(1,ri [1,12] [1]),(2,ri [2] [15]),(3,ri [1,3] [1,15]),(4,ri [1,3,17] [1,15]),(5,ri [2] [15]),(6,ri [1,4] [1,4]),(7,ri [1,33] [1]),(8,ri [2] [15]),(9,ri [1,47] [1]),(10,ri [2] [15]),(11,ri [1,75] [1]),(12,ri [2] [15]),(13,ri [1,89] [1]),(14,ri [2] [15]),(15,ri [1,93] [1]),(16,ri [2] [15]),(17,ri [97] []),(18,ri [2] [15]),(19,ri [2] [15])]
def z16.cx (k:Nat):Cx:=⟨tt,pp,[(168,(z12.e k)),(169,(z15.e k)),(170,(z1o.e k))],z16.regs,k,mm⟩
@[reducible] def z16.sg:Sg:=⟨[.dat tOp],[],.dat (.int .i64),[]⟩
def z16.f (k:Nat) (a0:Ty.D tOp):Option (Sg.Out z16.sg):=Sg.fn z16.sg (z16.cx k) z16.body z16.rs a0
theorem z16.f_eq (k:Nat) (a0:Ty.D tOp):z16.f k a0=br (ilt a0.1 1) (some 18) (br (ilt 5 a0.1) (some 18) (bnd (z12.f k a0.2.1) fun r0=>br (bnot (ieq r0 0)) (some r0) (br (ieq a0.1 3) (br (bnot (deq tValue a0.2.2.1 (0,(0,[])))) (some 2) (br (bnot (ieq a0.1 3)) (br (bnot (ieq a0.1 5)) (bnd (z15.f k a0.2.2.1) fun r1=>br (bnot r1) (some 2) (br (bnot (ieq a0.1 3)) (br (bnot (ieq a0.2.2.2.1 0)) (some 2) (br (ieq a0.1 3) (br (ieq a0.2.2.2.1 0) (some 2) (br (ilt 2147483647 a0.2.2.2.1) (some 2) (br (ilt a0.2.2.2.1 (-2147483647)) (some 2) (br (ieq a0.1 2) (br (ilt 0 (ilen a0.2.2.2.2)) (some 2) (br (ilt 256 (ilen a0.2.2.2.2)) (some 7) (bnd (z1o.f k a0.2.2.2.2) fun r2=>br (bnot r2) (some 2) (some 0)))) (br (ieq a0.1 3) (br (ilt 0 (ilen a0.2.2.2.2)) (some 2) (br (ilt 256 (ilen a0.2.2.2.2)) (some 7) (bnd (z1o.f k a0.2.2.2.2) fun r3=>br (bnot r3) (some 2) (some 0)))) (br (ilt 256 (ilen a0.2.2.2.2)) (some 7) (bnd (z1o.f k a0.2.2.2.2) fun r4=>br (bnot r4) (some 2) (some 0)))))))) (br (ieq a0.1 2) (br (ilt 0 (ilen a0.2.2.2.2)) (some 2) (br (ilt 256 (ilen a0.2.2.2.2)) (some 7) (bnd (z1o.f k a0.2.2.2.2) fun r5=>br (bnot r5) (some 2) (some 0)))) (br (ieq a0.1 3) (br (ilt 0 (ilen a0.2.2.2.2)) (some 2) (br (ilt 256 (ilen a0.2.2.2.2)) (some 7) (bnd (z1o.f k a0.2.2.2.2) fun r6=>br (bnot r6) (some 2) (some 0)))) (br (ilt 256 (ilen a0.2.2.2.2)) (some 7) (bnd (z1o.f k a0.2.2.2.2) fun r7=>br (bnot r7) (some 2) (some 0))))))) (br (ieq a0.1 3) (br (ieq a0.2.2.2.1 0) (some 2) (br (ilt 2147483647 a0.2.2.2.1) (some 2) (br (ilt a0.2.2.2.1 (-2147483647)) (some 2) (br (ieq a0.1 2) (br (ilt 0 (ilen a0.2.2.2.2)) (some 2) (br (ilt 256 (ilen a0.2.2.2.2)) (some 7) (bnd (z1o.f k a0.2.2.2.2) fun r8=>br (bnot r8) (some 2) (some 0)))) (br (ieq a0.1 3) (br (ilt 0 (ilen a0.2.2.2.2)) (some 2) (br (ilt 256 (ilen a0.2.2.2.2)) (some 7) (bnd (z1o.f k a0.2.2.2.2) fun r9=>br (bnot r9) (some 2) (some 0)))) (br (ilt 256 (ilen a0.2.2.2.2)) (some 7) (bnd (z1o.f k a0.2.2.2.2) fun r10=>br (bnot r10) (some 2) (some 0)))))))) (br (ieq a0.1 2) (br (ilt 0 (ilen a0.2.2.2.2)) (some 2) (br (ilt 256 (ilen a0.2.2.2.2)) (some 7) (bnd (z1o.f k a0.2.2.2.2) fun r11=>br (bnot r11) (some 2) (some 0)))) (br (ieq a0.1 3) (br (ilt 0 (ilen a0.2.2.2.2)) (some 2) (br (ilt 256 (ilen a0.2.2.2.2)) (some 7) (bnd (z1o.f k a0.2.2.2.2) fun r12=>br (bnot r12) (some 2) (some 0)))) (br (ilt 256 (ilen a0.2.2.2.2)) (some 7) (bnd (z1o.f k a0.2.2.2.2) fun r13=>br (bnot r13) (some 2) (some 0)))))))) (br (bnot (ieq a0.1 3)) (br (bnot (ieq a0.2.2.2.1 0)) (some 2) (br (ieq a0.1 3) (br (ieq a0.2.2.2.1 0) (some 2) (br (ilt 2147483647 a0.2.2.2.1) (some 2) (br (ilt a0.2.2.2.1 (-2147483647)) (some 2) (br (ieq a0.1 2) (br (ilt 0 (ilen a0.2.2.2.2)) (some 2) (br (ilt 256 (ilen a0.2.2.2.2)) (some 7) (bnd (z1o.f k a0.2.2.2.2) fun r14=>br (bnot r14) (some 2) (some 0)))) (br (ieq a0.1 3) (br (ilt 0 (ilen a0.2.2.2.2)) (some 2) (br (ilt 256 (ilen a0.2.2.2.2)) (some 7) (bnd (z1o.f k a0.2.2.2.2) fun r15=>br (bnot r15) (some 2) (some 0)))) (br (ilt 256 (ilen a0.2.2.2.2)) (some 7) (bnd (z1o.f k a0.2.2.2.2) fun r16=>br (bnot r16) (some 2) (some 0)))))))) (br (ieq a0.1 2) (br (ilt 0 (ilen a0.2.2.2.2)) (some 2) (br (ilt 256 (ilen a0.2.2.2.2)) (some 7) (bnd (z1o.f k a0.2.2.2.2) fun r17=>br (bnot r17) (some 2) (some 0)))) (br (ieq a0.1 3) (br (ilt 0 (ilen a0.2.2.2.2)) (some 2) (br (ilt 256 (ilen a0.2.2.2.2)) (some 7) (bnd (z1o.f k a0.2.2.2.2) fun r18=>br (bnot r18) (some 2) (some 0)))) (br (ilt 256 (ilen a0.2.2.2.2)) (some 7) (bnd (z1o.f k a0.2.2.2.2) fun r19=>br (bnot r19) (some 2) (some 0))))))) (br (ieq a0.1 3) (br (ieq a0.2.2.2.1 0) (some 2) (br (ilt 2147483647 a0.2.2.2.1) (some 2) (br (ilt a0.2.2.2.1 (-2147483647)) (some 2) (br (ieq a0.1 2) (br (ilt 0 (ilen a0.2.2.2.2)) (some 2) (br (ilt 256 (ilen a0.2.2.2.2)) (some 7) (bnd (z1o.f k a0.2.2.2.2) fun r20=>br (bnot r20) (some 2) (some 0)))) (br (ieq a0.1 3) (br (ilt 0 (ilen a0.2.2.2.2)) (some 2) (br (ilt 256 (ilen a0.2.2.2.2)) (some 7) (bnd (z1o.f k a0.2.2.2.2) fun r21=>br (bnot r21) (some 2) (some 0)))) (br (ilt 256 (ilen a0.2.2.2.2)) (some 7) (bnd (z1o.f k a0.2.2.2.2) fun r22=>br (bnot r22) (some 2) (some 0)))))))) (br (ieq a0.1 2) (br (ilt 0 (ilen a0.2.2.2.2)) (some 2) (br (ilt 256 (ilen a0.2.2.2.2)) (some 7) (bnd (z1o.f k a0.2.2.2.2) fun r23=>br (bnot r23) (some 2) (some 0)))) (br (ieq a0.1 3) (br (ilt 0 (ilen a0.2.2.2.2)) (some 2) (br (ilt 256 (ilen a0.2.2.2.2)) (some 7) (bnd (z1o.f k a0.2.2.2.2) fun r24=>br (bnot r24) (some 2) (some 0)))) (br (ilt 256 (ilen a0.2.2.2.2)) (some 7) (bnd (z1o.f k a0.2.2.2.2) fun r25=>br (bnot r25) (some 2) (some 0)))))))) (br (bnot (ieq a0.1 3)) (br (bnot (ieq a0.2.2.2.1 0)) (some 2) (br (ieq a0.1 3) (br (ieq a0.2.2.2.1 0) (some 2) (br (ilt 2147483647 a0.2.2.2.1) (some 2) (br (ilt a0.2.2.2.1 (-2147483647)) (some 2) (br (ieq a0.1 2) (br (ilt 0 (ilen a0.2.2.2.2)) (some 2) (br (ilt 256 (ilen a0.2.2.2.2)) (some 7) (bnd (z1o.f k a0.2.2.2.2) fun r26=>br (bnot r26) (some 2) (some 0)))) (br (ieq a0.1 3) (br (ilt 0 (ilen a0.2.2.2.2)) (some 2) (br (ilt 256 (ilen a0.2.2.2.2)) (some 7) (bnd (z1o.f k a0.2.2.2.2) fun r27=>br (bnot r27) (some 2) (some 0)))) (br (ilt 256 (ilen a0.2.2.2.2)) (some 7) (bnd (z1o.f k a0.2.2.2.2) fun r28=>br (bnot r28) (some 2) (some 0)))))))) (br (ieq a0.1 2) (br (ilt 0 (ilen a0.2.2.2.2)) (some 2) (br (ilt 256 (ilen a0.2.2.2.2)) (some 7) (bnd (z1o.f k a0.2.2.2.2) fun r29=>br (bnot r29) (some 2) (some 0)))) (br (ieq a0.1 3) (br (ilt 0 (ilen a0.2.2.2.2)) (some 2) (br (ilt 256 (ilen a0.2.2.2.2)) (some 7) (bnd (z1o.f k a0.2.2.2.2) fun r30=>br (bnot r30) (some 2) (some 0)))) (br (ilt 256 (ilen a0.2.2.2.2)) (some 7) (bnd (z1o.f k a0.2.2.2.2) fun r31=>br (bnot r31) (some 2) (some 0))))))) (br (ieq a0.1 3) (br (ieq a0.2.2.2.1 0) (some 2) (br (ilt 2147483647 a0.2.2.2.1) (some 2) (br (ilt a0.2.2.2.1 (-2147483647)) (some 2) (br (ieq a0.1 2) (br (ilt 0 (ilen a0.2.2.2.2)) (some 2) (br (ilt 256 (ilen a0.2.2.2.2)) (some 7) (bnd (z1o.f k a0.2.2.2.2) fun r32=>br (bnot r32) (some 2) (some 0)))) (br (ieq a0.1 3) (br (ilt 0 (ilen a0.2.2.2.2)) (some 2) (br (ilt 256 (ilen a0.2.2.2.2)) (some 7) (bnd (z1o.f k a0.2.2.2.2) fun r33=>br (bnot r33) (some 2) (some 0)))) (br (ilt 256 (ilen a0.2.2.2.2)) (some 7) (bnd (z1o.f k a0.2.2.2.2) fun r34=>br (bnot r34) (some 2) (some 0)))))))) (br (ieq a0.1 2) (br (ilt 0 (ilen a0.2.2.2.2)) (some 2) (br (ilt 256 (ilen a0.2.2.2.2)) (some 7) (bnd (z1o.f k a0.2.2.2.2) fun r35=>br (bnot r35) (some 2) (some 0)))) (br (ieq a0.1 3) (br (ilt 0 (ilen a0.2.2.2.2)) (some 2) (br (ilt 256 (ilen a0.2.2.2.2)) (some 7) (bnd (z1o.f k a0.2.2.2.2) fun r36=>br (bnot r36) (some 2) (some 0)))) (br (ilt 256 (ilen a0.2.2.2.2)) (some 7) (bnd (z1o.f k a0.2.2.2.2) fun r37=>br (bnot r37) (some 2) (some 0))))))))) (br (ieq a0.1 5) (br (bnot (deq tValue a0.2.2.1 (0,(0,[])))) (some 2) (br (bnot (ieq a0.1 3)) (br (bnot (ieq a0.1 5)) (bnd (z15.f k a0.2.2.1) fun r38=>br (bnot r38) (some 2) (br (bnot (ieq a0.1 3)) (br (bnot (ieq a0.2.2.2.1 0)) (some 2) (br (ieq a0.1 3) (br (ieq a0.2.2.2.1 0) (some 2) (br (ilt 2147483647 a0.2.2.2.1) (some 2) (br (ilt a0.2.2.2.1 (-2147483647)) (some 2) (br (ieq a0.1 2) (br (ilt 0 (ilen a0.2.2.2.2)) (some 2) (br (ilt 256 (ilen a0.2.2.2.2)) (some 7) (bnd (z1o.f k a0.2.2.2.2) fun r39=>br (bnot r39) (some 2) (some 0)))) (br (ieq a0.1 3) (br (ilt 0 (ilen a0.2.2.2.2)) (some 2) (br (ilt 256 (ilen a0.2.2.2.2)) (some 7) (bnd (z1o.f k a0.2.2.2.2) fun r40=>br (bnot r40) (some 2) (some 0)))) (br (ilt 256 (ilen a0.2.2.2.2)) (some 7) (bnd (z1o.f k a0.2.2.2.2) fun r41=>br (bnot r41) (some 2) (some 0)))))))) (br (ieq a0.1 2) (br (ilt 0 (ilen a0.2.2.2.2)) (some 2) (br (ilt 256 (ilen a0.2.2.2.2)) (some 7) (bnd (z1o.f k a0.2.2.2.2) fun r42=>br (bnot r42) (some 2) (some 0)))) (br (ieq a0.1 3) (br (ilt 0 (ilen a0.2.2.2.2)) (some 2) (br (ilt 256 (ilen a0.2.2.2.2)) (some 7) (bnd (z1o.f k a0.2.2.2.2) fun r43=>br (bnot r43) (some 2) (some 0)))) (br (ilt 256 (ilen a0.2.2.2.2)) (some 7) (bnd (z1o.f k a0.2.2.2.2) fun r44=>br (bnot r44) (some 2) (some 0))))))) (br (ieq a0.1 3) (br (ieq a0.2.2.2.1 0) (some 2) (br (ilt 2147483647 a0.2.2.2.1) (some 2) (br (ilt a0.2.2.2.1 (-2147483647)) (some 2) (br (ieq a0.1 2) (br (ilt 0 (ilen a0.2.2.2.2)) (some 2) (br (ilt 256 (ilen a0.2.2.2.2)) (some 7) (bnd (z1o.f k a0.2.2.2.2) fun r45=>br (bnot r45) (some 2) (some 0)))) (br (ieq a0.1 3) (br (ilt 0 (ilen a0.2.2.2.2)) (some 2) (br (ilt 256 (ilen a0.2.2.2.2)) (some 7) (bnd (z1o.f k a0.2.2.2.2) fun r46=>br (bnot r46) (some 2) (some 0)))) (br (ilt 256 (ilen a0.2.2.2.2)) (some 7) (bnd (z1o.f k a0.2.2.2.2) fun r47=>br (bnot r47) (some 2) (some 0)))))))) (br (ieq a0.1 2) (br (ilt 0 (ilen a0.2.2.2.2)) (some 2) (br (ilt 256 (ilen a0.2.2.2.2)) (some 7) (bnd (z1o.f k a0.2.2.2.2) fun r48=>br (bnot r48) (some 2) (some 0)))) (br (ieq a0.1 3) (br (ilt 0 (ilen a0.2.2.2.2)) (some 2) (br (ilt 256 (ilen a0.2.2.2.2)) (some 7) (bnd (z1o.f k a0.2.2.2.2) fun r49=>br (bnot r49) (some 2) (some 0)))) (br (ilt 256 (ilen a0.2.2.2.2)) (some 7) (bnd (z1o.f k a0.2.2.2.2) fun r50=>br (bnot r50) (some 2) (some 0)))))))) (br (bnot (ieq a0.1 3)) (br (bnot (ieq a0.2.2.2.1 0)) (some 2) (br (ieq a0.1 3) (br (ieq a0.2.2.2.1 0) (some 2) (br (ilt 2147483647 a0.2.2.2.1) (some 2) (br (ilt a0.2.2.2.1 (-2147483647)) (some 2) (br (ieq a0.1 2) (br (ilt 0 (ilen a0.2.2.2.2)) (some 2) (br (ilt 256 (ilen a0.2.2.2.2)) (some 7) (bnd (z1o.f k a0.2.2.2.2) fun r51=>br (bnot r51) (some 2) (some 0)))) (br (ieq a0.1 3) (br (ilt 0 (ilen a0.2.2.2.2)) (some 2) (br (ilt 256 (ilen a0.2.2.2.2)) (some 7) (bnd (z1o.f k a0.2.2.2.2) fun r52=>br (bnot r52) (some 2) (some 0)))) (br (ilt 256 (ilen a0.2.2.2.2)) (some 7) (bnd (z1o.f k a0.2.2.2.2) fun r53=>br (bnot r53) (some 2) (some 0)))))))) (br (ieq a0.1 2) (br (ilt 0 (ilen a0.2.2.2.2)) (some 2) (br (ilt 256 (ilen a0.2.2.2.2)) (some 7) (bnd (z1o.f k a0.2.2.2.2) fun r54=>br (bnot r54) (some 2) (some 0)))) (br (ieq a0.1 3) (br (ilt 0 (ilen a0.2.2.2.2)) (some 2) (br (ilt 256 (ilen a0.2.2.2.2)) (some 7) (bnd (z1o.f k a0.2.2.2.2) fun r55=>br (bnot r55) (some 2) (some 0)))) (br (ilt 256 (ilen a0.2.2.2.2)) (some 7) (bnd (z1o.f k a0.2.2.2.2) fun r56=>br (bnot r56) (some 2) (some 0))))))) (br (ieq a0.1 3) (br (ieq a0.2.2.2.1 0) (some 2) (br (ilt 2147483647 a0.2.2.2.1) (some 2) (br (ilt a0.2.2.2.1 (-2147483647)) (some 2) (br (ieq a0.1 2) (br (ilt 0 (ilen a0.2.2.2.2)) (some 2) (br (ilt 256 (ilen a0.2.2.2.2)) (some 7) (bnd (z1o.f k a0.2.2.2.2) fun r57=>br (bnot r57) (some 2) (some 0)))) (br (ieq a0.1 3) (br (ilt 0 (ilen a0.2.2.2.2)) (some 2) (br (ilt 256 (ilen a0.2.2.2.2)) (some 7) (bnd (z1o.f k a0.2.2.2.2) fun r58=>br (bnot r58) (some 2) (some 0)))) (br (ilt 256 (ilen a0.2.2.2.2)) (some 7) (bnd (z1o.f k a0.2.2.2.2) fun r59=>br (bnot r59) (some 2) (some 0)))))))) (br (ieq a0.1 2) (br (ilt 0 (ilen a0.2.2.2.2)) (some 2) (br (ilt 256 (ilen a0.2.2.2.2)) (some 7) (bnd (z1o.f k a0.2.2.2.2) fun r60=>br (bnot r60) (some 2) (some 0)))) (br (ieq a0.1 3) (br (ilt 0 (ilen a0.2.2.2.2)) (some 2) (br (ilt 256 (ilen a0.2.2.2.2)) (some 7) (bnd (z1o.f k a0.2.2.2.2) fun r61=>br (bnot r61) (some 2) (some 0)))) (br (ilt 256 (ilen a0.2.2.2.2)) (some 7) (bnd (z1o.f k a0.2.2.2.2) fun r62=>br (bnot r62) (some 2) (some 0)))))))) (br (bnot (ieq a0.1 3)) (br (bnot (ieq a0.2.2.2.1 0)) (some 2) (br (ieq a0.1 3) (br (ieq a0.2.2.2.1 0) (some 2) (br (ilt 2147483647 a0.2.2.2.1) (some 2) (br (ilt a0.2.2.2.1 (-2147483647)) (some 2) (br (ieq a0.1 2) (br (ilt 0 (ilen a0.2.2.2.2)) (some 2) (br (ilt 256 (ilen a0.2.2.2.2)) (some 7) (bnd (z1o.f k a0.2.2.2.2) fun r63=>br (bnot r63) (some 2) (some 0)))) (br (ieq a0.1 3) (br (ilt 0 (ilen a0.2.2.2.2)) (some 2) (br (ilt 256 (ilen a0.2.2.2.2)) (some 7) (bnd (z1o.f k a0.2.2.2.2) fun r64=>br (bnot r64) (some 2) (some 0)))) (br (ilt 256 (ilen a0.2.2.2.2)) (some 7) (bnd (z1o.f k a0.2.2.2.2) fun r65=>br (bnot r65) (some 2) (some 0)))))))) (br (ieq a0.1 2) (br (ilt 0 (ilen a0.2.2.2.2)) (some 2) (br (ilt 256 (ilen a0.2.2.2.2)) (some 7) (bnd (z1o.f k a0.2.2.2.2) fun r66=>br (bnot r66) (some 2) (some 0)))) (br (ieq a0.1 3) (br (ilt 0 (ilen a0.2.2.2.2)) (some 2) (br (ilt 256 (ilen a0.2.2.2.2)) (some 7) (bnd (z1o.f k a0.2.2.2.2) fun r67=>br (bnot r67) (some 2) (some 0)))) (br (ilt 256 (ilen a0.2.2.2.2)) (some 7) (bnd (z1o.f k a0.2.2.2.2) fun r68=>br (bnot r68) (some 2) (some 0))))))) (br (ieq a0.1 3) (br (ieq a0.2.2.2.1 0) (some 2) (br (ilt 2147483647 a0.2.2.2.1) (some 2) (br (ilt a0.2.2.2.1 (-2147483647)) (some 2) (br (ieq a0.1 2) (br (ilt 0 (ilen a0.2.2.2.2)) (some 2) (br (ilt 256 (ilen a0.2.2.2.2)) (some 7) (bnd (z1o.f k a0.2.2.2.2) fun r69=>br (bnot r69) (some 2) (some 0)))) (br (ieq a0.1 3) (br (ilt 0 (ilen a0.2.2.2.2)) (some 2) (br (ilt 256 (ilen a0.2.2.2.2)) (some 7) (bnd (z1o.f k a0.2.2.2.2) fun r70=>br (bnot r70) (some 2) (some 0)))) (br (ilt 256 (ilen a0.2.2.2.2)) (some 7) (bnd (z1o.f k a0.2.2.2.2) fun r71=>br (bnot r71) (some 2) (some 0)))))))) (br (ieq a0.1 2) (br (ilt 0 (ilen a0.2.2.2.2)) (some 2) (br (ilt 256 (ilen a0.2.2.2.2)) (some 7) (bnd (z1o.f k a0.2.2.2.2) fun r72=>br (bnot r72) (some 2) (some 0)))) (br (ieq a0.1 3) (br (ilt 0 (ilen a0.2.2.2.2)) (some 2) (br (ilt 256 (ilen a0.2.2.2.2)) (some 7) (bnd (z1o.f k a0.2.2.2.2) fun r73=>br (bnot r73) (some 2) (some 0)))) (br (ilt 256 (ilen a0.2.2.2.2)) (some 7) (bnd (z1o.f k a0.2.2.2.2) fun r74=>br (bnot r74) (some 2) (some 0))))))))) (br (bnot (ieq a0.1 3)) (br (bnot (ieq a0.1 5)) (bnd (z15.f k a0.2.2.1) fun r75=>br (bnot r75) (some 2) (br (bnot (ieq a0.1 3)) (br (bnot (ieq a0.2.2.2.1 0)) (some 2) (br (ieq a0.1 3) (br (ieq a0.2.2.2.1 0) (some 2) (br (ilt 2147483647 a0.2.2.2.1) (some 2) (br (ilt a0.2.2.2.1 (-2147483647)) (some 2) (br (ieq a0.1 2) (br (ilt 0 (ilen a0.2.2.2.2)) (some 2) (br (ilt 256 (ilen a0.2.2.2.2)) (some 7) (bnd (z1o.f k a0.2.2.2.2) fun r76=>br (bnot r76) (some 2) (some 0)))) (br (ieq a0.1 3) (br (ilt 0 (ilen a0.2.2.2.2)) (some 2) (br (ilt 256 (ilen a0.2.2.2.2)) (some 7) (bnd (z1o.f k a0.2.2.2.2) fun r77=>br (bnot r77) (some 2) (some 0)))) (br (ilt 256 (ilen a0.2.2.2.2)) (some 7) (bnd (z1o.f k a0.2.2.2.2) fun r78=>br (bnot r78) (some 2) (some 0)))))))) (br (ieq a0.1 2) (br (ilt 0 (ilen a0.2.2.2.2)) (some 2) (br (ilt 256 (ilen a0.2.2.2.2)) (some 7) (bnd (z1o.f k a0.2.2.2.2) fun r79=>br (bnot r79) (some 2) (some 0)))) (br (ieq a0.1 3) (br (ilt 0 (ilen a0.2.2.2.2)) (some 2) (br (ilt 256 (ilen a0.2.2.2.2)) (some 7) (bnd (z1o.f k a0.2.2.2.2) fun r80=>br (bnot r80) (some 2) (some 0)))) (br (ilt 256 (ilen a0.2.2.2.2)) (some 7) (bnd (z1o.f k a0.2.2.2.2) fun r81=>br (bnot r81) (some 2) (some 0))))))) (br (ieq a0.1 3) (br (ieq a0.2.2.2.1 0) (some 2) (br (ilt 2147483647 a0.2.2.2.1) (some 2) (br (ilt a0.2.2.2.1 (-2147483647)) (some 2) (br (ieq a0.1 2) (br (ilt 0 (ilen a0.2.2.2.2)) (some 2) (br (ilt 256 (ilen a0.2.2.2.2)) (some 7) (bnd (z1o.f k a0.2.2.2.2) fun r82=>br (bnot r82) (some 2) (some 0)))) (br (ieq a0.1 3) (br (ilt 0 (ilen a0.2.2.2.2)) (some 2) (br (ilt 256 (ilen a0.2.2.2.2)) (some 7) (bnd (z1o.f k a0.2.2.2.2) fun r83=>br (bnot r83) (some 2) (some 0)))) (br (ilt 256 (ilen a0.2.2.2.2)) (some 7) (bnd (z1o.f k a0.2.2.2.2) fun r84=>br (bnot r84) (some 2) (some 0)))))))) (br (ieq a0.1 2) (br (ilt 0 (ilen a0.2.2.2.2)) (some 2) (br (ilt 256 (ilen a0.2.2.2.2)) (some 7) (bnd (z1o.f k a0.2.2.2.2) fun r85=>br (bnot r85) (some 2) (some 0)))) (br (ieq a0.1 3) (br (ilt 0 (ilen a0.2.2.2.2)) (some 2) (br (ilt 256 (ilen a0.2.2.2.2)) (some 7) (bnd (z1o.f k a0.2.2.2.2) fun r86=>br (bnot r86) (some 2) (some 0)))) (br (ilt 256 (ilen a0.2.2.2.2)) (some 7) (bnd (z1o.f k a0.2.2.2.2) fun r87=>br (bnot r87) (some 2) (some 0)))))))) (br (bnot (ieq a0.1 3)) (br (bnot (ieq a0.2.2.2.1 0)) (some 2) (br (ieq a0.1 3) (br (ieq a0.2.2.2.1 0) (some 2) (br (ilt 2147483647 a0.2.2.2.1) (some 2) (br (ilt a0.2.2.2.1 (-2147483647)) (some 2) (br (ieq a0.1 2) (br (ilt 0 (ilen a0.2.2.2.2)) (some 2) (br (ilt 256 (ilen a0.2.2.2.2)) (some 7) (bnd (z1o.f k a0.2.2.2.2) fun r88=>br (bnot r88) (some 2) (some 0)))) (br (ieq a0.1 3) (br (ilt 0 (ilen a0.2.2.2.2)) (some 2) (br (ilt 256 (ilen a0.2.2.2.2)) (some 7) (bnd (z1o.f k a0.2.2.2.2) fun r89=>br (bnot r89) (some 2) (some 0)))) (br (ilt 256 (ilen a0.2.2.2.2)) (some 7) (bnd (z1o.f k a0.2.2.2.2) fun r90=>br (bnot r90) (some 2) (some 0)))))))) (br (ieq a0.1 2) (br (ilt 0 (ilen a0.2.2.2.2)) (some 2) (br (ilt 256 (ilen a0.2.2.2.2)) (some 7) (bnd (z1o.f k a0.2.2.2.2) fun r91=>br (bnot r91) (some 2) (some 0)))) (br (ieq a0.1 3) (br (ilt 0 (ilen a0.2.2.2.2)) (some 2) (br (ilt 256 (ilen a0.2.2.2.2)) (some 7) (bnd (z1o.f k a0.2.2.2.2) fun r92=>br (bnot r92) (some 2) (some 0)))) (br (ilt 256 (ilen a0.2.2.2.2)) (some 7) (bnd (z1o.f k a0.2.2.2.2) fun r93=>br (bnot r93) (some 2) (some 0))))))) (br (ieq a0.1 3) (br (ieq a0.2.2.2.1 0) (some 2) (br (ilt 2147483647 a0.2.2.2.1) (some 2) (br (ilt a0.2.2.2.1 (-2147483647)) (some 2) (br (ieq a0.1 2) (br (ilt 0 (ilen a0.2.2.2.2)) (some 2) (br (ilt 256 (ilen a0.2.2.2.2)) (some 7) (bnd (z1o.f k a0.2.2.2.2) fun r94=>br (bnot r94) (some 2) (some 0)))) (br (ieq a0.1 3) (br (ilt 0 (ilen a0.2.2.2.2)) (some 2) (br (ilt 256 (ilen a0.2.2.2.2)) (some 7) (bnd (z1o.f k a0.2.2.2.2) fun r95=>br (bnot r95) (some 2) (some 0)))) (br (ilt 256 (ilen a0.2.2.2.2)) (some 7) (bnd (z1o.f k a0.2.2.2.2) fun r96=>br (bnot r96) (some 2) (some 0)))))))) (br (ieq a0.1 2) (br (ilt 0 (ilen a0.2.2.2.2)) (some 2) (br (ilt 256 (ilen a0.2.2.2.2)) (some 7) (bnd (z1o.f k a0.2.2.2.2) fun r97=>br (bnot r97) (some 2) (some 0)))) (br (ieq a0.1 3) (br (ilt 0 (ilen a0.2.2.2.2)) (some 2) (br (ilt 256 (ilen a0.2.2.2.2)) (some 7) (bnd (z1o.f k a0.2.2.2.2) fun r98=>br (bnot r98) (some 2) (some 0)))) (br (ilt 256 (ilen a0.2.2.2.2)) (some 7) (bnd (z1o.f k a0.2.2.2.2) fun r99=>br (bnot r99) (some 2) (some 0)))))))) (br (bnot (ieq a0.1 3)) (br (bnot (ieq a0.2.2.2.1 0)) (some 2) (br (ieq a0.1 3) (br (ieq a0.2.2.2.1 0) (some 2) (br (ilt 2147483647 a0.2.2.2.1) (some 2) (br (ilt a0.2.2.2.1 (-2147483647)) (some 2) (br (ieq a0.1 2) (br (ilt 0 (ilen a0.2.2.2.2)) (some 2) (br (ilt 256 (ilen a0.2.2.2.2)) (some 7) (bnd (z1o.f k a0.2.2.2.2) fun r100=>br (bnot r100) (some 2) (some 0)))) (br (ieq a0.1 3) (br (ilt 0 (ilen a0.2.2.2.2)) (some 2) (br (ilt 256 (ilen a0.2.2.2.2)) (some 7) (bnd (z1o.f k a0.2.2.2.2) fun r101=>br (bnot r101) (some 2) (some 0)))) (br (ilt 256 (ilen a0.2.2.2.2)) (some 7) (bnd (z1o.f k a0.2.2.2.2) fun r102=>br (bnot r102) (some 2) (some 0)))))))) (br (ieq a0.1 2) (br (ilt 0 (ilen a0.2.2.2.2)) (some 2) (br (ilt 256 (ilen a0.2.2.2.2)) (some 7) (bnd (z1o.f k a0.2.2.2.2) fun r103=>br (bnot r103) (some 2) (some 0)))) (br (ieq a0.1 3) (br (ilt 0 (ilen a0.2.2.2.2)) (some 2) (br (ilt 256 (ilen a0.2.2.2.2)) (some 7) (bnd (z1o.f k a0.2.2.2.2) fun r104=>br (bnot r104) (some 2) (some 0)))) (br (ilt 256 (ilen a0.2.2.2.2)) (some 7) (bnd (z1o.f k a0.2.2.2.2) fun r105=>br (bnot r105) (some 2) (some 0))))))) (br (ieq a0.1 3) (br (ieq a0.2.2.2.1 0) (some 2) (br (ilt 2147483647 a0.2.2.2.1) (some 2) (br (ilt a0.2.2.2.1 (-2147483647)) (some 2) (br (ieq a0.1 2) (br (ilt 0 (ilen a0.2.2.2.2)) (some 2) (br (ilt 256 (ilen a0.2.2.2.2)) (some 7) (bnd (z1o.f k a0.2.2.2.2) fun r106=>br (bnot r106) (some 2) (some 0)))) (br (ieq a0.1 3) (br (ilt 0 (ilen a0.2.2.2.2)) (some 2) (br (ilt 256 (ilen a0.2.2.2.2)) (some 7) (bnd (z1o.f k a0.2.2.2.2) fun r107=>br (bnot r107) (some 2) (some 0)))) (br (ilt 256 (ilen a0.2.2.2.2)) (some 7) (bnd (z1o.f k a0.2.2.2.2) fun r108=>br (bnot r108) (some 2) (some 0)))))))) (br (ieq a0.1 2) (br (ilt 0 (ilen a0.2.2.2.2)) (some 2) (br (ilt 256 (ilen a0.2.2.2.2)) (some 7) (bnd (z1o.f k a0.2.2.2.2) fun r109=>br (bnot r109) (some 2) (some 0)))) (br (ieq a0.1 3) (br (ilt 0 (ilen a0.2.2.2.2)) (some 2) (br (ilt 256 (ilen a0.2.2.2.2)) (some 7) (bnd (z1o.f k a0.2.2.2.2) fun r110=>br (bnot r110) (some 2) (some 0)))) (br (ilt 256 (ilen a0.2.2.2.2)) (some 7) (bnd (z1o.f k a0.2.2.2.2) fun r111=>br (bnot r111) (some 2) (some 0)))))))))))):=by kernel_rfl
def z16.e (k:Nat):Entry:=Sg.entry z16.sg fun x=>z16.f k x
theorem z16.ok (k:Nat):CallOK Tryz.prog 115 (z16.e k):=fn_ok (c:=z16.cx k) (code:=z16.body) (TT.of tt_ok pp_ok mm_ok) (fns_ok ⟨(z12.ok k),(z15.ok k),(z1o.ok k),trivial⟩) mixed Tryz.func115 (by kernel_rfl) (by kernel_rfl) (by kernel_rfl) (by kernel_rfl) (by kernel_rfl) (by kernel_rfl) (fun x=>by kernel_rfl)
@[reducible] def ref11_Read.sg:Sg:=⟨[.ref],[tref02Reader],.dat tOp,[tref02Reader]⟩
def z1A.body:Go.Code:=Tryz.f116.body.getD .skip
def z1A.rs:List Go.ResultVar:=Tryz.f116.results.toList
def z1A.regs:List (Nat × RInfo):=[(0,⟨[1],[1],[0],[],0,[],[],[],[],[]⟩),(1,ri [1,3] [1,3]),(2,ri [2] [])]
def z1A.cx (k:Nat):Cx:=⟨tt,pp,[],z1A.regs,k,mm⟩
@[reducible] def z1A.sg:Sg:=⟨[.dat tOp],[],.dat .bool,[]⟩
def z1A.f (k:Nat) (a0:Ty.D tOp):Option (Sg.Out z1A.sg):=Sg.fn z1A.sg (z1A.cx k) z1A.body z1A.rs a0
theorem z1A.f_eq (k:Nat) (a0:Ty.D tOp):z1A.f k a0=br (ieq a0.1 0) (br (ieq (ilen a0.2.1) 0) (br (deq tValue a0.2.2.1 (0,(0,[]))) (br (ieq a0.2.2.2.1 0) (some (ieq (ilen a0.2.2.2.2) 0)) (some false)) (some false)) (some false)) (some false):=by kernel_rfl
def z1A.e (k:Nat):Entry:=Sg.entry z1A.sg fun x=>z1A.f k x
theorem z1A.ok (k:Nat):CallOK Tryz.prog 116 (z1A.e k):=fn_ok (c:=z1A.cx k) (code:=z1A.body) (TT.of tt_ok pp_ok mm_ok) (fns_ok trivial) mixed Tryz.func116 (by kernel_rfl) (by kernel_rfl) (by kernel_rfl) (by kernel_rfl) (by kernel_rfl) (by kernel_rfl) (fun x=>by kernel_rfl)
def z0U.body:Go.Code:=Tryz.f48.body.getD .skip
def z0U.rs:List Go.ResultVar:=Tryz.f48.results.toList
def z0U.regs:List (Nat × RInfo):=[(0,⟨[1],[1],[0],[],0,[],[],[],[],[]⟩),(1,ri [1,28] [1]),(2,ri [2] [49]),(3,ri [1,32] [1]),(4,ri [2] [49]),(5,ri [1,36] [1]),(6,ri [2] [49]),(7,ri [1,3] [1]),(8,⟨[1,3,41],[1],[],[],0,[1,3],[1],[],[],[]⟩),(10,ri [1,3,4] [1,49]),(11,ri [1,3,4,64] [1,49]),(12,ri [2] [49]),(9,ri [1,3] [1]),(13,ri [2] [49])]
def z0U.cx (k:Nat):Cx:=⟨tt,pp,[(77,(z0P.e k)),(115,(z16.e k)),(116,(z1A.e k))],z0U.regs,k,mm⟩
@[reducible] def z0U.sg:Sg:=⟨[.dat tTxn],[],.dat (.int .i64),[]⟩
def z0U.f (k:Nat) (a0:Ty.D tTxn):Option (Sg.Out z0U.sg):=Sg.fn z0U.sg (z0U.cx k) z0U.body z0U.rs a0
def z0U.l8 (k:Nat) (n:Nat) (x3:Ty.D (.int .i64)) (m1:Ty.D tTxn):Option (Sg.Out z0U.sg):=loopAt (z0U.cx k) z0U.body [1,1,1,1,0,1,0] 8 [1,3] [1] [] (Sg.K z0U.sg (z0U.cx k) z0U.rs) n ⟨[(1,.ref 1 []),(3,.dat (.int .i64) x3)],[(1,.dat tTxn m1)]⟩
theorem z0U.f_eq (k:Nat) (a0:Ty.D tTxn):z0U.f k a0=bnd (z0P.f k a0.1) fun r0=>br (bnot r0) (some 2) (br (ilt a0.2.1 0) (some 2) (br (ilt 7 a0.2.1) (some 2) (br (ilt a0.2.2.1 1) (some 2) (br (ilt 1099511627776 a0.2.2.1) (some 2) (br (ieq (ilen a0.2.2.2.2) 0) (some 11) (br (ilt 16 (ilen a0.2.2.2.2)) (some 7) (z0U.l8 k k 0 a0))))))):=by kernel_rfl
theorem z0U.l8_eq (k:Nat) (n8:Nat) (x3:Ty.D (.int .i64)) (m1:Ty.D tTxn):z0U.l8 k (n8+1) x3 m1=br (ilt x3 (ilen m1.2.2.2.2)) (br (inL x3 m1.2.2.2.2) (bnd (z16.f k (rd tOp m1.2.2.2.2 (natOf x3))) fun r0=>br (bnot (ieq r0 0)) (br m1.2.2.2.1 (br (inL x3 m1.2.2.2.2) (bnd (z1A.f k (rd tOp m1.2.2.2.2 (natOf x3))) fun r1=>br (bnot r1) (some r0) (z0U.l8 k n8 (iadd .i64 x3 1) m1)) none) (br (bnot false) (some r0) (z0U.l8 k n8 (iadd .i64 x3 1) m1))) (z0U.l8 k n8 (iadd .i64 x3 1) m1)) none) (some 0):=by kernel_rfl
def z0U.e (k:Nat):Entry:=Sg.entry z0U.sg fun x=>z0U.f k x
theorem z0U.ok (k:Nat):CallOK Tryz.prog 48 (z0U.e k):=fn_ok (c:=z0U.cx k) (code:=z0U.body) (TT.of tt_ok pp_ok mm_ok) (fns_ok ⟨(z0P.ok k),(z16.ok k),(z1A.ok k),trivial⟩) mixed Tryz.func48 (by kernel_rfl) (by kernel_rfl) (by kernel_rfl) (by kernel_rfl) (by kernel_rfl) (by kernel_rfl) (fun x=>by kernel_rfl)
@[reducible] def ref12_Read.sg:Sg:=⟨[.ref],[tref02Reader],.dat tTxn,[tref02Reader]⟩
def z0W.body:Go.Code:=Tryz.f75.body.getD .skip
def z0W.rs:List Go.ResultVar:=Tryz.f75.results.toList
def z0W.regs:List (Nat × RInfo):=[(0,ri [0] []),(1,ri [0,3] []),(2,⟨[0,3,7],[],[],[],0,[0,3],[],[],[],[]⟩),(4,rq [0,3,22] [] 13),(5,ri [2] []),(3,ri [0,3] []),(6,ri [2] [])]
def z0W.cx (k:Nat):Cx:=⟨tt,pp,[(118,(z0y.e k))],z0W.regs,k,mm⟩
@[reducible] def z0W.sg:Sg:=⟨[.dat (.slc tTxn)],[],.dat .bool,[]⟩
def z0W.f (k:Nat) (a0:Ty.D (.slc tTxn)):Option (Sg.Out z0W.sg):=Sg.fn z0W.sg (z0W.cx k) z0W.body z0W.rs a0
def z0W.l2 (k:Nat) (n:Nat) (x0:Ty.D (.slc tTxn)) (x3:Ty.D (.int .i64)):Option (Sg.Out z0W.sg):=loopAt (z0W.cx k) z0W.body [1,0,1,0] 2 [0,3] [] [] (Sg.K z0W.sg (z0W.cx k) z0W.rs) n ⟨[(0,.dat (.slc tTxn) x0),(3,.dat (.int .i64) x3)],[]⟩
theorem z0W.f_eq (k:Nat) (a0:Ty.D (.slc tTxn)):z0W.f k a0=z0W.l2 k k a0 1:=by kernel_rfl
theorem z0W.l2_eq (k:Nat) (n2:Nat) (x0:Ty.D (.slc tTxn)) (x3:Ty.D (.int .i64)):z0W.l2 k (n2+1) x0 x3=br (ilt x3 (ilen x0)) (br (inL (isub .i64 x3 1) x0) (br (inL x3 x0) (bnd (z0y.f k ((rd tTxn x0 (natOf (isub .i64 x3 1))).1) ((rd tTxn x0 (natOf x3)).1)) fun r0=>br (bnot (ieq r0 (-1))) (some false) (z0W.l2 k n2 x0 (iadd .i64 x3 1))) none) none) (some true):=by kernel_rfl
def z0W.e (k:Nat):Entry:=Sg.entry z0W.sg fun x=>z0W.f k x
theorem z0W.ok (k:Nat):CallOK Tryz.prog 75 (z0W.e k):=fn_ok (c:=z0W.cx k) (code:=z0W.body) (TT.of tt_ok pp_ok mm_ok) (fns_ok ⟨(z0y.ok k),trivial⟩) mixed Tryz.func75 (by kernel_rfl) (by kernel_rfl) (by kernel_rfl) (by kernel_rfl) (by kernel_rfl) (by kernel_rfl) (fun x=>by kernel_rfl)
@[reducible] def ref12_ReadList.sg:Sg:=⟨[.ref,.dat (.int .i64)],[tref02Reader],.own tTxn,[tref02Reader]⟩
def z1W.body:Go.Code:=Tryz.f117.body.getD .skip
def z1W.rs:List Go.ResultVar:=Tryz.f117.results.toList
def z1W.regs:List (Nat × RInfo):=[(0,ri [1] [1]),(1,ri [2] [5])]
def z1W.cx (k:Nat):Cx:=⟨tt,pp,[(77,(z0P.e k))],z1W.regs,k,mm⟩
@[reducible] def z1W.sg:Sg:=⟨[.dat tUndo],[],.dat .bool,[]⟩
def z1W.f (k:Nat) (a0:Ty.D tUndo):Option (Sg.Out z1W.sg):=Sg.fn z1W.sg (z1W.cx k) z1W.body z1W.rs a0
theorem z1W.f_eq (k:Nat) (a0:Ty.D tUndo):z1W.f k a0=bnd (z0P.f k a0.1) fun r0=>br r0 (br (ile 1 a0.2) (some (ile a0.2 64)) (some false)) (some false):=by kernel_rfl
def z1W.e (k:Nat):Entry:=Sg.entry z1W.sg fun x=>z1W.f k x
theorem z1W.ok (k:Nat):CallOK Tryz.prog 117 (z1W.e k):=fn_ok (c:=z1W.cx k) (code:=z1W.body) (TT.of tt_ok pp_ok mm_ok) (fns_ok ⟨(z0P.ok k),trivial⟩) mixed Tryz.func117 (by kernel_rfl) (by kernel_rfl) (by kernel_rfl) (by kernel_rfl) (by kernel_rfl) (by kernel_rfl) (fun x=>by kernel_rfl)
def z13.body:Go.Code:=Tryz.f49.body.getD .skip
def z13.rs:List Go.ResultVar:=Tryz.f49.results.toList
def z13.regs:List (Nat × RInfo):=[(0,ri [0] []),(1,ri [0,3] []),(2,⟨[0,3,7],[],[],[],0,[0,3],[],[],[],[]⟩),(4,rq [0,3,34] [] 25),(5,ri [2] []),(3,ri [0,3] []),(6,ri [2] [])]
def z13.cx (k:Nat):Cx:=⟨tt,pp,[(117,(z1W.e k)),(118,(z0y.e k))],z13.regs,k,mm⟩
@[reducible] def z13.sg:Sg:=⟨[.dat (.slc tUndo)],[],.dat .bool,[]⟩
def z13.f (k:Nat) (a0:Ty.D (.slc tUndo)):Option (Sg.Out z13.sg):=Sg.fn z13.sg (z13.cx k) z13.body z13.rs a0
def z13.l2 (k:Nat) (n:Nat) (x0:Ty.D (.slc tUndo)) (x3:Ty.D (.int .i64)):Option (Sg.Out z13.sg):=loopAt (z13.cx k) z13.body [1,0,1,0] 2 [0,3] [] [] (Sg.K z13.sg (z13.cx k) z13.rs) n ⟨[(0,.dat (.slc tUndo) x0),(3,.dat (.int .i64) x3)],[]⟩
theorem z13.f_eq (k:Nat) (a0:Ty.D (.slc tUndo)):z13.f k a0=z13.l2 k k a0 0:=by kernel_rfl
theorem z13.l2_eq (k:Nat) (n2:Nat) (x0:Ty.D (.slc tUndo)) (x3:Ty.D (.int .i64)):z13.l2 k (n2+1) x0 x3=br (ilt x3 (ilen x0)) (br (inL x3 x0) (bnd (z1W.f k (rd tUndo x0 (natOf x3))) fun r0=>br (bnot r0) (some false) (br (ilt 0 x3) (br (inL (isub .i64 x3 1) x0) (br (inL x3 x0) (bnd (z0y.f k ((rd tUndo x0 (natOf (isub .i64 x3 1))).1) ((rd tUndo x0 (natOf x3)).1)) fun r1=>br (bnot (ieq r1 (-1))) (some false) (z13.l2 k n2 x0 (iadd .i64 x3 1))) none) none) (z13.l2 k n2 x0 (iadd .i64 x3 1)))) none) (some true):=by kernel_rfl
def z13.e (k:Nat):Entry:=Sg.entry z13.sg fun x=>z13.f k x
theorem z13.ok (k:Nat):CallOK Tryz.prog 49 (z13.e k):=fn_ok (c:=z13.cx k) (code:=z13.body) (TT.of tt_ok pp_ok mm_ok) (fns_ok ⟨(z1W.ok k),(z0y.ok k),trivial⟩) mixed Tryz.func49 (by kernel_rfl) (by kernel_rfl) (by kernel_rfl) (by kernel_rfl) (by kernel_rfl) (by kernel_rfl) (fun x=>by kernel_rfl)
@[reducible] def ref08_Read.sg:Sg:=⟨[.ref,.dat (.int .i64)],[tref02Reader],.own tUndo,[tref02Reader]⟩
@[reducible] def ref06_ReadList.sg:Sg:=⟨[.ref,.dat (.int .i64)],[tref02Reader],.own tDot,[tref02Reader]⟩
@[reducible] def ref23_ReadDelta.sg:Sg:=⟨[.ref],[tref02Reader],.dat tDelta,[tref02Reader]⟩
def z0J.body:Go.Code:=Tryz.f153.body.getD .skip
def z0J.rs:List Go.ResultVar:=Tryz.f153.results.toList
def z0J.regs:List (Nat × RInfo):=[(0,ri [1] [1]),(1,ri [1,3] [1]),(2,⟨[1,3,5],[1],[],[],0,[1,3],[1],[],[],[]⟩),(4,ri [1,3,17] [1]),(5,ri [2] []),(3,ri [1,3] [1]),(6,ri [2] [])]
def z0J.cx (k:Nat):Cx:=⟨tt,pp,[],z0J.regs,k,mm⟩
@[reducible] def z0J.sg:Sg:=⟨[.dat tVec],[],.dat .bool,[]⟩
def z0J.f (k:Nat) (a0:Ty.D tVec):Option (Sg.Out z0J.sg):=Sg.fn z0J.sg (z0J.cx k) z0J.body z0J.rs a0
def z0J.l2 (k:Nat) (n:Nat) (x3:Ty.D (.int .i64)) (m1:Ty.D tVec):Option (Sg.Out z0J.sg):=loopAt (z0J.cx k) z0J.body [1,0,1,0] 2 [1,3] [1] [] (Sg.K z0J.sg (z0J.cx k) z0J.rs) n ⟨[(1,.ref 1 []),(3,.dat (.int .i64) x3)],[(1,.dat tVec m1)]⟩
theorem z0J.f_eq (k:Nat) (a0:Ty.D tVec):z0J.f k a0=z0J.l2 k k 0 a0:=by kernel_rfl
theorem z0J.l2_eq (k:Nat) (n2:Nat) (x3:Ty.D (.int .i64)) (m1:Ty.D tVec):z0J.l2 k (n2+1) x3 m1=br (ilt x3 16) (br (inB x3 16) (br (ilt (rd (.int .i64) m1 (natOf x3)) 0) (some false) (br (inB x3 16) (br (ilt 1048576 (rd (.int .i64) m1 (natOf x3))) (some false) (z0J.l2 k n2 (iadd .i64 x3 1) m1)) none)) none) (some true):=by kernel_rfl
def z0J.e (k:Nat):Entry:=Sg.entry z0J.sg fun x=>z0J.f k x
theorem z0J.ok (k:Nat):CallOK Tryz.prog 153 (z0J.e k):=fn_ok (c:=z0J.cx k) (code:=z0J.body) (TT.of tt_ok pp_ok mm_ok) (fns_ok trivial) mixed Tryz.func153 (by kernel_rfl) (by kernel_rfl) (by kernel_rfl) (by kernel_rfl) (by kernel_rfl) (by kernel_rfl) (fun x=>by kernel_rfl)
@[reducible] def ref05_Read.sg:Sg:=⟨[.ref],[tref02Reader],.dat tVec,[tref02Reader]⟩
def z0R.body:Go.Code:=Tryz.f76.body.getD .skip
def z0R.rs:List Go.ResultVar:=Tryz.f76.results.toList
def z0R.regs:List (Nat × RInfo):=[(0,⟨[1],[1],[0],[],0,[],[],[],[],[]⟩),(1,ri [1,14] [1]),(2,ri [2] []),(3,ri [1,3] [1]),(4,⟨[1,3,19],[1],[],[],0,[1,3],[1],[],[],[]⟩),(6,ri [1,3,4] [1,4]),(7,rq [1,3,4,40] [1,4] 14),(8,ri [2] []),(9,rq [1,3,53] [1] 13),(10,ri [2] []),(5,ri [1,3] [1]),(11,ri [2] [])]
def z0R.cx (k:Nat):Cx:=⟨tt,pp,[(153,(z0J.e k)),(77,(z0P.e k)),(118,(z0y.e k))],z0R.regs,k,mm⟩
@[reducible] def z0R.sg:Sg:=⟨[.dat tDots],[],.dat .bool,[]⟩
def z0R.f (k:Nat) (a0:Ty.D tDots):Option (Sg.Out z0R.sg):=Sg.fn z0R.sg (z0R.cx k) z0R.body z0R.rs a0
def z0R.l4 (k:Nat) (n:Nat) (x3:Ty.D (.int .i64)) (m1:Ty.D tDots):Option (Sg.Out z0R.sg):=loopAt (z0R.cx k) z0R.body [1,1,0,1,0] 4 [1,3] [1] [] (Sg.K z0R.sg (z0R.cx k) z0R.rs) n ⟨[(1,.ref 1 []),(3,.dat (.int .i64) x3)],[(1,.dat tDots m1)]⟩
theorem z0R.f_eq (k:Nat) (a0:Ty.D tDots):z0R.f k a0=bnd (z0J.f k a0.1) fun r0=>br (bnot r0) (some false) (br (ilt 4096 (ilen a0.2)) (some false) (z0R.l4 k k 0 a0)):=by kernel_rfl
theorem z0R.l4_eq (k:Nat) (n4:Nat) (x3:Ty.D (.int .i64)) (m1:Ty.D tDots):z0R.l4 k (n4+1) x3 m1=br (ilt x3 (ilen m1.2)) (br (inL x3 m1.2) (bnd (z0P.f k (rd tDot m1.2 (natOf x3))) fun r0=>br (bnot r0) (some false) (br (inB ((rd tDot m1.2 (natOf x3)).1) 16) (br (ile (isub .i64 ((rd tDot m1.2 (natOf x3)).2) 1) (rd (.int .i64) m1.1 (natOf ((rd tDot m1.2 (natOf x3)).1)))) (some false) (br (ilt 0 x3) (br (inL (isub .i64 x3 1) m1.2) (bnd (z0y.f k (rd tDot m1.2 (natOf (isub .i64 x3 1))) (rd tDot m1.2 (natOf x3))) fun r1=>br (bnot (ieq r1 (-1))) (some false) (z0R.l4 k n4 (iadd .i64 x3 1) m1)) none) (z0R.l4 k n4 (iadd .i64 x3 1) m1))) none)) none) (some true):=by kernel_rfl
def z0R.e (k:Nat):Entry:=Sg.entry z0R.sg fun x=>z0R.f k x
theorem z0R.ok (k:Nat):CallOK Tryz.prog 76 (z0R.e k):=fn_ok (c:=z0R.cx k) (code:=z0R.body) (TT.of tt_ok pp_ok mm_ok) (fns_ok ⟨(z0J.ok k),(z0P.ok k),(z0y.ok k),trivial⟩) mixed Tryz.func76 (by kernel_rfl) (by kernel_rfl) (by kernel_rfl) (by kernel_rfl) (by kernel_rfl) (by kernel_rfl) (fun x=>by kernel_rfl)
@[reducible] def ref06_Read.sg:Sg:=⟨[.ref],[tref02Reader],.dat tDots,[tref02Reader]⟩
@[reducible] def ref05_Has.sg:Sg:=⟨[.dat tVec,.dat tDot],[],.dat .bool,[]⟩
@[reducible] def ref06_Has.sg:Sg:=⟨[.dat tDots,.dat tDot],[],.dat .bool,[]⟩
@[reducible] def ref06_filled.sg:Sg:=⟨[.dat tDots],[],.dat tDots,[]⟩
@[reducible] def ref06_Put.sg:Sg:=⟨[.dat tDots,.dat tDot],[],.dat tDots,[]⟩
@[reducible] def ref22_Known.sg:Sg:=⟨[.dat (.slc tTxn)],[],.dat tDots,[]⟩
@[reducible] def ref04_Same.sg:Sg:=⟨[.dat (.slc tDot),.dat (.slc tDot)],[],.dat .bool,[]⟩
@[reducible] def ref06_Same.sg:Sg:=⟨[.dat tDots,.dat tDots],[],.dat .bool,[]⟩
@[reducible] def ref22_Right.sg:Sg:=⟨[.dat tState],[],.dat .bool,[]⟩
end Go.Proofs.YtggcagclpkhlhaaGreatDoor
end
noncomputable section
/- The program's functions, as plain equations. -/
namespace Go.Proofs.YtggcagclpkhlhaaGreatDoor
open Pal
set_option maxRecDepth 100000
@[reducible] def ref22_Read.sg:Sg:=⟨[.ref],[tref02Reader],.dat tState,[tref02Reader]⟩
@[reducible] def ref02_Reader_Left.sg:Sg:=⟨[.ref],[tref02Reader],.dat (.int .i64),[tref02Reader]⟩
@[reducible] def ref02_Reader_End.sg:Sg:=⟨[.ref],[tref02Reader],.dat (.int .i64),[tref02Reader]⟩
def z0l.body:Go.Code:=Tryz.f38.body.getD .skip
def z0l.rs:List Go.ResultVar:=Tryz.f38.results.toList
def z0l.regs:List (Nat × RInfo):=[(0,⟨[1],[1],[0],[],0,[],[],[],[],[]⟩),(1,ri [1,20] [1]),(2,ri [2] []),(3,ri [1,3] [1]),(4,⟨[1,3,25],[1],[],[],0,[1,3],[1],[],[],[]⟩),(6,ri [1,3,34] [1]),(7,ri [2] []),(5,ri [1,3] [1]),(8,ri [1,4] [1]),(9,⟨[1,4,39],[1],[],[],0,[1,4],[1],[],[],[]⟩),(11,ri [1,4,48] [1]),(12,ri [2] []),(10,ri [1,4] [1]),(13,ri [2] [])]
def z0l.cx (k:Nat):Cx:=⟨tt,pp,[(75,(z0W.e k)),(49,(z13.e k)),(48,(z0U.e k)),(77,(z0P.e k))],z0l.regs,k,mm⟩
@[reducible] def z0l.sg:Sg:=⟨[.dat tDelta],[],.dat .bool,[]⟩
def z0l.f (k:Nat) (a0:Ty.D tDelta):Option (Sg.Out z0l.sg):=Sg.fn z0l.sg (z0l.cx k) z0l.body z0l.rs a0
def z0l.l4 (k:Nat) (n:Nat) (x3:Ty.D (.int .i64)) (m1:Ty.D tDelta):Option (Sg.Out z0l.sg):=loopAt (z0l.cx k) z0l.body [1,1,0,1,0] 4 [1,3] [1] [] (Sg.K z0l.sg (z0l.cx k) z0l.rs) n ⟨[(1,.ref 1 []),(3,.dat (.int .i64) x3)],[(1,.dat tDelta m1)]⟩
def z0l.l9 (k:Nat) (n:Nat) (x4:Ty.D (.int .i64)) (m1:Ty.D tDelta):Option (Sg.Out z0l.sg):=loopAt (z0l.cx k) z0l.body [1,1,1,0,1,0] 9 [1,4] [1] [] (Sg.K z0l.sg (z0l.cx k) z0l.rs) n ⟨[(1,.ref 1 []),(4,.dat (.int .i64) x4)],[(1,.dat tDelta m1)]⟩
theorem z0l.f_eq (k:Nat) (a0:Ty.D tDelta):z0l.f k a0=br (ilt 1000 (ilen a0.1)) (some false) (bnd (z0W.f k a0.1) fun r0=>br (bnot r0) (some false) (bnd (z13.f k a0.2.1) fun r1=>br (bnot r1) (some false) (z0l.l4 k k 0 a0))):=by kernel_rfl
theorem z0l.l4_eq (k:Nat) (n4:Nat) (x3:Ty.D (.int .i64)) (m1:Ty.D tDelta):z0l.l4 k (n4+1) x3 m1=br (ilt x3 (ilen m1.1)) (br (inL x3 m1.1) (bnd (z0U.f k (rd tTxn m1.1 (natOf x3))) fun r0=>br (bnot (ieq r0 0)) (some false) (z0l.l4 k n4 (iadd .i64 x3 1) m1)) none) (z0l.l9 k k 0 m1):=by kernel_rfl
theorem z0l.l9_eq (k:Nat) (n9:Nat) (x4:Ty.D (.int .i64)) (m1:Ty.D tDelta):z0l.l9 k (n9+1) x4 m1=br (ilt x4 (ilen m1.2.2)) (br (inL x4 m1.2.2) (bnd (z0P.f k (rd tDot m1.2.2 (natOf x4))) fun r0=>br (bnot r0) (some false) (z0l.l9 k n9 (iadd .i64 x4 1) m1)) none) (some true):=by kernel_rfl
def z0l.e (k:Nat):Entry:=Sg.entry z0l.sg fun x=>z0l.f k x
theorem z0l.ok (k:Nat):CallOK Tryz.prog 38 (z0l.e k):=fn_ok (c:=z0l.cx k) (code:=z0l.body) (TT.of tt_ok pp_ok mm_ok) (fns_ok ⟨(z0W.ok k),(z13.ok k),(z0U.ok k),(z0P.ok k),trivial⟩) mixed Tryz.func38 (by kernel_rfl) (by kernel_rfl) (by kernel_rfl) (by kernel_rfl) (by kernel_rfl) (by kernel_rfl) (fun x=>by kernel_rfl)
@[reducible] def ref23_Right.sg:Sg:=⟨[.dat tRecord],[],.dat .bool,[]⟩
@[reducible] def ref23_Parse.sg:Sg:=⟨[.dat .str],[],.t2 (.dat tRecord) (.dat (.int .i64)),[]⟩
@[reducible] def ref03_Same.sg:Sg:=⟨[.dat (.slc .str),.dat (.slc .str)],[],.dat .bool,[]⟩
@[reducible] def ref11_Same.sg:Sg:=⟨[.dat tOp,.dat tOp],[],.dat .bool,[]⟩
@[reducible] def ref12_Same.sg:Sg:=⟨[.dat tTxn,.dat tTxn],[],.dat .bool,[]⟩
@[reducible] def ref12_All.sg:Sg:=⟨[.dat (.slc tTxn),.dat (.slc tTxn)],[],.dat .bool,[]⟩
@[reducible] def ref08_Same.sg:Sg:=⟨[.dat (.slc tUndo),.dat (.slc tUndo)],[],.dat .bool,[]⟩
@[reducible] def ref23_SameDelta.sg:Sg:=⟨[.dat tDelta,.dat tDelta],[],.dat .bool,[]⟩
@[reducible] def ref22_Same.sg:Sg:=⟨[.dat tState,.dat tState],[],.dat .bool,[]⟩
@[reducible] def ref23_Same.sg:Sg:=⟨[.dat tRecord,.dat tRecord],[],.dat .bool,[]⟩
@[reducible] def txn_Find_1.sg:Sg:=⟨[.dat tTxn,.dat tDot],[],.dat (.int .i64),[]⟩
@[reducible] def slices_BinarySearchFunc_api_Txn_api_Txn_api_Dot_txn_Find_1.sg:Sg:=⟨[.dat (.slc tTxn),.dat tDot,.fn 186 0],[],.t2 (.dat (.int .i64)) (.dat .bool),[]⟩
@[reducible] def txn_Find.sg:Sg:=⟨[.dat (.slc tTxn),.dat tDot],[],.dat (.int .i64),[]⟩
@[reducible] def txn_Put_1.sg:Sg:=⟨[.dat tTxn,.dat tDot],[],.dat (.int .i64),[]⟩
@[reducible] def slices_BinarySearchFunc_api_Txn_api_Txn_api_Dot_txn_Put_1.sg:Sg:=⟨[.dat (.slc tTxn),.dat tDot,.fn 187 0],[],.t2 (.dat (.int .i64)) (.dat .bool),[]⟩
@[reducible] def txn_Put.sg:Sg:=⟨[.dat (.slc tTxn),.dat tTxn],[],.dat (.slc tTxn),[]⟩
@[reducible] def vec_Has.sg:Sg:=⟨[.dat tVec,.dat tDot],[],.dat .bool,[]⟩
@[reducible] def slices_BinarySearchFunc_api_Dot_api_Dot_api_Dot_dot_Compare.sg:Sg:=⟨[.dat (.slc tDot),.dat tDot,.fn 176 0],[],.t2 (.dat (.int .i64)) (.dat .bool),[]⟩
@[reducible] def dots_Has.sg:Sg:=⟨[.dat tDots,.dat tDot],[],.dat .bool,[]⟩
@[reducible] def dots_Put.sg:Sg:=⟨[.dat tDots,.dat tDot],[],.dat tDots,[]⟩
@[reducible] def state_Put.sg:Sg:=⟨[.dat tState,.dat tTxn],[],.dat tState,[]⟩
@[reducible] def tally_Join.sg:Sg:=⟨[.dat (.slc tUndo),.dat (.slc tUndo)],[],.own tUndo,[]⟩
@[reducible] def state_Raise.sg:Sg:=⟨[.dat tState,.dat (.slc tUndo)],[],.dat tState,[]⟩
@[reducible] def record_turn.sg:Sg:=⟨[.dat (.slc tDot),.dat tRecord],[],.dat (.slc tDot),[]⟩
@[reducible] def slices_Concat_api_Dot_api_Dot.sg:Sg:=⟨[.dat (.slc (.slc tDot))],[],.raw tDot,[]⟩
@[reducible] def vec_Join_1.sg:Sg:=⟨[.dat (.int .i64),.dat (.int .i64)],[],.dat (.int .i64),[]⟩
@[reducible] def vec_both_vec_Join_1.sg:Sg:=⟨[.dat tVec,.dat tVec,.fn 263 0],[],.dat tVec,[]⟩
@[reducible] def vec_Join.sg:Sg:=⟨[.dat tVec,.dat tVec],[],.dat tVec,[]⟩
@[reducible] def dots_Union.sg:Sg:=⟨[.dat tDots,.dat tDots],[],.dat tDots,[]⟩
@[reducible] def state_Seal.sg:Sg:=⟨[.dat tState,.dat (.slc tDot)],[],.dat tState,[]⟩
@[reducible] def record_Merged.sg:Sg:=⟨[.dat tState,.dat tDelta],[],.dat tState,[]⟩
@[reducible] def state_Clone.sg:Sg:=⟨[.dat tState],[],.dat tState,[]⟩
@[reducible] def record_Done.sg:Sg:=⟨[.dat tState,.dat tRecord],[],.dat tState,[]⟩
@[reducible] def law23_awake.sg:Sg:=⟨[],[],.dat .bool,[]⟩
@[reducible] def law23_RecordParses.sg:Sg:=⟨[.dat .str],[],.dat .bool,[]⟩
def z0N.body:Go.Code:=Tryz.f167.body.getD .skip
def z0N.rs:List Go.ResultVar:=Tryz.f167.results.toList
def z0N.regs:List (Nat × RInfo):=[(0,ri [0] []),(1,ri [0,6] []),(2,ri [2] []),(3,ri [0,3] []),(4,⟨[0,3,10],[],[],[],0,[0,3],[],[],[],[]⟩),(6,ri [0,3,18] []),(7,ri [2] []),(5,ri [0,3] []),(8,ri [2] [])]
def z0N.cx (k:Nat):Cx:=⟨tt,pp,[],z0N.regs,k,mm⟩
@[reducible] def z0N.sg:Sg:=⟨[.dat (.slc .str)],[],.dat .bool,[]⟩
def z0N.f (k:Nat) (a0:Ty.D (.slc .str)):Option (Sg.Out z0N.sg):=Sg.fn z0N.sg (z0N.cx k) z0N.body z0N.rs a0
def z0N.l4 (k:Nat) (n:Nat) (x0:Ty.D (.slc .str)) (x3:Ty.D (.int .i64)):Option (Sg.Out z0N.sg):=loopAt (z0N.cx k) z0N.body [1,1,0,1,0] 4 [0,3] [] [] (Sg.K z0N.sg (z0N.cx k) z0N.rs) n ⟨[(0,.dat (.slc .str) x0),(3,.dat (.int .i64) x3)],[]⟩
theorem z0N.f_eq (k:Nat) (a0:Ty.D (.slc .str)):z0N.f k a0=br (ilt 12 (ilen a0)) (some false) (z0N.l4 k k a0 0):=by kernel_rfl
theorem z0N.l4_eq (k:Nat) (n4:Nat) (x0:Ty.D (.slc .str)) (x3:Ty.D (.int .i64)):z0N.l4 k (n4+1) x0 x3=br (ilt x3 (ilen x0)) (br (inL x3 x0) (br (ilt 120 (ilen (rd .str x0 (natOf x3)))) (some false) (z0N.l4 k n4 x0 (iadd .i64 x3 1))) none) (some true):=by kernel_rfl
def z0N.e (k:Nat):Entry:=Sg.entry z0N.sg fun x=>z0N.f k x
theorem z0N.ok (k:Nat):CallOK Tryz.prog 167 (z0N.e k):=fn_ok (c:=z0N.cx k) (code:=z0N.body) (TT.of tt_ok pp_ok mm_ok) (fns_ok trivial) mixed Tryz.func167 (by kernel_rfl) (by kernel_rfl) (by kernel_rfl) (by kernel_rfl) (by kernel_rfl) (by kernel_rfl) (fun x=>by kernel_rfl)
def z0Q.body:Go.Code:=Tryz.f114.body.getD .skip
def z0Q.rs:List Go.ResultVar:=Tryz.f114.results.toList
def z0Q.regs:List (Nat × RInfo):=[(0,⟨[1],[1],[0],[],0,[],[],[],[],[]⟩),(1,ri [2] [5])]
def z0Q.cx (k:Nat):Cx:=⟨tt,pp,[(167,(z0N.e k))],z0Q.regs,k,mm⟩
@[reducible] def z0Q.sg:Sg:=⟨[.dat tOp],[],.dat .bool,[]⟩
def z0Q.f (k:Nat) (a0:Ty.D tOp):Option (Sg.Out z0Q.sg):=Sg.fn z0Q.sg (z0Q.cx k) z0Q.body z0Q.rs a0
theorem z0Q.f_eq (k:Nat) (a0:Ty.D tOp):z0Q.f k a0=bnd (z0N.f k a0.2.1) fun r0=>br r0 (br (ile (ilen a0.2.2.1.2.2) 200) (some (ile (ilen a0.2.2.2.2) 300)) (some false)) (some false):=by kernel_rfl
def z0Q.e (k:Nat):Entry:=Sg.entry z0Q.sg fun x=>z0Q.f k x
theorem z0Q.ok (k:Nat):CallOK Tryz.prog 114 (z0Q.e k):=fn_ok (c:=z0Q.cx k) (code:=z0Q.body) (TT.of tt_ok pp_ok mm_ok) (fns_ok ⟨(z0N.ok k),trivial⟩) mixed Tryz.func114 (by kernel_rfl) (by kernel_rfl) (by kernel_rfl) (by kernel_rfl) (by kernel_rfl) (by kernel_rfl) (fun x=>by kernel_rfl)
def z0V.body:Go.Code:=Tryz.f47.body.getD .skip
def z0V.rs:List Go.ResultVar:=Tryz.f47.results.toList
def z0V.regs:List (Nat × RInfo):=[(0,⟨[1],[1],[0],[],0,[],[],[],[],[]⟩),(1,ri [1,7] [1]),(2,ri [2] []),(3,ri [1,3] [1]),(4,⟨[1,3,12],[1],[],[],0,[1,3],[1],[],[],[]⟩),(6,ri [1,3,21] [1]),(7,ri [2] []),(5,ri [1,3] [1]),(8,ri [2] [])]
def z0V.cx (k:Nat):Cx:=⟨tt,pp,[(114,(z0Q.e k))],z0V.regs,k,mm⟩
@[reducible] def z0V.sg:Sg:=⟨[.dat tTxn],[],.dat .bool,[]⟩
def z0V.f (k:Nat) (a0:Ty.D tTxn):Option (Sg.Out z0V.sg):=Sg.fn z0V.sg (z0V.cx k) z0V.body z0V.rs a0
def z0V.l4 (k:Nat) (n:Nat) (x3:Ty.D (.int .i64)) (m1:Ty.D tTxn):Option (Sg.Out z0V.sg):=loopAt (z0V.cx k) z0V.body [1,1,0,1,0] 4 [1,3] [1] [] (Sg.K z0V.sg (z0V.cx k) z0V.rs) n ⟨[(1,.ref 1 []),(3,.dat (.int .i64) x3)],[(1,.dat tTxn m1)]⟩
theorem z0V.f_eq (k:Nat) (a0:Ty.D tTxn):z0V.f k a0=br (ilt 20 (ilen a0.2.2.2.2)) (some false) (z0V.l4 k k 0 a0):=by kernel_rfl
theorem z0V.l4_eq (k:Nat) (n4:Nat) (x3:Ty.D (.int .i64)) (m1:Ty.D tTxn):z0V.l4 k (n4+1) x3 m1=br (ilt x3 (ilen m1.2.2.2.2)) (br (inL x3 m1.2.2.2.2) (bnd (z0Q.f k (rd tOp m1.2.2.2.2 (natOf x3))) fun r0=>br (bnot r0) (some false) (z0V.l4 k n4 (iadd .i64 x3 1) m1)) none) (some true):=by kernel_rfl
def z0V.e (k:Nat):Entry:=Sg.entry z0V.sg fun x=>z0V.f k x
theorem z0V.ok (k:Nat):CallOK Tryz.prog 47 (z0V.e k):=fn_ok (c:=z0V.cx k) (code:=z0V.body) (TT.of tt_ok pp_ok mm_ok) (fns_ok ⟨(z0Q.ok k),trivial⟩) mixed Tryz.func47 (by kernel_rfl) (by kernel_rfl) (by kernel_rfl) (by kernel_rfl) (by kernel_rfl) (by kernel_rfl) (fun x=>by kernel_rfl)
def z0h.body:Go.Code:=Tryz.f37.body.getD .skip
def z0h.rs:List Go.ResultVar:=Tryz.f37.results.toList
def z0h.regs:List (Nat × RInfo):=[(0,⟨[1],[1],[0],[],0,[],[],[],[],[]⟩),(1,ri [1,19] [1]),(2,ri [2] []),(3,ri [1,3] [1]),(4,⟨[1,3,24],[1],[],[],0,[1,3],[1],[],[],[]⟩),(6,ri [1,3,33] [1]),(7,ri [2] []),(5,ri [1,3] [1]),(8,ri [2] [])]
def z0h.cx (k:Nat):Cx:=⟨tt,pp,[(47,(z0V.e k))],z0h.regs,k,mm⟩
@[reducible] def z0h.sg:Sg:=⟨[.dat tDelta],[],.dat .bool,[]⟩
def z0h.f (k:Nat) (a0:Ty.D tDelta):Option (Sg.Out z0h.sg):=Sg.fn z0h.sg (z0h.cx k) z0h.body z0h.rs a0
def z0h.l4 (k:Nat) (n:Nat) (x3:Ty.D (.int .i64)) (m1:Ty.D tDelta):Option (Sg.Out z0h.sg):=loopAt (z0h.cx k) z0h.body [1,1,0,1,0] 4 [1,3] [1] [] (Sg.K z0h.sg (z0h.cx k) z0h.rs) n ⟨[(1,.ref 1 []),(3,.dat (.int .i64) x3)],[(1,.dat tDelta m1)]⟩
theorem z0h.f_eq (k:Nat) (a0:Ty.D tDelta):z0h.f k a0=br (ilt 20 (ilen a0.1)) (some false) (br (ilt 100 (ilen a0.2.1)) (some false) (br (ilt 100 (ilen a0.2.2)) (some false) (z0h.l4 k k 0 a0))):=by kernel_rfl
theorem z0h.l4_eq (k:Nat) (n4:Nat) (x3:Ty.D (.int .i64)) (m1:Ty.D tDelta):z0h.l4 k (n4+1) x3 m1=br (ilt x3 (ilen m1.1)) (br (inL x3 m1.1) (bnd (z0V.f k (rd tTxn m1.1 (natOf x3))) fun r0=>br (bnot r0) (some false) (z0h.l4 k n4 (iadd .i64 x3 1) m1)) none) (some true):=by kernel_rfl
def z0h.e (k:Nat):Entry:=Sg.entry z0h.sg fun x=>z0h.f k x
theorem z0h.ok (k:Nat):CallOK Tryz.prog 37 (z0h.e k):=fn_ok (c:=z0h.cx k) (code:=z0h.body) (TT.of tt_ok pp_ok mm_ok) (fns_ok ⟨(z0V.ok k),trivial⟩) mixed Tryz.func37 (by kernel_rfl) (by kernel_rfl) (by kernel_rfl) (by kernel_rfl) (by kernel_rfl) (by kernel_rfl) (fun x=>by kernel_rfl)
@[reducible] def ref22_Short.sg:Sg:=⟨[.dat tState],[],.dat .bool,[]⟩
@[reducible] def ref23_Short.sg:Sg:=⟨[.dat tRecord],[],.dat .bool,[]⟩
def z2e.body:Go.Code:=Tryz.f62.body.getD .skip
def z2e.rs:List Go.ResultVar:=Tryz.f62.results.toList
def z2e.regs:List (Nat × RInfo):=[(0,ri [1] [1]),(1,rq [2] [] 7)]
def z2e.cx (k:Nat):Cx:=⟨tt,pp,[(60,packIntE)],z2e.regs,k,mm⟩
@[reducible] def z2e.sg:Sg:=⟨[.dat tDot],[],.dat .str,[]⟩
def z2e.f (k:Nat) (a0:Ty.D tDot):Option (Sg.Out z2e.sg):=Sg.fn z2e.sg (z2e.cx k) z2e.body z2e.rs a0
theorem z2e.f_eq (k:Nat) (a0:Ty.D tDot):z2e.f k a0=bnd (packI a0.1) fun r0=>bnd (packI a0.2) fun r1=>br (roomS r0 r1) (some (app r0 r1)) none:=by kernel_rfl
def z2e.e (k:Nat):Entry:=Sg.entry z2e.sg fun x=>z2e.f k x
theorem z2e.ok (k:Nat):CallOK Tryz.prog 62 (z2e.e k):=fn_ok (c:=z2e.cx k) (code:=z2e.body) (TT.of tt_ok pp_ok mm_ok) (fns_ok ⟨packint_ok,trivial⟩) mixed Tryz.func62 (by kernel_rfl) (by kernel_rfl) (by kernel_rfl) (by kernel_rfl) (by kernel_rfl) (by kernel_rfl) (fun x=>by kernel_rfl)
def z1U.body:Go.Code:=Tryz.f158.body.getD .skip
def z1U.rs:List Go.ResultVar:=Tryz.f158.results.toList
def z1U.regs:List (Nat × RInfo):=[(0,ri [0] []),(1,ri [2] [])]
def z1U.cx (k:Nat):Cx:=⟨tt,pp,[(60,packIntE)],z1U.regs,k,mm⟩
@[reducible] def z1U.sg:Sg:=⟨[.dat .str],[],.dat .str,[]⟩
def z1U.f (k:Nat) (a0:Ty.D .str):Option (Sg.Out z1U.sg):=Sg.fn z1U.sg (z1U.cx k) z1U.body z1U.rs a0
theorem z1U.f_eq (k:Nat) (a0:Ty.D .str):z1U.f k a0=bnd (packI (ilen a0)) fun r0=>br (roomS r0 a0) (some (app r0 a0)) none:=by kernel_rfl
def z1U.e (k:Nat):Entry:=Sg.entry z1U.sg fun x=>z1U.f k x
theorem z1U.ok (k:Nat):CallOK Tryz.prog 158 (z1U.e k):=fn_ok (c:=z1U.cx k) (code:=z1U.body) (TT.of tt_ok pp_ok mm_ok) (fns_ok ⟨packint_ok,trivial⟩) mixed Tryz.func158 (by kernel_rfl) (by kernel_rfl) (by kernel_rfl) (by kernel_rfl) (by kernel_rfl) (by kernel_rfl) (fun x=>by kernel_rfl)
def z1L.body:Go.Code:=Tryz.f194.body.getD .skip
def z1L.rs:List Go.ResultVar:=Tryz.f194.results.toList
def z1L.regs:List (Nat × RInfo):=[(0,ri [0] []),(1,ri [0,3] [8]),(2,ri [3,9,10,11] [8]),(3,⟨[3,9,10,11,12],[8],[],[],0,[3,9,10,11],[8],[],[],[]⟩),(4,ri [3,5,9,10,11] [8]),(5,ri [3,9,10,11] [8]),(6,ri [3,9,10,11] [8]),(7,ri [2] [8])]
def z1L.cx (k:Nat):Cx:=⟨tt,pp,[(60,packIntE),(158,(z1U.e k))],z1L.regs,k,mm⟩
@[reducible] def z1L.sg:Sg:=⟨[.dat (.slc .str)],[],.dat .str,[]⟩
def z1L.f (k:Nat) (a0:Ty.D (.slc .str)):Option (Sg.Out z1L.sg):=Sg.fn z1L.sg (z1L.cx k) z1L.body z1L.rs a0
def z1L.l3 (k:Nat) (n:Nat) (x3:Ty.D .str) (x9:Ty.D (.slc .str)) (x10:Ty.D (.int .i64)) (x11:Ty.D (.int .i64)):Option (Sg.Out z1L.sg):=loopAt (z1L.cx k) z1L.body [1,1,0,1,0] 3 [3,9,10,11] [8] [] (Sg.K z1L.sg (z1L.cx k) z1L.rs) n ⟨[(3,.dat .str x3),(9,.dat (.slc .str) x9),(10,.dat (.int .i64) x10),(11,.dat (.int .i64) x11)],[]⟩
theorem z1L.f_eq (k:Nat) (a0:Ty.D (.slc .str)):z1L.f k a0=bnd (packI (ilen a0)) fun r0=>z1L.l3 k k r0 a0 (ilen a0) 0:=by kernel_rfl
theorem z1L.l3_eq (k:Nat) (n3:Nat) (x3:Ty.D .str) (x9:Ty.D (.slc .str)) (x10:Ty.D (.int .i64)) (x11:Ty.D (.int .i64)):z1L.l3 k (n3+1) x3 x9 x10 x11=br (ilt x11 x10) (br (inL x11 x9) (bnd (z1U.f k (rd .str x9 (natOf x11))) fun r0=>br (roomS x3 r0) (z1L.l3 k n3 (app x3 r0) x9 x10 (iadd .i64 x11 1)) none) none) (some x3):=by kernel_rfl
def z1L.e (k:Nat):Entry:=Sg.entry z1L.sg fun x=>z1L.f k x
theorem z1L.ok (k:Nat):CallOK Tryz.prog 194 (z1L.e k):=fn_ok (c:=z1L.cx k) (code:=z1L.body) (TT.of tt_ok pp_ok mm_ok) (fns_ok ⟨packint_ok,(z1U.ok k),trivial⟩) mixed Tryz.func194 (by kernel_rfl) (by kernel_rfl) (by kernel_rfl) (by kernel_rfl) (by kernel_rfl) (by kernel_rfl) (fun x=>by kernel_rfl)
def z1t.body:Go.Code:=Tryz.f195.body.getD .skip
def z1t.rs:List Go.ResultVar:=Tryz.f195.results.toList
def z1t.regs:List (Nat × RInfo):=[(0,ri [0] []),(1,ri [0,4] []),(2,ri [2] []),(3,ri [2] [])]
def z1t.cx (k:Nat):Cx:=⟨tt,pp,[],z1t.regs,k,mm⟩
@[reducible] def z1t.sg:Sg:=⟨[.dat (.int .i64)],[],.dat (.int .i64),[]⟩
def z1t.f (k:Nat) (a0:Ty.D (.int .i64)):Option (Sg.Out z1t.sg):=Sg.fn z1t.sg (z1t.cx k) z1t.body z1t.rs a0
theorem z1t.f_eq (k:Nat) (a0:Ty.D (.int .i64)):z1t.f k a0=br (ilt a0 0) (some (isub .i64 (imul .i64 (-2) a0) 1)) (some (imul .i64 2 a0)):=by kernel_rfl
def z1t.e (k:Nat):Entry:=Sg.entry z1t.sg fun x=>z1t.f k x
theorem z1t.ok (k:Nat):CallOK Tryz.prog 195 (z1t.e k):=fn_ok (c:=z1t.cx k) (code:=z1t.body) (TT.of tt_ok pp_ok mm_ok) (fns_ok trivial) mixed Tryz.func195 (by kernel_rfl) (by kernel_rfl) (by kernel_rfl) (by kernel_rfl) (by kernel_rfl) (by kernel_rfl) (fun x=>by kernel_rfl)
def z1d.body:Go.Code:=Tryz.f196.body.getD .skip
def z1d.rs:List Go.ResultVar:=Tryz.f196.results.toList
def z1d.regs:List (Nat × RInfo):=[(0,ri [1] [1]),(1,ri [1,5] [1]),(2,rq [2] [] 7),(3,rq [2] [] 8)]
def z1d.cx (k:Nat):Cx:=⟨tt,pp,[(60,packIntE),(158,(z1U.e k)),(195,(z1t.e k))],z1d.regs,k,mm⟩
@[reducible] def z1d.sg:Sg:=⟨[.dat tValue],[],.dat .str,[]⟩
def z1d.f (k:Nat) (a0:Ty.D tValue):Option (Sg.Out z1d.sg):=Sg.fn z1d.sg (z1d.cx k) z1d.body z1d.rs a0
theorem z1d.f_eq (k:Nat) (a0:Ty.D tValue):z1d.f k a0=br (ieq a0.1 2) (bnd (packI a0.1) fun r0=>bnd (z1U.f k a0.2.2) fun r1=>br (roomS r0 r1) (some (app r0 r1)) none) (bnd (packI a0.1) fun r2=>bnd (z1t.f k a0.2.1) fun r3=>bnd (packI r3) fun r4=>br (roomS r2 r4) (some (app r2 r4)) none):=by kernel_rfl
def z1d.e (k:Nat):Entry:=Sg.entry z1d.sg fun x=>z1d.f k x
theorem z1d.ok (k:Nat):CallOK Tryz.prog 196 (z1d.e k):=fn_ok (c:=z1d.cx k) (code:=z1d.body) (TT.of tt_ok pp_ok mm_ok) (fns_ok ⟨packint_ok,(z1U.ok k),(z1t.ok k),trivial⟩) mixed Tryz.func196 (by kernel_rfl) (by kernel_rfl) (by kernel_rfl) (by kernel_rfl) (by kernel_rfl) (by kernel_rfl) (fun x=>by kernel_rfl)
def z2j.body:Go.Code:=Tryz.f144.body.getD .skip
def z2j.rs:List Go.ResultVar:=Tryz.f144.results.toList
def z2j.regs:List (Nat × RInfo):=[(0,⟨[1],[1],[0],[],0,[],[],[],[],[]⟩),(1,ri [1,3] [1,8]),(2,ri [1,3,10] [1,8,10]),(3,ri [2] [8]),(4,ri [1,3] [1,8]),(5,ri [1,3,18] [1,8]),(6,ri [1,3,18,19] [1,8]),(7,ri [2] [8]),(8,ri [1,3,18,27] [1,8]),(9,ri [1,3,18,27] [1,8]),(10,ri [1,3,27] [1,8]),(11,ri [1,3] [1,8]),(12,ri [1,3,38] [1,8]),(13,ri [2] [8]),(14,ri [1,3] [1,8]),(15,ri [3,47,48,49] [8]),(16,⟨[3,47,48,49,50],[8],[],[],0,[3,47,48,49],[8],[],[],[]⟩),(17,ri [3,5,47,48,49] [5,8]),(18,rq [3,47,48,49] [8] 9),(19,ri [3,47,48,49] [8]),(20,ri [2] [8])]
def z2j.cx (k:Nat):Cx:=⟨tt,pp,[(60,packIntE),(120,(z2l.e k)),(194,(z1L.e k)),(195,(z1t.e k)),(196,(z1d.e k)),(62,(z2e.e k))],z2j.regs,k,mm⟩
@[reducible] def z2j.sg:Sg:=⟨[.dat tOp],[],.dat .str,[]⟩
def z2j.f (k:Nat) (a0:Ty.D tOp):Option (Sg.Out z2j.sg):=Sg.fn z2j.sg (z2j.cx k) z2j.body z2j.rs a0
def z2j.l16 (k:Nat) (n:Nat) (x3:Ty.D .str) (x47:Ty.D (.slc tUndo)) (x48:Ty.D (.int .i64)) (x49:Ty.D (.int .i64)):Option (Sg.Out z2j.sg):=loopAt (z2j.cx k) z2j.body [1,1,1,1,1,1,1,0,1,0] 16 [3,47,48,49] [8] [] (Sg.K z2j.sg (z2j.cx k) z2j.rs) n ⟨[(3,.dat .str x3),(47,.dat (.slc tUndo) x47),(48,.dat (.int .i64) x48),(49,.dat (.int .i64) x49)],[]⟩
theorem z2j.f_eq (k:Nat) (a0:Ty.D tOp):z2j.f k a0=bnd (packI a0.1) fun r0=>bnd (z2l.f k a0) fun r1=>br r1 (some r0) (bnd (z1L.f k a0.2.1) fun r2=>br (roomS r0 r2) (br (ieq a0.1 3) (bnd (z1t.f k a0.2.2.2.1) fun r3=>bnd (packI r3) fun r4=>br (roomS (app r0 r2) r4) (some (app (app r0 r2) r4)) none) (br (ieq a0.1 1) (br (ieq a0.1 1) (bnd (z1d.f k a0.2.2.1) fun r5=>br (roomS (app r0 r2) r5) (br (ieq a0.1 2) (some (app (app r0 r2) r5)) (bnd (packI (ilen a0.2.2.2.2)) fun r6=>br (roomS (app (app r0 r2) r5) r6) (z2j.l16 k k (app (app (app r0 r2) r5) r6) a0.2.2.2.2 (ilen a0.2.2.2.2) 0) none)) none) (br (ieq a0.1 2) (some (app r0 r2)) (bnd (packI (ilen a0.2.2.2.2)) fun r7=>br (roomS (app r0 r2) r7) (z2j.l16 k k (app (app r0 r2) r7) a0.2.2.2.2 (ilen a0.2.2.2.2) 0) none))) (br (ieq a0.1 2) (br (ieq a0.1 2) (bnd (z1d.f k a0.2.2.1) fun r8=>br (roomS (app r0 r2) r8) (br (ieq a0.1 2) (some (app (app r0 r2) r8)) (bnd (packI (ilen a0.2.2.2.2)) fun r9=>br (roomS (app (app r0 r2) r8) r9) (z2j.l16 k k (app (app (app r0 r2) r8) r9) a0.2.2.2.2 (ilen a0.2.2.2.2) 0) none)) none) (br (ieq a0.1 2) (some (app r0 r2)) (bnd (packI (ilen a0.2.2.2.2)) fun r10=>br (roomS (app r0 r2) r10) (z2j.l16 k k (app (app r0 r2) r10) a0.2.2.2.2 (ilen a0.2.2.2.2) 0) none))) (br (ieq a0.1 4) (bnd (z1d.f k a0.2.2.1) fun r11=>br (roomS (app r0 r2) r11) (br (ieq a0.1 2) (some (app (app r0 r2) r11)) (bnd (packI (ilen a0.2.2.2.2)) fun r12=>br (roomS (app (app r0 r2) r11) r12) (z2j.l16 k k (app (app (app r0 r2) r11) r12) a0.2.2.2.2 (ilen a0.2.2.2.2) 0) none)) none) (br (ieq a0.1 2) (some (app r0 r2)) (bnd (packI (ilen a0.2.2.2.2)) fun r13=>br (roomS (app r0 r2) r13) (z2j.l16 k k (app (app r0 r2) r13) a0.2.2.2.2 (ilen a0.2.2.2.2) 0) none)))))) none):=by kernel_rfl
theorem z2j.l16_eq (k:Nat) (n16:Nat) (x3:Ty.D .str) (x47:Ty.D (.slc tUndo)) (x48:Ty.D (.int .i64)) (x49:Ty.D (.int .i64)):z2j.l16 k (n16+1) x3 x47 x48 x49=br (ilt x49 x48) (br (inL x49 x47) (bnd (z2e.f k ((rd tUndo x47 (natOf x49)).1)) fun r0=>bnd (packI ((rd tUndo x47 (natOf x49)).2)) fun r1=>br (roomS r0 r1) (br (roomS x3 (app r0 r1)) (z2j.l16 k n16 (app x3 (app r0 r1)) x47 x48 (iadd .i64 x49 1)) none) none) none) (some x3):=by kernel_rfl
def z2j.e (k:Nat):Entry:=Sg.entry z2j.sg fun x=>z2j.f k x
theorem z2j.ok (k:Nat):CallOK Tryz.prog 144 (z2j.e k):=fn_ok (c:=z2j.cx k) (code:=z2j.body) (TT.of tt_ok pp_ok mm_ok) (fns_ok ⟨packint_ok,(z2l.ok k),(z1L.ok k),(z1t.ok k),(z1d.ok k),(z2e.ok k),trivial⟩) mixed Tryz.func144 (by kernel_rfl) (by kernel_rfl) (by kernel_rfl) (by kernel_rfl) (by kernel_rfl) (by kernel_rfl) (fun x=>by kernel_rfl)
def z2f.body:Go.Code:=Tryz.f61.body.getD .skip
def z2f.rs:List Go.ResultVar:=Tryz.f61.results.toList
def z2f.regs:List (Nat × RInfo):=[(0,⟨[1],[1],[0],[],0,[],[],[],[],[]⟩),(1,ri [1,3] [1]),(2,ri [1,3,8] [1]),(3,ri [1,3] [1]),(4,rq [1,4] [1] 19),(5,ri [4,29,30,31] []),(6,⟨[4,29,30,31,32],[],[],[],0,[4,29,30,31],[],[],[],[]⟩),(7,⟨[4,6,29,30,31],[6],[3],[],0,[],[],[],[],[]⟩),(8,ri [4,29,30,31] []),(9,ri [4,29,30,31] []),(10,ri [2] [])]
def z2f.cx (k:Nat):Cx:=⟨tt,pp,[(62,(z2e.e k)),(60,packIntE),(144,(z2j.e k))],z2f.regs,k,mm⟩
@[reducible] def z2f.sg:Sg:=⟨[.dat tTxn],[],.dat .str,[]⟩
def z2f.f (k:Nat) (a0:Ty.D tTxn):Option (Sg.Out z2f.sg):=Sg.fn z2f.sg (z2f.cx k) z2f.body z2f.rs a0
def z2f.l6 (k:Nat) (n:Nat) (x4:Ty.D .str) (x29:Ty.D (.slc tOp)) (x30:Ty.D (.int .i64)) (x31:Ty.D (.int .i64)):Option (Sg.Out z2f.sg):=loopAt (z2f.cx k) z2f.body [1,1,1,1,0,1,0] 6 [4,29,30,31] [] [] (Sg.K z2f.sg (z2f.cx k) z2f.rs) n ⟨[(4,.dat .str x4),(29,.dat (.slc tOp) x29),(30,.dat (.int .i64) x30),(31,.dat (.int .i64) x31)],[]⟩
theorem z2f.f_eq (k:Nat) (a0:Ty.D tTxn):z2f.f k a0=br a0.2.2.2.1 (bnd (z2e.f k a0.1) fun r0=>bnd (packI a0.2.1) fun r1=>br (roomS r0 r1) (bnd (packI a0.2.2.1) fun r2=>br (roomS (app r0 r1) r2) (bnd (packI 1) fun r3=>br (roomS (app (app r0 r1) r2) r3) (bnd (packI (ilen a0.2.2.2.2)) fun r4=>br (roomS (app (app (app r0 r1) r2) r3) r4) (z2f.l6 k k (app (app (app (app r0 r1) r2) r3) r4) a0.2.2.2.2 (ilen a0.2.2.2.2) 0) none) none) none) none) (bnd (z2e.f k a0.1) fun r5=>bnd (packI a0.2.1) fun r6=>br (roomS r5 r6) (bnd (packI a0.2.2.1) fun r7=>br (roomS (app r5 r6) r7) (bnd (packI 0) fun r8=>br (roomS (app (app r5 r6) r7) r8) (bnd (packI (ilen a0.2.2.2.2)) fun r9=>br (roomS (app (app (app r5 r6) r7) r8) r9) (z2f.l6 k k (app (app (app (app r5 r6) r7) r8) r9) a0.2.2.2.2 (ilen a0.2.2.2.2) 0) none) none) none) none):=by kernel_rfl
theorem z2f.l6_eq (k:Nat) (n6:Nat) (x4:Ty.D .str) (x29:Ty.D (.slc tOp)) (x30:Ty.D (.int .i64)) (x31:Ty.D (.int .i64)):z2f.l6 k (n6+1) x4 x29 x30 x31=br (ilt x31 x30) (br (inL x31 x29) (bnd (z2j.f k (rd tOp x29 (natOf x31))) fun r0=>br (roomS x4 r0) (z2f.l6 k n6 (app x4 r0) x29 x30 (iadd .i64 x31 1)) none) none) (some x4):=by kernel_rfl
def z2f.e (k:Nat):Entry:=Sg.entry z2f.sg fun x=>z2f.f k x
theorem z2f.ok (k:Nat):CallOK Tryz.prog 61 (z2f.e k):=fn_ok (c:=z2f.cx k) (code:=z2f.body) (TT.of tt_ok pp_ok mm_ok) (fns_ok ⟨(z2e.ok k),packint_ok,(z2j.ok k),trivial⟩) mixed Tryz.func61 (by kernel_rfl) (by kernel_rfl) (by kernel_rfl) (by kernel_rfl) (by kernel_rfl) (by kernel_rfl) (fun x=>by kernel_rfl)
def z2a.body:Go.Code:=Tryz.f99.body.getD .skip
def z2a.rs:List Go.ResultVar:=Tryz.f99.results.toList
def z2a.regs:List (Nat × RInfo):=[(0,ri [0] []),(1,ri [0,3] [8]),(2,ri [3,9,10,11] [8]),(3,⟨[3,9,10,11,12],[8],[],[],0,[3,9,10,11],[8],[],[],[]⟩),(4,⟨[3,5,9,10,11],[5,8],[3],[],0,[],[],[],[],[]⟩),(5,ri [3,9,10,11] [8]),(6,ri [3,9,10,11] [8]),(7,ri [2] [8])]
def z2a.cx (k:Nat):Cx:=⟨tt,pp,[(60,packIntE),(61,(z2f.e k))],z2a.regs,k,mm⟩
@[reducible] def z2a.sg:Sg:=⟨[.dat (.slc tTxn)],[],.dat .str,[]⟩
def z2a.f (k:Nat) (a0:Ty.D (.slc tTxn)):Option (Sg.Out z2a.sg):=Sg.fn z2a.sg (z2a.cx k) z2a.body z2a.rs a0
def z2a.l3 (k:Nat) (n:Nat) (x3:Ty.D .str) (x9:Ty.D (.slc tTxn)) (x10:Ty.D (.int .i64)) (x11:Ty.D (.int .i64)):Option (Sg.Out z2a.sg):=loopAt (z2a.cx k) z2a.body [1,1,0,1,0] 3 [3,9,10,11] [8] [] (Sg.K z2a.sg (z2a.cx k) z2a.rs) n ⟨[(3,.dat .str x3),(9,.dat (.slc tTxn) x9),(10,.dat (.int .i64) x10),(11,.dat (.int .i64) x11)],[]⟩
theorem z2a.f_eq (k:Nat) (a0:Ty.D (.slc tTxn)):z2a.f k a0=bnd (packI (ilen a0)) fun r0=>z2a.l3 k k r0 a0 (ilen a0) 0:=by kernel_rfl
theorem z2a.l3_eq (k:Nat) (n3:Nat) (x3:Ty.D .str) (x9:Ty.D (.slc tTxn)) (x10:Ty.D (.int .i64)) (x11:Ty.D (.int .i64)):z2a.l3 k (n3+1) x3 x9 x10 x11=br (ilt x11 x10) (br (inL x11 x9) (bnd (z2f.f k (rd tTxn x9 (natOf x11))) fun r0=>br (roomS x3 r0) (z2a.l3 k n3 (app x3 r0) x9 x10 (iadd .i64 x11 1)) none) none) (some x3):=by kernel_rfl
def z2a.e (k:Nat):Entry:=Sg.entry z2a.sg fun x=>z2a.f k x
theorem z2a.ok (k:Nat):CallOK Tryz.prog 99 (z2a.e k):=fn_ok (c:=z2a.cx k) (code:=z2a.body) (TT.of tt_ok pp_ok mm_ok) (fns_ok ⟨packint_ok,(z2f.ok k),trivial⟩) mixed Tryz.func99 (by kernel_rfl) (by kernel_rfl) (by kernel_rfl) (by kernel_rfl) (by kernel_rfl) (by kernel_rfl) (fun x=>by kernel_rfl)
def z1z.body:Go.Code:=Tryz.f100.body.getD .skip
def z1z.rs:List Go.ResultVar:=Tryz.f100.results.toList
def z1z.regs:List (Nat × RInfo):=[(0,ri [0] []),(1,ri [0,3] [8]),(2,ri [3,9,10,11] [8]),(3,⟨[3,9,10,11,12],[8],[],[],0,[3,9,10,11],[8],[],[],[]⟩),(4,ri [3,5,9,10,11] [5,8]),(5,rq [3,9,10,11] [8] 9),(6,ri [3,9,10,11] [8]),(7,ri [2] [8])]
def z1z.cx (k:Nat):Cx:=⟨tt,pp,[(60,packIntE),(62,(z2e.e k))],z1z.regs,k,mm⟩
@[reducible] def z1z.sg:Sg:=⟨[.dat (.slc tUndo)],[],.dat .str,[]⟩
def z1z.f (k:Nat) (a0:Ty.D (.slc tUndo)):Option (Sg.Out z1z.sg):=Sg.fn z1z.sg (z1z.cx k) z1z.body z1z.rs a0
def z1z.l3 (k:Nat) (n:Nat) (x3:Ty.D .str) (x9:Ty.D (.slc tUndo)) (x10:Ty.D (.int .i64)) (x11:Ty.D (.int .i64)):Option (Sg.Out z1z.sg):=loopAt (z1z.cx k) z1z.body [1,1,0,1,0] 3 [3,9,10,11] [8] [] (Sg.K z1z.sg (z1z.cx k) z1z.rs) n ⟨[(3,.dat .str x3),(9,.dat (.slc tUndo) x9),(10,.dat (.int .i64) x10),(11,.dat (.int .i64) x11)],[]⟩
theorem z1z.f_eq (k:Nat) (a0:Ty.D (.slc tUndo)):z1z.f k a0=bnd (packI (ilen a0)) fun r0=>z1z.l3 k k r0 a0 (ilen a0) 0:=by kernel_rfl
theorem z1z.l3_eq (k:Nat) (n3:Nat) (x3:Ty.D .str) (x9:Ty.D (.slc tUndo)) (x10:Ty.D (.int .i64)) (x11:Ty.D (.int .i64)):z1z.l3 k (n3+1) x3 x9 x10 x11=br (ilt x11 x10) (br (inL x11 x9) (bnd (z2e.f k ((rd tUndo x9 (natOf x11)).1)) fun r0=>bnd (packI ((rd tUndo x9 (natOf x11)).2)) fun r1=>br (roomS r0 r1) (br (roomS x3 (app r0 r1)) (z1z.l3 k n3 (app x3 (app r0 r1)) x9 x10 (iadd .i64 x11 1)) none) none) none) (some x3):=by kernel_rfl
def z1z.e (k:Nat):Entry:=Sg.entry z1z.sg fun x=>z1z.f k x
theorem z1z.ok (k:Nat):CallOK Tryz.prog 100 (z1z.e k):=fn_ok (c:=z1z.cx k) (code:=z1z.body) (TT.of tt_ok pp_ok mm_ok) (fns_ok ⟨packint_ok,(z2e.ok k),trivial⟩) mixed Tryz.func100 (by kernel_rfl) (by kernel_rfl) (by kernel_rfl) (by kernel_rfl) (by kernel_rfl) (by kernel_rfl) (fun x=>by kernel_rfl)
def z1X.body:Go.Code:=Tryz.f101.body.getD .skip
def z1X.rs:List Go.ResultVar:=Tryz.f101.results.toList
def z1X.regs:List (Nat × RInfo):=[(0,ri [0] []),(1,ri [0,3] [8]),(2,ri [3,9,10,11] [8]),(3,⟨[3,9,10,11,12],[8],[],[],0,[3,9,10,11],[8],[],[],[]⟩),(4,ri [3,5,9,10,11] [5,8]),(5,ri [3,9,10,11] [8]),(6,ri [3,9,10,11] [8]),(7,ri [2] [8])]
def z1X.cx (k:Nat):Cx:=⟨tt,pp,[(60,packIntE),(62,(z2e.e k))],z1X.regs,k,mm⟩
@[reducible] def z1X.sg:Sg:=⟨[.dat (.slc tDot)],[],.dat .str,[]⟩
def z1X.f (k:Nat) (a0:Ty.D (.slc tDot)):Option (Sg.Out z1X.sg):=Sg.fn z1X.sg (z1X.cx k) z1X.body z1X.rs a0
def z1X.l3 (k:Nat) (n:Nat) (x3:Ty.D .str) (x9:Ty.D (.slc tDot)) (x10:Ty.D (.int .i64)) (x11:Ty.D (.int .i64)):Option (Sg.Out z1X.sg):=loopAt (z1X.cx k) z1X.body [1,1,0,1,0] 3 [3,9,10,11] [8] [] (Sg.K z1X.sg (z1X.cx k) z1X.rs) n ⟨[(3,.dat .str x3),(9,.dat (.slc tDot) x9),(10,.dat (.int .i64) x10),(11,.dat (.int .i64) x11)],[]⟩
theorem z1X.f_eq (k:Nat) (a0:Ty.D (.slc tDot)):z1X.f k a0=bnd (packI (ilen a0)) fun r0=>z1X.l3 k k r0 a0 (ilen a0) 0:=by kernel_rfl
theorem z1X.l3_eq (k:Nat) (n3:Nat) (x3:Ty.D .str) (x9:Ty.D (.slc tDot)) (x10:Ty.D (.int .i64)) (x11:Ty.D (.int .i64)):z1X.l3 k (n3+1) x3 x9 x10 x11=br (ilt x11 x10) (br (inL x11 x9) (bnd (z2e.f k (rd tDot x9 (natOf x11))) fun r0=>br (roomS x3 r0) (z1X.l3 k n3 (app x3 r0) x9 x10 (iadd .i64 x11 1)) none) none) (some x3):=by kernel_rfl
def z1X.e (k:Nat):Entry:=Sg.entry z1X.sg fun x=>z1X.f k x
theorem z1X.ok (k:Nat):CallOK Tryz.prog 101 (z1X.e k):=fn_ok (c:=z1X.cx k) (code:=z1X.body) (TT.of tt_ok pp_ok mm_ok) (fns_ok ⟨packint_ok,(z2e.ok k),trivial⟩) mixed Tryz.func101 (by kernel_rfl) (by kernel_rfl) (by kernel_rfl) (by kernel_rfl) (by kernel_rfl) (by kernel_rfl) (fun x=>by kernel_rfl)
def z0C.body:Go.Code:=Tryz.f39.body.getD .skip
def z0C.rs:List Go.ResultVar:=Tryz.f39.results.toList
def z0C.regs:List (Nat × RInfo):=[(0,⟨[1],[1],[0],[],0,[],[],[],[],[]⟩),(1,rq [2] [] 11)]
def z0C.cx (k:Nat):Cx:=⟨tt,pp,[(99,(z2a.e k)),(100,(z1z.e k)),(101,(z1X.e k))],z0C.regs,k,mm⟩
@[reducible] def z0C.sg:Sg:=⟨[.dat tDelta],[],.dat .str,[]⟩
def z0C.f (k:Nat) (a0:Ty.D tDelta):Option (Sg.Out z0C.sg):=Sg.fn z0C.sg (z0C.cx k) z0C.body z0C.rs a0
theorem z0C.f_eq (k:Nat) (a0:Ty.D tDelta):z0C.f k a0=bnd (z2a.f k a0.1) fun r0=>bnd (z1z.f k a0.2.1) fun r1=>br (roomS r0 r1) (bnd (z1X.f k a0.2.2) fun r2=>br (roomS (app r0 r1) r2) (some (app (app r0 r1) r2)) none) none:=by kernel_rfl
def z0C.e (k:Nat):Entry:=Sg.entry z0C.sg fun x=>z0C.f k x
theorem z0C.ok (k:Nat):CallOK Tryz.prog 39 (z0C.e k):=fn_ok (c:=z0C.cx k) (code:=z0C.body) (TT.of tt_ok pp_ok mm_ok) (fns_ok ⟨(z2a.ok k),(z1z.ok k),(z1X.ok k),trivial⟩) mixed Tryz.func39 (by kernel_rfl) (by kernel_rfl) (by kernel_rfl) (by kernel_rfl) (by kernel_rfl) (by kernel_rfl) (fun x=>by kernel_rfl)
def z26.body:Go.Code:=Tryz.f197.body.getD .skip
def z26.rs:List Go.ResultVar:=Tryz.f197.results.toList
def z26.regs:List (Nat × RInfo):=[(0,ri [1] [1]),(1,ri [1,3] [1]),(2,ri [3,6,7] []),(3,⟨[3,6,7,8],[],[],[],0,[3,6,7],[],[],[],[]⟩),(4,ri [3,5,6,7] []),(5,ri [3,6,7] []),(6,ri [3,6,7] []),(7,ri [2] [])]
def z26.cx (k:Nat):Cx:=⟨tt,pp,[(60,packIntE)],z26.regs,k,mm⟩
@[reducible] def z26.sg:Sg:=⟨[.dat tVec],[],.dat .str,[]⟩
def z26.f (k:Nat) (a0:Ty.D tVec):Option (Sg.Out z26.sg):=Sg.fn z26.sg (z26.cx k) z26.body z26.rs a0
def z26.l3 (k:Nat) (n:Nat) (x3:Ty.D .str) (x6:Ty.D tVec) (x7:Ty.D (.int .i64)):Option (Sg.Out z26.sg):=loopAt (z26.cx k) z26.body [1,1,0,1,0] 3 [3,6,7] [] [] (Sg.K z26.sg (z26.cx k) z26.rs) n ⟨[(3,.dat .str x3),(6,.dat tVec x6),(7,.dat (.int .i64) x7)],[]⟩
theorem z26.f_eq (k:Nat) (a0:Ty.D tVec):z26.f k a0=z26.l3 k k [] a0 0:=by kernel_rfl
theorem z26.l3_eq (k:Nat) (n3:Nat) (x3:Ty.D .str) (x6:Ty.D tVec) (x7:Ty.D (.int .i64)):z26.l3 k (n3+1) x3 x6 x7=br (ilt x7 16) (br (inB x7 16) (bnd (packI (rd (.int .i64) x6 (natOf x7))) fun r0=>br (roomS x3 r0) (z26.l3 k n3 (app x3 r0) x6 (iadd .i64 x7 1)) none) none) (some x3):=by kernel_rfl
def z26.e (k:Nat):Entry:=Sg.entry z26.sg fun x=>z26.f k x
theorem z26.ok (k:Nat):CallOK Tryz.prog 197 (z26.e k):=fn_ok (c:=z26.cx k) (code:=z26.body) (TT.of tt_ok pp_ok mm_ok) (fns_ok ⟨packint_ok,trivial⟩) mixed Tryz.func197 (by kernel_rfl) (by kernel_rfl) (by kernel_rfl) (by kernel_rfl) (by kernel_rfl) (by kernel_rfl) (fun x=>by kernel_rfl)
def z1G.body:Go.Code:=Tryz.f145.body.getD .skip
def z1G.rs:List Go.ResultVar:=Tryz.f145.results.toList
def z1G.regs:List (Nat × RInfo):=[(0,⟨[1],[1],[0],[],0,[],[],[],[],[]⟩),(1,rq [2] [] 7)]
def z1G.cx (k:Nat):Cx:=⟨tt,pp,[(197,(z26.e k)),(101,(z1X.e k))],z1G.regs,k,mm⟩
@[reducible] def z1G.sg:Sg:=⟨[.dat tDots],[],.dat .str,[]⟩
def z1G.f (k:Nat) (a0:Ty.D tDots):Option (Sg.Out z1G.sg):=Sg.fn z1G.sg (z1G.cx k) z1G.body z1G.rs a0
theorem z1G.f_eq (k:Nat) (a0:Ty.D tDots):z1G.f k a0=bnd (z26.f k a0.1) fun r0=>bnd (z1X.f k a0.2) fun r1=>br (roomS r0 r1) (some (app r0 r1)) none:=by kernel_rfl
def z1G.e (k:Nat):Entry:=Sg.entry z1G.sg fun x=>z1G.f k x
theorem z1G.ok (k:Nat):CallOK Tryz.prog 145 (z1G.e k):=fn_ok (c:=z1G.cx k) (code:=z1G.body) (TT.of tt_ok pp_ok mm_ok) (fns_ok ⟨(z26.ok k),(z1X.ok k),trivial⟩) mixed Tryz.func145 (by kernel_rfl) (by kernel_rfl) (by kernel_rfl) (by kernel_rfl) (by kernel_rfl) (by kernel_rfl) (fun x=>by kernel_rfl)
@[reducible] def state_Code.sg:Sg:=⟨[.dat tState],[],.dat .str,[]⟩
@[reducible] def record_Code.sg:Sg:=⟨[.dat tRecord],[],.dat .str,[]⟩
@[reducible] def ref23_Bare.sg:Sg:=⟨[.dat tRecord],[],.dat tRecord,[]⟩
@[reducible] def law23_RecordBack.sg:Sg:=⟨[.dat tRecord],[],.dat .bool,[]⟩
def z1i.body:Go.Code:=Tryz.f66.body.getD .skip
def z1i.rs:List Go.ResultVar:=Tryz.f66.results.toList
def z1i.regs:List (Nat × RInfo):=[(0,ri [1] [1]),(1,rq [2] [] 7)]
def z1i.cx (k:Nat):Cx:=⟨tt,pp,[(64,packIntE)],z1i.regs,k,mm⟩
@[reducible] def z1i.sg:Sg:=⟨[.dat tDot],[],.dat .str,[]⟩
def z1i.f (k:Nat) (a0:Ty.D tDot):Option (Sg.Out z1i.sg):=Sg.fn z1i.sg (z1i.cx k) z1i.body z1i.rs a0
theorem z1i.f_eq (k:Nat) (a0:Ty.D tDot):z1i.f k a0=bnd (packI a0.1) fun r0=>bnd (packI a0.2) fun r1=>br (roomS r0 r1) (some (app r0 r1)) none:=by kernel_rfl
def z1i.e (k:Nat):Entry:=Sg.entry z1i.sg fun x=>z1i.f k x
def z1u.body:Go.Code:=Tryz.f154.body.getD .skip
def z1u.rs:List Go.ResultVar:=Tryz.f154.results.toList
def z1u.regs:List (Nat × RInfo):=[(0,ri [0] []),(1,ri [2] [])]
def z1u.cx (k:Nat):Cx:=⟨tt,pp,[(64,packIntE)],z1u.regs,k,mm⟩
@[reducible] def z1u.sg:Sg:=⟨[.dat .str],[],.dat .str,[]⟩
def z1u.f (k:Nat) (a0:Ty.D .str):Option (Sg.Out z1u.sg):=Sg.fn z1u.sg (z1u.cx k) z1u.body z1u.rs a0
theorem z1u.f_eq (k:Nat) (a0:Ty.D .str):z1u.f k a0=bnd (packI (ilen a0)) fun r0=>br (roomS r0 a0) (some (app r0 a0)) none:=by kernel_rfl
def z1u.e (k:Nat):Entry:=Sg.entry z1u.sg fun x=>z1u.f k x
theorem z1u.ok (k:Nat):CallOK Tryz.prog 154 (z1u.e k):=fn_ok (c:=z1u.cx k) (code:=z1u.body) (TT.of tt_ok pp_ok mm_ok) (fns_ok ⟨rpackint_ok,trivial⟩) mixed Tryz.func154 (by kernel_rfl) (by kernel_rfl) (by kernel_rfl) (by kernel_rfl) (by kernel_rfl) (by kernel_rfl) (fun x=>by kernel_rfl)
def z1v.body:Go.Code:=Tryz.f198.body.getD .skip
def z1v.rs:List Go.ResultVar:=Tryz.f198.results.toList
def z1v.regs:List (Nat × RInfo):=[(0,ri [0] []),(1,ri [0,3] [7]),(2,ri [0,3,4] [7]),(3,⟨[0,3,4,11],[7],[],[],0,[0,3,4],[7],[],[],[]⟩),(5,ri [0,3,4] [7]),(4,ri [0,3,4] [7]),(6,ri [2] [7])]
def z1v.cx (k:Nat):Cx:=⟨tt,pp,[(64,packIntE),(154,(z1u.e k))],z1v.regs,k,mm⟩
@[reducible] def z1v.sg:Sg:=⟨[.dat (.slc .str)],[],.dat .str,[]⟩
def z1v.f (k:Nat) (a0:Ty.D (.slc .str)):Option (Sg.Out z1v.sg):=Sg.fn z1v.sg (z1v.cx k) z1v.body z1v.rs a0
def z1v.l3 (k:Nat) (n:Nat) (x0:Ty.D (.slc .str)) (x3:Ty.D .str) (x4:Ty.D (.int .i64)):Option (Sg.Out z1v.sg):=loopAt (z1v.cx k) z1v.body [1,1,0,1,0] 3 [0,3,4] [7] [] (Sg.K z1v.sg (z1v.cx k) z1v.rs) n ⟨[(0,.dat (.slc .str) x0),(3,.dat .str x3),(4,.dat (.int .i64) x4)],[]⟩
theorem z1v.f_eq (k:Nat) (a0:Ty.D (.slc .str)):z1v.f k a0=bnd (packI (ilen a0)) fun r0=>z1v.l3 k k a0 r0 0:=by kernel_rfl
theorem z1v.l3_eq (k:Nat) (n3:Nat) (x0:Ty.D (.slc .str)) (x3:Ty.D .str) (x4:Ty.D (.int .i64)):z1v.l3 k (n3+1) x0 x3 x4=br (ilt x4 (ilen x0)) (br (inL x4 x0) (bnd (z1u.f k (rd .str x0 (natOf x4))) fun r0=>br (roomS x3 r0) (z1v.l3 k n3 x0 (app x3 r0) (iadd .i64 x4 1)) none) none) (some x3):=by kernel_rfl
def z1v.e (k:Nat):Entry:=Sg.entry z1v.sg fun x=>z1v.f k x
def z1k.body:Go.Code:=Tryz.f199.body.getD .skip
def z1k.rs:List Go.ResultVar:=Tryz.f199.results.toList
def z1k.regs:List (Nat × RInfo):=[(0,ri [0] []),(1,ri [0,4] []),(2,ri [2] []),(3,ri [2] [])]
def z1k.cx (k:Nat):Cx:=⟨tt,pp,[],z1k.regs,k,mm⟩
@[reducible] def z1k.sg:Sg:=⟨[.dat (.int .i64)],[],.dat (.int .i64),[]⟩
def z1k.f (k:Nat) (a0:Ty.D (.int .i64)):Option (Sg.Out z1k.sg):=Sg.fn z1k.sg (z1k.cx k) z1k.body z1k.rs a0
theorem z1k.f_eq (k:Nat) (a0:Ty.D (.int .i64)):z1k.f k a0=br (ilt a0 0) (some (isub .i64 (isub .i64 (isub .i64 0 a0) a0) 1)) (some (iadd .i64 a0 a0)):=by kernel_rfl
def z1k.e (k:Nat):Entry:=Sg.entry z1k.sg fun x=>z1k.f k x
def z1b.body:Go.Code:=Tryz.f200.body.getD .skip
def z1b.rs:List Go.ResultVar:=Tryz.f200.results.toList
def z1b.regs:List (Nat × RInfo):=[(0,ri [1] [1]),(1,ri [1,5] [1]),(2,rq [2] [] 5),(3,rq [2] [] 8)]
def z1b.cx (k:Nat):Cx:=⟨tt,pp,[(64,packIntE),(154,(z1u.e k)),(199,(z1k.e k))],z1b.regs,k,mm⟩
@[reducible] def z1b.sg:Sg:=⟨[.dat tValue],[],.dat .str,[]⟩
def z1b.f (k:Nat) (a0:Ty.D tValue):Option (Sg.Out z1b.sg):=Sg.fn z1b.sg (z1b.cx k) z1b.body z1b.rs a0
theorem z1b.f_eq (k:Nat) (a0:Ty.D tValue):z1b.f k a0=br (ieq a0.1 2) (bnd (packI 2) fun r0=>bnd (z1u.f k a0.2.2) fun r1=>br (roomS r0 r1) (some (app r0 r1)) none) (bnd (packI a0.1) fun r2=>bnd (z1k.f k a0.2.1) fun r3=>bnd (packI r3) fun r4=>br (roomS r2 r4) (some (app r2 r4)) none):=by kernel_rfl
def z1b.e (k:Nat):Entry:=Sg.entry z1b.sg fun x=>z1b.f k x
def z1c.body:Go.Code:=Tryz.f146.body.getD .skip
def z1c.rs:List Go.ResultVar:=Tryz.f146.results.toList
def z1c.regs:List (Nat × RInfo):=[(0,⟨[1],[1],[0],[],0,[],[],[],[],[]⟩),(1,ri [1,3] [1,7]),(2,ri [1,3,9] [1,7,9]),(3,ri [2] [7]),(4,ri [1,3] [1,7]),(5,ri [1,3,18] [1,7]),(6,ri [2] [7]),(7,ri [1,3,27] [1,7]),(8,ri [1,3] [1,7]),(9,ri [1,3,35] [1,7]),(10,ri [2] [7]),(11,ri [1,3] [1,7]),(12,ri [1,3,4] [1,7]),(13,⟨[1,3,4,47],[1,7],[],[],0,[1,3,4],[1,7],[],[],[]⟩),(15,rq [1,3,4] [1,7] 17),(14,ri [1,3,4] [1,7]),(16,ri [2] [7])]
def z1c.cx (k:Nat):Cx:=⟨tt,pp,[(64,packIntE),(116,(z1A.e k)),(198,(z1v.e k)),(199,(z1k.e k)),(200,(z1b.e k)),(66,(z1i.e k))],z1c.regs,k,mm⟩
@[reducible] def z1c.sg:Sg:=⟨[.dat tOp],[],.dat .str,[]⟩
def z1c.f (k:Nat) (a0:Ty.D tOp):Option (Sg.Out z1c.sg):=Sg.fn z1c.sg (z1c.cx k) z1c.body z1c.rs a0
def z1c.l13 (k:Nat) (n:Nat) (x3:Ty.D .str) (x4:Ty.D (.int .i64)) (m1:Ty.D tOp):Option (Sg.Out z1c.sg):=loopAt (z1c.cx k) z1c.body [1,1,1,1,1,1,1,1,0,1,0] 13 [1,3,4] [1,7] [] (Sg.K z1c.sg (z1c.cx k) z1c.rs) n ⟨[(1,.ref 1 []),(3,.dat .str x3),(4,.dat (.int .i64) x4)],[(1,.dat tOp m1)]⟩
theorem z1c.f_eq (k:Nat) (a0:Ty.D tOp):z1c.f k a0=bnd (packI a0.1) fun r0=>bnd (z1A.f k a0) fun r1=>br r1 (some r0) (bnd (z1v.f k a0.2.1) fun r2=>br (roomS r0 r2) (br (ieq a0.1 3) (bnd (z1k.f k a0.2.2.2.1) fun r3=>bnd (packI r3) fun r4=>br (roomS (app r0 r2) r4) (some (app (app r0 r2) r4)) none) (br (bnot (ieq a0.1 5)) (bnd (z1b.f k a0.2.2.1) fun r5=>br (roomS (app r0 r2) r5) (br (ieq a0.1 2) (some (app (app r0 r2) r5)) (bnd (packI (ilen a0.2.2.2.2)) fun r6=>br (roomS (app (app r0 r2) r5) r6) (z1c.l13 k k (app (app (app r0 r2) r5) r6) 0 a0) none)) none) (br (ieq a0.1 2) (some (app r0 r2)) (bnd (packI (ilen a0.2.2.2.2)) fun r7=>br (roomS (app r0 r2) r7) (z1c.l13 k k (app (app r0 r2) r7) 0 a0) none)))) none):=by kernel_rfl
theorem z1c.l13_eq (k:Nat) (n13:Nat) (x3:Ty.D .str) (x4:Ty.D (.int .i64)) (m1:Ty.D tOp):z1c.l13 k (n13+1) x3 x4 m1=br (ilt x4 (ilen m1.2.2.2.2)) (br (inL x4 m1.2.2.2.2) (bnd (z1i.f k ((rd tUndo m1.2.2.2.2 (natOf x4)).1)) fun r0=>br (roomS x3 r0) (br (inL x4 m1.2.2.2.2) (bnd (packI ((rd tUndo m1.2.2.2.2 (natOf x4)).2)) fun r1=>br (roomS (app x3 r0) r1) (z1c.l13 k n13 (app (app x3 r0) r1) (iadd .i64 x4 1) m1) none) none) none) none) (some x3):=by kernel_rfl
def z1c.e (k:Nat):Entry:=Sg.entry z1c.sg fun x=>z1c.f k x
def z1j.body:Go.Code:=Tryz.f65.body.getD .skip
def z1j.rs:List Go.ResultVar:=Tryz.f65.results.toList
def z1j.regs:List (Nat × RInfo):=[(0,⟨[1],[1],[0],[],0,[],[],[],[],[]⟩),(1,rq [1,3] [1] 11),(2,ri [1,3,17] [1]),(3,ri [1,3] [1]),(4,ri [1,3] [1]),(5,ri [1,3] [1]),(6,ri [1,3,4] [1]),(7,⟨[1,3,4,34],[1],[],[],0,[1,3,4],[1],[],[],[]⟩),(9,ri [1,3,4] [1]),(8,ri [1,3,4] [1]),(10,ri [2] [])]
def z1j.cx (k:Nat):Cx:=⟨tt,pp,[(66,(z1i.e k)),(64,packIntE),(146,(z1c.e k))],z1j.regs,k,mm⟩
@[reducible] def z1j.sg:Sg:=⟨[.dat tTxn],[],.dat .str,[]⟩
def z1j.f (k:Nat) (a0:Ty.D tTxn):Option (Sg.Out z1j.sg):=Sg.fn z1j.sg (z1j.cx k) z1j.body z1j.rs a0
def z1j.l7 (k:Nat) (n:Nat) (x3:Ty.D .str) (x4:Ty.D (.int .i64)) (m1:Ty.D tTxn):Option (Sg.Out z1j.sg):=loopAt (z1j.cx k) z1j.body [1,1,1,1,0,1,0] 7 [1,3,4] [1] [] (Sg.K z1j.sg (z1j.cx k) z1j.rs) n ⟨[(1,.ref 1 []),(3,.dat .str x3),(4,.dat (.int .i64) x4)],[(1,.dat tTxn m1)]⟩
theorem z1j.f_eq (k:Nat) (a0:Ty.D tTxn):z1j.f k a0=bnd (z1i.f k a0.1) fun r0=>bnd (packI a0.2.1) fun r1=>br (roomS r0 r1) (bnd (packI a0.2.2.1) fun r2=>br (roomS (app r0 r1) r2) (br a0.2.2.2.1 (bnd (packI 1) fun r3=>br (roomS (app (app r0 r1) r2) r3) (bnd (packI (ilen a0.2.2.2.2)) fun r4=>br (roomS (app (app (app r0 r1) r2) r3) r4) (z1j.l7 k k (app (app (app (app r0 r1) r2) r3) r4) 0 a0) none) none) (bnd (packI 0) fun r5=>br (roomS (app (app r0 r1) r2) r5) (bnd (packI (ilen a0.2.2.2.2)) fun r6=>br (roomS (app (app (app r0 r1) r2) r5) r6) (z1j.l7 k k (app (app (app (app r0 r1) r2) r5) r6) 0 a0) none) none)) none) none:=by kernel_rfl
theorem z1j.l7_eq (k:Nat) (n7:Nat) (x3:Ty.D .str) (x4:Ty.D (.int .i64)) (m1:Ty.D tTxn):z1j.l7 k (n7+1) x3 x4 m1=br (ilt x4 (ilen m1.2.2.2.2)) (br (inL x4 m1.2.2.2.2) (bnd (z1c.f k (rd tOp m1.2.2.2.2 (natOf x4))) fun r0=>br (roomS x3 r0) (z1j.l7 k n7 (app x3 r0) (iadd .i64 x4 1) m1) none) none) (some x3):=by kernel_rfl
def z1j.e (k:Nat):Entry:=Sg.entry z1j.sg fun x=>z1j.f k x
end Go.Proofs.YtggcagclpkhlhaaGreatDoor
end
noncomputable section
/- The program's functions, as plain equations. -/
namespace Go.Proofs.YtggcagclpkhlhaaGreatDoor
open Pal
set_option maxRecDepth 100000
def z1g.body:Go.Code:=Tryz.f102.body.getD .skip
def z1g.rs:List Go.ResultVar:=Tryz.f102.results.toList
def z1g.regs:List (Nat × RInfo):=[(0,ri [0] []),(1,ri [0,3] [7]),(2,ri [0,3,4] [7]),(3,⟨[0,3,4,11],[7],[],[],0,[0,3,4],[7],[],[],[]⟩),(5,ri [0,3,4] [7]),(4,ri [0,3,4] [7]),(6,ri [2] [7])]
def z1g.cx (k:Nat):Cx:=⟨tt,pp,[(64,packIntE),(65,(z1j.e k))],z1g.regs,k,mm⟩
@[reducible] def z1g.sg:Sg:=⟨[.dat (.slc tTxn)],[],.dat .str,[]⟩
def z1g.f (k:Nat) (a0:Ty.D (.slc tTxn)):Option (Sg.Out z1g.sg):=Sg.fn z1g.sg (z1g.cx k) z1g.body z1g.rs a0
def z1g.l3 (k:Nat) (n:Nat) (x0:Ty.D (.slc tTxn)) (x3:Ty.D .str) (x4:Ty.D (.int .i64)):Option (Sg.Out z1g.sg):=loopAt (z1g.cx k) z1g.body [1,1,0,1,0] 3 [0,3,4] [7] [] (Sg.K z1g.sg (z1g.cx k) z1g.rs) n ⟨[(0,.dat (.slc tTxn) x0),(3,.dat .str x3),(4,.dat (.int .i64) x4)],[]⟩
theorem z1g.f_eq (k:Nat) (a0:Ty.D (.slc tTxn)):z1g.f k a0=bnd (packI (ilen a0)) fun r0=>z1g.l3 k k a0 r0 0:=by kernel_rfl
theorem z1g.l3_eq (k:Nat) (n3:Nat) (x0:Ty.D (.slc tTxn)) (x3:Ty.D .str) (x4:Ty.D (.int .i64)):z1g.l3 k (n3+1) x0 x3 x4=br (ilt x4 (ilen x0)) (br (inL x4 x0) (bnd (z1j.f k (rd tTxn x0 (natOf x4))) fun r0=>br (roomS x3 r0) (z1g.l3 k n3 x0 (app x3 r0) (iadd .i64 x4 1)) none) none) (some x3):=by kernel_rfl
def z1g.e (k:Nat):Entry:=Sg.entry z1g.sg fun x=>z1g.f k x
def z1s.body:Go.Code:=Tryz.f103.body.getD .skip
def z1s.rs:List Go.ResultVar:=Tryz.f103.results.toList
def z1s.regs:List (Nat × RInfo):=[(0,ri [0] []),(1,ri [0,3] [7]),(2,ri [0,3,4] [7]),(3,⟨[0,3,4,11],[7],[],[],0,[0,3,4],[7],[],[],[]⟩),(5,rq [0,3,4] [7] 15),(4,ri [0,3,4] [7]),(6,ri [2] [7])]
def z1s.cx (k:Nat):Cx:=⟨tt,pp,[(64,packIntE),(66,(z1i.e k))],z1s.regs,k,mm⟩
@[reducible] def z1s.sg:Sg:=⟨[.dat (.slc tUndo)],[],.dat .str,[]⟩
def z1s.f (k:Nat) (a0:Ty.D (.slc tUndo)):Option (Sg.Out z1s.sg):=Sg.fn z1s.sg (z1s.cx k) z1s.body z1s.rs a0
def z1s.l3 (k:Nat) (n:Nat) (x0:Ty.D (.slc tUndo)) (x3:Ty.D .str) (x4:Ty.D (.int .i64)):Option (Sg.Out z1s.sg):=loopAt (z1s.cx k) z1s.body [1,1,0,1,0] 3 [0,3,4] [7] [] (Sg.K z1s.sg (z1s.cx k) z1s.rs) n ⟨[(0,.dat (.slc tUndo) x0),(3,.dat .str x3),(4,.dat (.int .i64) x4)],[]⟩
theorem z1s.f_eq (k:Nat) (a0:Ty.D (.slc tUndo)):z1s.f k a0=bnd (packI (ilen a0)) fun r0=>z1s.l3 k k a0 r0 0:=by kernel_rfl
theorem z1s.l3_eq (k:Nat) (n3:Nat) (x0:Ty.D (.slc tUndo)) (x3:Ty.D .str) (x4:Ty.D (.int .i64)):z1s.l3 k (n3+1) x0 x3 x4=br (ilt x4 (ilen x0)) (br (inL x4 x0) (bnd (z1i.f k ((rd tUndo x0 (natOf x4)).1)) fun r0=>br (roomS x3 r0) (br (inL x4 x0) (bnd (packI ((rd tUndo x0 (natOf x4)).2)) fun r1=>br (roomS (app x3 r0) r1) (z1s.l3 k n3 x0 (app (app x3 r0) r1) (iadd .i64 x4 1)) none) none) none) none) (some x3):=by kernel_rfl
def z1s.e (k:Nat):Entry:=Sg.entry z1s.sg fun x=>z1s.f k x
def z1q.body:Go.Code:=Tryz.f104.body.getD .skip
def z1q.rs:List Go.ResultVar:=Tryz.f104.results.toList
def z1q.regs:List (Nat × RInfo):=[(0,ri [0] []),(1,ri [0,3] [7]),(2,ri [0,3,4] [7]),(3,⟨[0,3,4,11],[7],[],[],0,[0,3,4],[7],[],[],[]⟩),(5,ri [0,3,4] [7]),(4,ri [0,3,4] [7]),(6,ri [2] [7])]
def z1q.cx (k:Nat):Cx:=⟨tt,pp,[(64,packIntE),(66,(z1i.e k))],z1q.regs,k,mm⟩
@[reducible] def z1q.sg:Sg:=⟨[.dat (.slc tDot)],[],.dat .str,[]⟩
def z1q.f (k:Nat) (a0:Ty.D (.slc tDot)):Option (Sg.Out z1q.sg):=Sg.fn z1q.sg (z1q.cx k) z1q.body z1q.rs a0
def z1q.l3 (k:Nat) (n:Nat) (x0:Ty.D (.slc tDot)) (x3:Ty.D .str) (x4:Ty.D (.int .i64)):Option (Sg.Out z1q.sg):=loopAt (z1q.cx k) z1q.body [1,1,0,1,0] 3 [0,3,4] [7] [] (Sg.K z1q.sg (z1q.cx k) z1q.rs) n ⟨[(0,.dat (.slc tDot) x0),(3,.dat .str x3),(4,.dat (.int .i64) x4)],[]⟩
theorem z1q.f_eq (k:Nat) (a0:Ty.D (.slc tDot)):z1q.f k a0=bnd (packI (ilen a0)) fun r0=>z1q.l3 k k a0 r0 0:=by kernel_rfl
theorem z1q.l3_eq (k:Nat) (n3:Nat) (x0:Ty.D (.slc tDot)) (x3:Ty.D .str) (x4:Ty.D (.int .i64)):z1q.l3 k (n3+1) x0 x3 x4=br (ilt x4 (ilen x0)) (br (inL x4 x0) (bnd (z1i.f k (rd tDot x0 (natOf x4))) fun r0=>br (roomS x3 r0) (z1q.l3 k n3 x0 (app x3 r0) (iadd .i64 x4 1)) none) none) (some x3):=by kernel_rfl
def z1q.e (k:Nat):Entry:=Sg.entry z1q.sg fun x=>z1q.f k x
def z0I.body:Go.Code:=Tryz.f40.body.getD .skip
def z0I.rs:List Go.ResultVar:=Tryz.f40.results.toList
def z0I.regs:List (Nat × RInfo):=[(0,⟨[1],[1],[0],[],0,[],[],[],[],[]⟩),(1,rq [2] [] 11)]
def z0I.cx (k:Nat):Cx:=⟨tt,pp,[(102,(z1g.e k)),(103,(z1s.e k)),(104,(z1q.e k))],z0I.regs,k,mm⟩
@[reducible] def z0I.sg:Sg:=⟨[.dat tDelta],[],.dat .str,[]⟩
def z0I.f (k:Nat) (a0:Ty.D tDelta):Option (Sg.Out z0I.sg):=Sg.fn z0I.sg (z0I.cx k) z0I.body z0I.rs a0
theorem z0I.f_eq (k:Nat) (a0:Ty.D tDelta):z0I.f k a0=bnd (z1g.f k a0.1) fun r0=>bnd (z1s.f k a0.2.1) fun r1=>br (roomS r0 r1) (bnd (z1q.f k a0.2.2) fun r2=>br (roomS (app r0 r1) r2) (some (app (app r0 r1) r2)) none) none:=by kernel_rfl
def z0I.e (k:Nat):Entry:=Sg.entry z0I.sg fun x=>z0I.f k x
@[reducible] def law23_RecordReads.sg:Sg:=⟨[.dat .str,.dat tDelta],[],.dat .bool,[]⟩
@[reducible] def ref22_Good.sg:Sg:=⟨[.dat tState],[],.dat .bool,[]⟩
def z1x.body:Go.Code:=Tryz.f201.body.getD .skip
def z1x.rs:List Go.ResultVar:=Tryz.f201.results.toList
def z1x.regs:List (Nat × RInfo):=[(0,ri [1] [1]),(1,ri [1,3] [1]),(2,ri [1,3,4] [1]),(3,⟨[1,3,4,6],[1],[],[],0,[1,3,4],[1],[],[],[]⟩),(5,ri [1,3,4] [1]),(4,ri [1,3,4] [1]),(6,ri [2] [])]
def z1x.cx (k:Nat):Cx:=⟨tt,pp,[(64,packIntE)],z1x.regs,k,mm⟩
@[reducible] def z1x.sg:Sg:=⟨[.dat tVec],[],.dat .str,[]⟩
def z1x.f (k:Nat) (a0:Ty.D tVec):Option (Sg.Out z1x.sg):=Sg.fn z1x.sg (z1x.cx k) z1x.body z1x.rs a0
def z1x.l3 (k:Nat) (n:Nat) (x3:Ty.D .str) (x4:Ty.D (.int .i64)) (m1:Ty.D tVec):Option (Sg.Out z1x.sg):=loopAt (z1x.cx k) z1x.body [1,1,0,1,0] 3 [1,3,4] [1] [] (Sg.K z1x.sg (z1x.cx k) z1x.rs) n ⟨[(1,.ref 1 []),(3,.dat .str x3),(4,.dat (.int .i64) x4)],[(1,.dat tVec m1)]⟩
theorem z1x.f_eq (k:Nat) (a0:Ty.D tVec):z1x.f k a0=z1x.l3 k k [] 0 a0:=by kernel_rfl
theorem z1x.l3_eq (k:Nat) (n3:Nat) (x3:Ty.D .str) (x4:Ty.D (.int .i64)) (m1:Ty.D tVec):z1x.l3 k (n3+1) x3 x4 m1=br (ilt x4 16) (br (inB x4 16) (bnd (packI (rd (.int .i64) m1 (natOf x4))) fun r0=>br (roomS x3 r0) (z1x.l3 k n3 (app x3 r0) (iadd .i64 x4 1) m1) none) none) (some x3):=by kernel_rfl
def z1x.e (k:Nat):Entry:=Sg.entry z1x.sg fun x=>z1x.f k x
def z1h.body:Go.Code:=Tryz.f147.body.getD .skip
def z1h.rs:List Go.ResultVar:=Tryz.f147.results.toList
def z1h.regs:List (Nat × RInfo):=[(0,⟨[1],[1],[0],[],0,[],[],[],[],[]⟩),(1,rq [2] [] 7)]
def z1h.cx (k:Nat):Cx:=⟨tt,pp,[(201,(z1x.e k)),(104,(z1q.e k))],z1h.regs,k,mm⟩
@[reducible] def z1h.sg:Sg:=⟨[.dat tDots],[],.dat .str,[]⟩
def z1h.f (k:Nat) (a0:Ty.D tDots):Option (Sg.Out z1h.sg):=Sg.fn z1h.sg (z1h.cx k) z1h.body z1h.rs a0
theorem z1h.f_eq (k:Nat) (a0:Ty.D tDots):z1h.f k a0=bnd (z1x.f k a0.1) fun r0=>bnd (z1q.f k a0.2) fun r1=>br (roomS r0 r1) (some (app r0 r1)) none:=by kernel_rfl
def z1h.e (k:Nat):Entry:=Sg.entry z1h.sg fun x=>z1h.f k x
@[reducible] def ref22_Code.sg:Sg:=⟨[.dat tState],[],.dat .str,[]⟩
@[reducible] def ref23_Code.sg:Sg:=⟨[.dat tRecord],[],.dat .str,[]⟩
@[reducible] def ref12_Find.sg:Sg:=⟨[.dat (.slc tTxn),.dat tDot],[],.dat (.int .i64),[]⟩
@[reducible] def ref12_Put.sg:Sg:=⟨[.dat (.slc tTxn),.dat tTxn],[],.dat (.slc tTxn),[]⟩
@[reducible] def ref22_Put.sg:Sg:=⟨[.dat tState,.dat tTxn],[],.dat tState,[]⟩
@[reducible] def ref08_Get.sg:Sg:=⟨[.dat (.slc tUndo),.dat tDot],[],.dat (.int .i64),[]⟩
@[reducible] def ref08_Put.sg:Sg:=⟨[.dat (.slc tUndo),.dat tUndo],[],.dat (.slc tUndo),[]⟩
@[reducible] def ref08_Join.sg:Sg:=⟨[.dat (.slc tUndo),.dat (.slc tUndo)],[],.dat (.slc tUndo),[]⟩
@[reducible] def ref22_Raise.sg:Sg:=⟨[.dat tState,.dat (.slc tUndo)],[],.dat tState,[]⟩
@[reducible] def ref22_Seal.sg:Sg:=⟨[.dat tState,.dat (.slc tDot)],[],.dat tState,[]⟩
@[reducible] def ref23_Merged.sg:Sg:=⟨[.dat tState,.dat tDelta],[],.dat tState,[]⟩
@[reducible] def ref23_Done.sg:Sg:=⟨[.dat tState,.dat tRecord],[],.dat tState,[]⟩
@[reducible] def law23_RecordTells.sg:Sg:=⟨[.dat tState,.dat tRecord],[],.dat .bool,[]⟩
def z10.body:Go.Code:=Tryz.f79.body.getD .skip
def z10.rs:List Go.ResultVar:=Tryz.f79.results.toList
def z10.regs:List (Nat × RInfo):=[(0,⟨[1],[1],[0],[],0,[],[],[],[],[]⟩),(1,ri [2] [])]
def z10.cx (k:Nat):Cx:=⟨tt,pp,[],z10.regs,k,mm⟩
@[reducible] def z10.sg:Sg:=⟨[.dat tKnow],[],.dat .bool,[]⟩
def z10.f (k:Nat) (a0:Ty.D tKnow):Option (Sg.Out z10.sg):=Sg.fn z10.sg (z10.cx k) z10.body z10.rs a0
theorem z10.f_eq (k:Nat) (a0:Ty.D tKnow):z10.f k a0=br (ile (ilen a0.1.2) 100) (br (ile (ilen a0.2.1) 100) (some (ile (ilen a0.2.2.2) 100)) (some false)) (some false):=by kernel_rfl
def z10.e (k:Nat):Entry:=Sg.entry z10.sg fun x=>z10.f k x
theorem z10.ok (k:Nat):CallOK Tryz.prog 79 (z10.e k):=fn_ok (c:=z10.cx k) (code:=z10.body) (TT.of tt_ok pp_ok mm_ok) (fns_ok trivial) mixed Tryz.func79 (by kernel_rfl) (by kernel_rfl) (by kernel_rfl) (by kernel_rfl) (by kernel_rfl) (by kernel_rfl) (fun x=>by kernel_rfl)
def z0M.body:Go.Code:=Tryz.f20.body.getD .skip
def z0M.rs:List Go.ResultVar:=Tryz.f20.results.toList
def z0M.regs:List (Nat × RInfo):=[(0,⟨[1],[1],[0],[],0,[],[],[],[],[]⟩),(1,ri [2] [5,9])]
def z0M.cx (k:Nat):Cx:=⟨tt,pp,[(37,(z0h.e k)),(79,(z10.e k))],z0M.regs,k,mm⟩
@[reducible] def z0M.sg:Sg:=⟨[.dat tMessage],[],.dat .bool,[]⟩
def z0M.f (k:Nat) (a0:Ty.D tMessage):Option (Sg.Out z0M.sg):=Sg.fn z0M.sg (z0M.cx k) z0M.body z0M.rs a0
theorem z0M.f_eq (k:Nat) (a0:Ty.D tMessage):z0M.f k a0=bnd (z0h.f k a0.2.2.2.1) fun r0=>br r0 (bnd (z10.f k a0.2.2.2.2) fun r1=>some r1) (some false):=by kernel_rfl
def z0M.e (k:Nat):Entry:=Sg.entry z0M.sg fun x=>z0M.f k x
theorem z0M.ok (k:Nat):CallOK Tryz.prog 20 (z0M.e k):=fn_ok (c:=z0M.cx k) (code:=z0M.body) (TT.of tt_ok pp_ok mm_ok) (fns_ok ⟨(z0h.ok k),(z10.ok k),trivial⟩) mixed Tryz.func20 (by kernel_rfl) (by kernel_rfl) (by kernel_rfl) (by kernel_rfl) (by kernel_rfl) (by kernel_rfl) (fun x=>by kernel_rfl)
def z1Y.body:Go.Code:=Tryz.f264.body.getD .skip
def z1Y.rs:List Go.ResultVar:=Tryz.f264.results.toList
def z1Y.regs:List (Nat × RInfo):=[(0,ri [0] [0]),(1,ri [0,1] [0,1]),(2,ri [0,1,4] [0,1]),(3,⟨[0,1,4,5],[0,1],[],[],0,[0,1,4],[0,1],[],[],[]⟩),(4,ri [0,1,2,4] [0,1]),(5,ri [0,1,2,3,4] [0,1]),(6,ri [0,1,2,3,4,9] [0,1]),(7,⟨[0,1,2,3,4,9,10],[0,1],[],[],0,[0,1,2,3,4,9],[0,1],[],[],[]⟩),(8,ri [0,1,2,3,4,9,13] [0,1]),(9,ri [0,1,2,3,4,9] [0,1]),(10,ri [0,1,2,3,4,9] [0,1]),(11,ri [0,1,2,3,4,9] [0,1]),(12,ri [0,1,4] [0,1]),(13,ri [0,1,4] [0,1]),(14,ri [0] [0])]
def z1Y.cx (k:Nat):Cx:=⟨tt,pp,[],z1Y.regs,k,mm⟩
@[reducible] def z1Y.sg:Sg:=⟨[],[],.dat (.arr 16 (.int .u32)),[]⟩
def z1Y.f (k:Nat):Option (Sg.Out z1Y.sg):=Sg.fn z1Y.sg (z1Y.cx k) z1Y.body z1Y.rs ()
def z1Y.l3 (k:Nat) (n:Nat) (x4:Ty.D (.int .i64)) (m0:Ty.D (.arr 16 (.int .u32))) (m1:Ty.D (.arr 16 (.int .u32))):Option (Sg.Out z1Y.sg):=loopAt (z1Y.cx k) z1Y.body [1,1,0,1,0] 3 [0,1,4] [0,1] [] (Sg.K z1Y.sg (z1Y.cx k) z1Y.rs) n ⟨[(0,.ref 0 []),(1,.ref 1 []),(4,.dat (.int .i64) x4)],[(0,.dat (.arr 16 (.int .u32)) m0),(1,.dat (.arr 16 (.int .u32)) m1)]⟩
def z1Y.l7 (k:Nat) (n3:Nat) (n:Nat) (x2:Ty.D (.int .i64)) (x3:Ty.D (.int .u32)) (x4:Ty.D (.int .i64)) (x9:Ty.D (.int .i64)) (m0:Ty.D (.arr 16 (.int .u32))) (m1:Ty.D (.arr 16 (.int .u32))):Option (Sg.Out z1Y.sg):=loopAt (z1Y.cx k) z1Y.body [1,1,0,1,0,0,1,1,0,0,1,1,0,1,0] 7 [0,1,2,3,4,9] [0,1] [n3] (Sg.K z1Y.sg (z1Y.cx k) z1Y.rs) n ⟨[(0,.ref 0 []),(1,.ref 1 []),(2,.dat (.int .i64) x2),(3,.dat (.int .u32) x3),(4,.dat (.int .i64) x4),(9,.dat (.int .i64) x9)],[(0,.dat (.arr 16 (.int .u32)) m0),(1,.dat (.arr 16 (.int .u32)) m1)]⟩
theorem z1Y.f_eq (k:Nat):z1Y.f k=z1Y.l3 k k 0 (zarr 16 0) (zarr 16 0):=by kernel_rfl
theorem z1Y.l3_eq (k:Nat) (n3:Nat) (x4:Ty.D (.int .i64)) (m0:Ty.D (.arr 16 (.int .u32))) (m1:Ty.D (.arr 16 (.int .u32))):z1Y.l3 k (n3+1) x4 m0 m1=br (ilt x4 16) (z1Y.l7 k n3 k x4 (iwrap .u32 x4) x4 0 m0 m1) (some m1):=by kernel_rfl
theorem z1Y.l7_eq (k:Nat) (n3:Nat) (n7:Nat) (x2:Ty.D (.int .i64)) (x3:Ty.D (.int .u32)) (x4:Ty.D (.int .i64)) (x9:Ty.D (.int .i64)) (m0:Ty.D (.arr 16 (.int .u32))) (m1:Ty.D (.arr 16 (.int .u32))):z1Y.l7 k n3 (n7+1) x2 x3 x4 x9 m0 m1=br (ilt x9 4) (br (ieq (iand .u32 x3 1) 1) (z1Y.l7 k n3 n7 x2 (ixor .u32 (ishr .u32 x3 1) 3988292384) x4 (iadd .i64 x9 1) m0 m1) (z1Y.l7 k n3 n7 x2 (ishr .u32 x3 1) x4 (iadd .i64 x9 1) m0 m1)) (br (inB x2 16) (z1Y.l3 k n3 (iadd .i64 x4 1) m0 (upd m1 (natOf x2) x3)) none):=by kernel_rfl
def z1Y.e (k:Nat):Entry:=Sg.entry z1Y.sg fun x=>z1Y.f k
theorem z1Y.ok (k:Nat):CallOK Tryz.prog 264 (z1Y.e k):=fn_ok (c:=z1Y.cx k) (code:=z1Y.body) (TT.of tt_ok pp_ok mm_ok) (fns_ok trivial) mixed Tryz.func264 (by kernel_rfl) (by kernel_rfl) (by kernel_rfl) (by kernel_rfl) (by kernel_rfl) (by kernel_rfl) (fun x=>by kernel_rfl)
def z2h.body:Go.Code:=Tryz.f240.body.getD .skip
def z2h.rs:List Go.ResultVar:=Tryz.f240.results.toList
def z2h.regs:List (Nat × RInfo):=[(0,ri [0,1] []),(1,ri [0,1,5] [5]),(2,ri [1,5,6] [5]),(3,ri [1,5,6,12,13] [5]),(4,⟨[1,5,6,12,13,14],[5],[],[],0,[1,5,6,12,13],[5],[],[],[]⟩),(5,ri [1,5,6,7,12,13] [5]),(6,ri [1,5,6,12,13] [5]),(7,ri [1,5,6,12,13] [5]),(8,ri [1,5,6,12,13] [5]),(9,ri [1,5,6,12,13] [5]),(10,ri [4] [])]
def z2h.cx (k:Nat):Cx:=⟨tt,pp,[(264,(z1Y.e k))],z2h.regs,k,mm⟩
@[reducible] def z2h.sg:Sg:=⟨[.dat (.int .u32),.dat .str],[],.dat (.int .u32),[]⟩
def z2h.f (k:Nat) (a0:Ty.D (.int .u32)) (a1:Ty.D .str):Option (Sg.Out z2h.sg):=Sg.fn z2h.sg (z2h.cx k) z2h.body z2h.rs (a0,a1)
def z2h.l4 (k:Nat) (n:Nat) (x1:Ty.D .str) (x6:Ty.D (.int .u32)) (x12:Ty.D (.int .i64)) (x13:Ty.D (.int .i64)) (m5:Ty.D (.arr 16 (.int .u32))):Option (Sg.Out z2h.sg):=loopAt (z2h.cx k) z2h.body [1,1,1,0,1,0] 4 [1,5,6,12,13] [5] [] (Sg.K z2h.sg (z2h.cx k) z2h.rs) n ⟨[(1,.dat .str x1),(5,.ref 5 []),(6,.dat (.int .u32) x6),(12,.dat (.int .i64) x12),(13,.dat (.int .i64) x13)],[(5,.dat (.arr 16 (.int .u32)) m5)]⟩
theorem z2h.f_eq (k:Nat) (a0:Ty.D (.int .u32)) (a1:Ty.D .str):z2h.f k a0 a1=bnd (z1Y.f k) fun r0=>z2h.l4 k k a1 (ixor .u32 4294967295 a0) (ilen a1) 0 r0:=by kernel_rfl
theorem z2h.l4_eq (k:Nat) (n4:Nat) (x1:Ty.D .str) (x6:Ty.D (.int .u32)) (x12:Ty.D (.int .i64)) (x13:Ty.D (.int .i64)) (m5:Ty.D (.arr 16 (.int .u32))):z2h.l4 k (n4+1) x1 x6 x12 x13 m5=br (ilt x13 x12) (br (inL x13 x1) (br (inB (iand .u32 (ixor .u32 x6 (iwrap .u32 (byteAt x1 x13))) 15) 16) (br (inB (iand .u32 (ixor .u32 (ishr .u32 (ixor .u32 x6 (iwrap .u32 (byteAt x1 x13))) 4) (rd (.int .u32) m5 (natOf (iand .u32 (ixor .u32 x6 (iwrap .u32 (byteAt x1 x13))) 15)))) 15) 16) (z2h.l4 k n4 x1 (ixor .u32 (ishr .u32 (ixor .u32 (ishr .u32 (ixor .u32 x6 (iwrap .u32 (byteAt x1 x13))) 4) (rd (.int .u32) m5 (natOf (iand .u32 (ixor .u32 x6 (iwrap .u32 (byteAt x1 x13))) 15)))) 4) (rd (.int .u32) m5 (natOf (iand .u32 (ixor .u32 (ishr .u32 (ixor .u32 x6 (iwrap .u32 (byteAt x1 x13))) 4) (rd (.int .u32) m5 (natOf (iand .u32 (ixor .u32 x6 (iwrap .u32 (byteAt x1 x13))) 15)))) 15)))) x12 (iadd .i64 x13 1) m5) none) none) none) (some (ixor .u32 4294967295 x6)):=by kernel_rfl
def z2h.e (k:Nat):Entry:=Sg.entry z2h.sg fun x=>z2h.f k x.1 x.2
theorem z2h.ok (k:Nat):CallOK Tryz.prog 240 (z2h.e k):=fn_ok (c:=z2h.cx k) (code:=z2h.body) (TT.of tt_ok pp_ok mm_ok) (fns_ok ⟨(z1Y.ok k),trivial⟩) mixed Tryz.func240 (by kernel_rfl) (by kernel_rfl) (by kernel_rfl) (by kernel_rfl) (by kernel_rfl) (by kernel_rfl) (fun x=>by kernel_rfl)
def z2o.body:Go.Code:=Tryz.f207.body.getD .skip
def z2o.rs:List Go.ResultVar:=Tryz.f207.results.toList
def z2o.regs:List (Nat × RInfo):=[(0,ri [0] []),(1,ri [2] [4])]
def z2o.cx (k:Nat):Cx:=⟨tt,pp,[(240,(z2h.e k))],z2o.regs,k,mm⟩
@[reducible] def z2o.sg:Sg:=⟨[.dat .str],[],.dat (.int .u32),[]⟩
def z2o.f (k:Nat) (a0:Ty.D .str):Option (Sg.Out z2o.sg):=Sg.fn z2o.sg (z2o.cx k) z2o.body z2o.rs a0
theorem z2o.f_eq (k:Nat) (a0:Ty.D .str):z2o.f k a0=bnd (z2h.f k 0 a0) fun r0=>some r0:=by kernel_rfl
def z2o.e (k:Nat):Entry:=Sg.entry z2o.sg fun x=>z2o.f k x
theorem z2o.ok (k:Nat):CallOK Tryz.prog 207 (z2o.e k):=fn_ok (c:=z2o.cx k) (code:=z2o.body) (TT.of tt_ok pp_ok mm_ok) (fns_ok ⟨(z2h.ok k),trivial⟩) mixed Tryz.func207 (by kernel_rfl) (by kernel_rfl) (by kernel_rfl) (by kernel_rfl) (by kernel_rfl) (by kernel_rfl) (fun x=>by kernel_rfl)
def z1D.body:Go.Code:=Tryz.f157.body.getD .skip
def z1D.rs:List Go.ResultVar:=Tryz.f157.results.toList
def z1D.regs:List (Nat × RInfo):=[(0,ri [0] []),(1,ri [2] [])]
def z1D.cx (k:Nat):Cx:=⟨tt,pp,[(207,(z2o.e k)),(206,sumBE)],z1D.regs,k,mm⟩
@[reducible] def z1D.sg:Sg:=⟨[.dat .str],[],.dat .str,[]⟩
def z1D.f (k:Nat) (a0:Ty.D .str):Option (Sg.Out z1D.sg):=Sg.fn z1D.sg (z1D.cx k) z1D.body z1D.rs a0
theorem z1D.f_eq (k:Nat) (a0:Ty.D .str):z1D.f k a0=bnd (z2o.f k a0) fun r0=>bnd (YtggcagclpkhlhaaGreatDoor.sumBI r0) fun r1=>br (roomS a0 r1) (some (app a0 r1)) none:=by kernel_rfl
def z1D.e (k:Nat):Entry:=Sg.entry z1D.sg fun x=>z1D.f k x
theorem z1D.ok (k:Nat):CallOK Tryz.prog 157 (z1D.e k):=fn_ok (c:=z1D.cx k) (code:=z1D.body) (TT.of tt_ok pp_ok mm_ok) (fns_ok ⟨(z2o.ok k),sumBytes_ok,trivial⟩) mixed Tryz.func157 (by kernel_rfl) (by kernel_rfl) (by kernel_rfl) (by kernel_rfl) (by kernel_rfl) (by kernel_rfl) (fun x=>by kernel_rfl)
def z2b.body:Go.Code:=Tryz.f84.body.getD .skip
def z2b.rs:List Go.ResultVar:=Tryz.f84.results.toList
def z2b.regs:List (Nat × RInfo):=[(0,ri [0] []),(1,ri [2] [5])]
def z2b.cx (k:Nat):Cx:=⟨tt,pp,[(158,(z1U.e k)),(157,(z1D.e k))],z2b.regs,k,mm⟩
@[reducible] def z2b.sg:Sg:=⟨[.dat .str],[],.dat .str,[]⟩
def z2b.f (k:Nat) (a0:Ty.D .str):Option (Sg.Out z2b.sg):=Sg.fn z2b.sg (z2b.cx k) z2b.body z2b.rs a0
theorem z2b.f_eq (k:Nat) (a0:Ty.D .str):z2b.f k a0=bnd (z1U.f k a0) fun r0=>bnd (z1D.f k r0) fun r1=>some r1:=by kernel_rfl
def z2b.e (k:Nat):Entry:=Sg.entry z2b.sg fun x=>z2b.f k x
theorem z2b.ok (k:Nat):CallOK Tryz.prog 84 (z2b.e k):=fn_ok (c:=z2b.cx k) (code:=z2b.body) (TT.of tt_ok pp_ok mm_ok) (fns_ok ⟨(z1U.ok k),(z1D.ok k),trivial⟩) mixed Tryz.func84 (by kernel_rfl) (by kernel_rfl) (by kernel_rfl) (by kernel_rfl) (by kernel_rfl) (by kernel_rfl) (fun x=>by kernel_rfl)
def z1C.body:Go.Code:=Tryz.f85.body.getD .skip
def z1C.rs:List Go.ResultVar:=Tryz.f85.results.toList
def z1C.regs:List (Nat × RInfo):=[(0,⟨[1],[1],[0],[],0,[],[],[],[],[]⟩),(1,rq [2] [] 11)]
def z1C.cx (k:Nat):Cx:=⟨tt,pp,[(145,(z1G.e k)),(100,(z1z.e k))],z1C.regs,k,mm⟩
@[reducible] def z1C.sg:Sg:=⟨[.dat tKnow],[],.dat .str,[]⟩
def z1C.f (k:Nat) (a0:Ty.D tKnow):Option (Sg.Out z1C.sg):=Sg.fn z1C.sg (z1C.cx k) z1C.body z1C.rs a0
theorem z1C.f_eq (k:Nat) (a0:Ty.D tKnow):z1C.f k a0=bnd (z1G.f k a0.1) fun r0=>bnd (z1z.f k a0.2.1) fun r1=>br (roomS r0 r1) (bnd (z1G.f k a0.2.2) fun r2=>br (roomS (app r0 r1) r2) (some (app (app r0 r1) r2)) none) none:=by kernel_rfl
def z1C.e (k:Nat):Entry:=Sg.entry z1C.sg fun x=>z1C.f k x
theorem z1C.ok (k:Nat):CallOK Tryz.prog 85 (z1C.e k):=fn_ok (c:=z1C.cx k) (code:=z1C.body) (TT.of tt_ok pp_ok mm_ok) (fns_ok ⟨(z1G.ok k),(z1z.ok k),trivial⟩) mixed Tryz.func85 (by kernel_rfl) (by kernel_rfl) (by kernel_rfl) (by kernel_rfl) (by kernel_rfl) (by kernel_rfl) (fun x=>by kernel_rfl)
def z0D.body:Go.Code:=Tryz.f24.body.getD .skip
def z0D.rs:List Go.ResultVar:=Tryz.f24.results.toList
def z0D.regs:List (Nat × RInfo):=[(0,⟨[1],[1],[0],[],0,[],[],[],[],[]⟩),(1,rq [1,3] [1] 11),(2,ri [1,3,17] [1]),(3,ri [2] [23,29]),(4,ri [2] [23,29])]
def z0D.cx (k:Nat):Cx:=⟨tt,pp,[(60,packIntE),(39,(z0C.e k)),(84,(z2b.e k)),(85,(z1C.e k))],z0D.regs,k,mm⟩
@[reducible] def z0D.sg:Sg:=⟨[.dat tMessage],[],.dat .str,[]⟩
def z0D.f (k:Nat) (a0:Ty.D tMessage):Option (Sg.Out z0D.sg):=Sg.fn z0D.sg (z0D.cx k) z0D.body z0D.rs a0
theorem z0D.f_eq (k:Nat) (a0:Ty.D tMessage):z0D.f k a0=bnd (packI a0.1) fun r0=>bnd (packI a0.2.1) fun r1=>br (roomS r0 r1) (bnd (packI a0.2.2.1) fun r2=>br (roomS (app r0 r1) r2) (br (ieq a0.1 1) (bnd (z0C.f k a0.2.2.2.1) fun r3=>br (roomS (app (app r0 r1) r2) r3) (bnd (z2b.f k (app (app (app r0 r1) r2) r3)) fun r4=>some r4) none) (bnd (z1C.f k a0.2.2.2.2) fun r5=>br (roomS (app (app r0 r1) r2) r5) (bnd (z2b.f k (app (app (app r0 r1) r2) r5)) fun r6=>some r6) none)) none) none:=by kernel_rfl
def z0D.e (k:Nat):Entry:=Sg.entry z0D.sg fun x=>z0D.f k x
theorem z0D.ok (k:Nat):CallOK Tryz.prog 24 (z0D.e k):=fn_ok (c:=z0D.cx k) (code:=z0D.body) (TT.of tt_ok pp_ok mm_ok) (fns_ok ⟨packint_ok,(z0C.ok k),(z2b.ok k),(z1C.ok k),trivial⟩) mixed Tryz.func24 (by kernel_rfl) (by kernel_rfl) (by kernel_rfl) (by kernel_rfl) (by kernel_rfl) (by kernel_rfl) (fun x=>by kernel_rfl)
def z1Z.body:Go.Code:=Tryz.f159.body.getD .skip
def z1Z.rs:List Go.ResultVar:=Tryz.f159.results.toList
def z1Z.regs:List (Nat × RInfo):=[(0,ri [0] []),(1,ri [0,4] []),(2,rq [0,4,20] [] 13),(3,ri [2,3] []),(4,ri [2,3] [])]
def z1Z.cx (k:Nat):Cx:=⟨tt,pp,[(207,(z2o.e k)),(206,sumBE)],z1Z.regs,k,mm⟩
@[reducible] def z1Z.sg:Sg:=⟨[.dat .str],[],.t2 (.dat .str) (.dat .bool),[]⟩
def z1Z.f (k:Nat) (a0:Ty.D .str):Option (Sg.Out z1Z.sg):=Sg.fn z1Z.sg (z1Z.cx k) z1Z.body z1Z.rs a0
theorem z1Z.f_eq (k:Nat) (a0:Ty.D .str):z1Z.f k a0=br (ilt (isub .i64 (ilen a0) 4) 0) (some ([],false)) (br (inS 0 (isub .i64 (ilen a0) 4) (ilen a0)) (bnd (z2o.f k (piece a0 0 (isub .i64 (ilen a0) 4))) fun r0=>bnd (YtggcagclpkhlhaaGreatDoor.sumBI r0) fun r1=>br (inS (isub .i64 (ilen a0) 4) (ilen a0) (ilen a0)) (br (bnot (seq r1 (piece a0 (isub .i64 (ilen a0) 4) (ilen a0)))) (some ([],false)) (br (inS 0 (isub .i64 (ilen a0) 4) (ilen a0)) (some ((piece a0 0 (isub .i64 (ilen a0) 4)),true)) none)) none) none):=by kernel_rfl
def z1Z.e (k:Nat):Entry:=Sg.entry z1Z.sg fun x=>z1Z.f k x
theorem z1Z.ok (k:Nat):CallOK Tryz.prog 159 (z1Z.e k):=fn_ok (c:=z1Z.cx k) (code:=z1Z.body) (TT.of tt_ok pp_ok mm_ok) (fns_ok ⟨(z2o.ok k),sumBytes_ok,trivial⟩) mixed Tryz.func159 (by kernel_rfl) (by kernel_rfl) (by kernel_rfl) (by kernel_rfl) (by kernel_rfl) (by kernel_rfl) (fun x=>by kernel_rfl)
def z1P.body:Go.Code:=Tryz.f86.body.getD .skip
def z1P.rs:List Go.ResultVar:=Tryz.f86.results.toList
def z1P.regs:List (Nat × RInfo):=[(0,ri [0] []),(1,ri [0,5] [11]),(2,ri [0,5,6] [11,13]),(3,ri [0,5,6,7] [11,13]),(4,ri [0,5,6,7,19] [11,13]),(5,ri [2,3,4] [24,41]),(6,ri [0,5,6,7,25] [11,13]),(7,ri [2,3,4] [24,41]),(8,ri [0,6,7,28] [13]),(9,ri [2,3,4] [24,41]),(10,ri [0,6,7,8,9] [13,41]),(11,ri [0,6,7,8,45] [13,41]),(12,ri [2,3,4] [24,41]),(13,rq [2,3,4] [24,41] 10)]
def z1P.cx (k:Nat):Cx:=⟨tt,pp,[(30,(z1F.e k)),(87,(z0p.e k)),(35,(z0i.e k)),(34,(z0c.e k)),(159,(z1Z.e k))],z1P.regs,k,mm⟩
@[reducible] def z1P.sg:Sg:=⟨[.dat .str],[],.t3 .str .str (.int .i64),[]⟩
def z1P.f (k:Nat) (a0:Ty.D .str):Option (Sg.Out z1P.sg):=Sg.fn z1P.sg (z1P.cx k) z1P.body z1P.rs a0
theorem z1P.f_eq (k:Nat) (a0:Ty.D .str):z1P.f k a0=bnd (z1F.f k a0) fun r0=>bnd (z0p.f k r0.2) fun r1=>bnd (z0i.f k r1.2) fun r2=>bnd (z0c.f k r2.2) fun r3=>br (bnot (ieq r3.1 0)) (bnd (z0c.f k r3.2) fun r4=>some ([],[],r4.1)) (br (ilt 1048576 r1.1) (some ([],[],6)) (bnd (z0i.f k r3.2) fun r5=>br (ilt r5.1 (iadd .i64 r1.1 4)) (some ([],[],4)) (br (inS 0 (iadd .i64 (iadd .i64 (isub .i64 (ilen a0) r2.1) r1.1) 4) (ilen a0)) (bnd (z1Z.f k (piece a0 0 (iadd .i64 (iadd .i64 (isub .i64 (ilen a0) r2.1) r1.1) 4))) fun r6=>br (bnot r6.2) (some ([],[],5)) (br (inS (isub .i64 (ilen a0) r2.1) (ilen r6.1) (ilen r6.1)) (br (inS (iadd .i64 (iadd .i64 (isub .i64 (ilen a0) r2.1) r1.1) 4) (ilen a0) (ilen a0)) (some ((piece r6.1 (isub .i64 (ilen a0) r2.1) (ilen r6.1)),(piece a0 (iadd .i64 (iadd .i64 (isub .i64 (ilen a0) r2.1) r1.1) 4) (ilen a0)),0)) none) none)) none))):=by kernel_rfl
def z1P.e (k:Nat):Entry:=Sg.entry z1P.sg fun x=>z1P.f k x
theorem z1P.ok (k:Nat):CallOK Tryz.prog 86 (z1P.e k):=fn_ok (c:=z1P.cx k) (code:=z1P.body) (TT.of tt_ok pp_ok mm_ok) (fns_ok ⟨(z1F.ok k),(z0p.ok k),(z0i.ok k),(z0c.ok k),(z1Z.ok k),trivial⟩) mixed Tryz.func86 (by kernel_rfl) (by kernel_rfl) (by kernel_rfl) (by kernel_rfl) (by kernel_rfl) (by kernel_rfl) (fun x=>by kernel_rfl)
def z1p.body:Go.Code:=Tryz.f88.body.getD .skip
def z1p.rs:List Go.ResultVar:=Tryz.f88.results.toList
def z1p.regs:List (Nat × RInfo):=[(0,ri [0,2] [2,1000000]),(1,⟨[0,2,3],[2,3,1000000],[8],[],0,[],[],[],[],[]⟩),(2,ri [2,3,13] [2,3,1000000]),(3,⟨[2],[2,1000000],[1],[],0,[],[],[],[],[]⟩),(4,⟨[2],[2,1000000],[1],[],0,[],[],[],[],[]⟩)]
def z1p.cx (k:Nat):Cx:=⟨tt,pp,[(160,(z1J.e k)),(93,(z19.e k)),(34,(z0c.e k))],z1p.regs,k,mm⟩
@[reducible] def z1p.sg:Sg:=⟨[.ref],[tpackReader],.dat tKnow,[tpackReader]⟩
def z1p.f (k:Nat) (o0:Ty.D tpackReader):Option (Sg.Out z1p.sg):=Sg.fn z1p.sg (z1p.cx k) z1p.body z1p.rs o0
def z1p.e (k:Nat):Entry:=Sg.entry z1p.sg fun x=>z1p.f k x
theorem z1p.ok (k:Nat):CallOK Tryz.prog 88 (z1p.e k):=fn_ok (c:=z1p.cx k) (code:=z1p.body) (TT.of tt_ok pp_ok mm_ok) (fns_ok ⟨(z1J.ok k),(z19.ok k),(z0c.ok k),trivial⟩) mixed Tryz.func88 (by kernel_rfl) (by kernel_rfl) (by kernel_rfl) (by kernel_rfl) (by kernel_rfl) (by kernel_rfl) (fun x=>by kernel_rfl)
def z0n.body:Go.Code:=Tryz.f82.body.getD .skip
def z0n.rs:List Go.ResultVar:=Tryz.f82.results.toList
def z0n.regs:List (Nat × RInfo):=[(0,ri [0] []),(1,ri [2] [])]
def z0n.cx (k:Nat):Cx:=⟨tt,pp,[],z0n.regs,k,mm⟩
@[reducible] def z0n.sg:Sg:=⟨[.dat (.int .i64)],[],.dat .bool,[]⟩
def z0n.f (k:Nat) (a0:Ty.D (.int .i64)):Option (Sg.Out z0n.sg):=Sg.fn z0n.sg (z0n.cx k) z0n.body z0n.rs a0
theorem z0n.f_eq (k:Nat) (a0:Ty.D (.int .i64)):z0n.f k a0=br (ile 0 a0) (some (ilt a0 16)) (some false):=by kernel_rfl
def z0n.e (k:Nat):Entry:=Sg.entry z0n.sg fun x=>z0n.f k x
theorem z0n.ok (k:Nat):CallOK Tryz.prog 82 (z0n.e k):=fn_ok (c:=z0n.cx k) (code:=z0n.body) (TT.of tt_ok pp_ok mm_ok) (fns_ok trivial) mixed Tryz.func82 (by kernel_rfl) (by kernel_rfl) (by kernel_rfl) (by kernel_rfl) (by kernel_rfl) (by kernel_rfl) (fun x=>by kernel_rfl)
def z14.body:Go.Code:=Tryz.f83.body.getD .skip
def z14.rs:List Go.ResultVar:=Tryz.f83.results.toList
def z14.regs:List (Nat × RInfo):=[(0,⟨[1],[1],[0],[],0,[],[],[],[],[]⟩),(1,ri [2] [5,9,14])]
def z14.cx (k:Nat):Cx:=⟨tt,pp,[(133,(z1E.e k)),(52,(z0Z.e k))],z14.regs,k,mm⟩
@[reducible] def z14.sg:Sg:=⟨[.dat tKnow],[],.dat .bool,[]⟩
def z14.f (k:Nat) (a0:Ty.D tKnow):Option (Sg.Out z14.sg):=Sg.fn z14.sg (z14.cx k) z14.body z14.rs a0
theorem z14.f_eq (k:Nat) (a0:Ty.D tKnow):z14.f k a0=bnd (z1E.f k a0.1) fun r0=>br r0 (bnd (z0Z.f k a0.2.1) fun r1=>br r1 (bnd (z1E.f k a0.2.2) fun r2=>some r2) (some false)) (some false):=by kernel_rfl
def z14.e (k:Nat):Entry:=Sg.entry z14.sg fun x=>z14.f k x
theorem z14.ok (k:Nat):CallOK Tryz.prog 83 (z14.e k):=fn_ok (c:=z14.cx k) (code:=z14.body) (TT.of tt_ok pp_ok mm_ok) (fns_ok ⟨(z1E.ok k),(z0Z.ok k),trivial⟩) mixed Tryz.func83 (by kernel_rfl) (by kernel_rfl) (by kernel_rfl) (by kernel_rfl) (by kernel_rfl) (by kernel_rfl) (fun x=>by kernel_rfl)
def z0x.body:Go.Code:=Tryz.f23.body.getD .skip
def z0x.rs:List Go.ResultVar:=Tryz.f23.results.toList
def z0x.regs:List (Nat × RInfo):=[(0,⟨[1],[1],[0],[],0,[],[],[],[],[]⟩),(1,ri [1,19] [1]),(2,ri [2] [27,32]),(3,ri [1,21] [1]),(4,ri [1,21,22] [1]),(5,ri [2] [27,32]),(6,ri [1,28] [1]),(7,ri [2] [27,32]),(8,ri [2] [27,32])]
def z0x.cx (k:Nat):Cx:=⟨tt,pp,[(82,(z0n.e k)),(13,(z0E.e k)),(83,(z14.e k))],z0x.regs,k,mm⟩
@[reducible] def z0x.sg:Sg:=⟨[.dat tMessage],[],.dat .bool,[]⟩
def z0x.f (k:Nat) (a0:Ty.D tMessage):Option (Sg.Out z0x.sg):=Sg.fn z0x.sg (z0x.cx k) z0x.body z0x.rs a0
theorem z0x.f_eq (k:Nat) (a0:Ty.D tMessage):z0x.f k a0=bnd (z0n.f k a0.2.1) fun r0=>br (bnot r0) (some false) (bnd (z0n.f k a0.2.2.1) fun r1=>br (bnot r1) (some false) (br (ieq a0.2.1 a0.2.2.1) (some false) (br (ieq a0.1 1) (bnd (z0E.f k (3,(((0,0),(0,(0,(false,[])))),(0,(((0,0),0),(0,(a0.2.2.2.1,([],([],(((zarr 16 0),[]),(((zarr 16 0),[]),(zarr 8 [])))))))))))) fun r2=>some r2) (br (ieq a0.1 2) (bnd (z14.f k a0.2.2.2.2) fun r3=>some r3) (some false))))):=by kernel_rfl
def z0x.e (k:Nat):Entry:=Sg.entry z0x.sg fun x=>z0x.f k x
theorem z0x.ok (k:Nat):CallOK Tryz.prog 23 (z0x.e k):=fn_ok (c:=z0x.cx k) (code:=z0x.body) (TT.of tt_ok pp_ok mm_ok) (fns_ok ⟨(z0n.ok k),(z0E.ok k),(z14.ok k),trivial⟩) mixed Tryz.func23 (by kernel_rfl) (by kernel_rfl) (by kernel_rfl) (by kernel_rfl) (by kernel_rfl) (by kernel_rfl) (fun x=>by kernel_rfl)
def z0v.body:Go.Code:=Tryz.f25.body.getD .skip
def z0v.rs:List Go.ResultVar:=Tryz.f25.results.toList
def z0v.regs:List (Nat × RInfo):=[(0,ri [0,2] [2]),(1,ri [2,4,5,6] [2,13]),(2,ri [2,4,5,6,17] [2,13]),(3,⟨[2,3],[2,13,52],[2],[],0,[],[],[],[],[]⟩),(4,ri [2,4,22] [2,13]),(5,⟨[2,3],[2,13,52],[1],[],0,[],[],[],[],[]⟩),(6,ri [2,7] [2,27]),(7,ri [2,7,8] [2,27]),(8,⟨[2,7,9],[2,9,27],[8],[],0,[],[],[],[],[]⟩),(9,ri [2,7,9,38] [2,9,27]),(11,ri [2,7,9,38,41] [2,9,27]),(12,⟨[2,7,9],[2,9,27],[3],[],0,[],[],[],[],[]⟩),(13,ri [2,7,9,46] [2,9,27]),(14,⟨[2,7,9],[2,9,27],[3],[],0,[],[],[],[],[]⟩),(10,ri [2,7,9] [2,9,27]),(15,ri [2,9,10] [2,9,52]),(16,ri [2,9,10,54] [2,9,52]),(17,⟨[2,3],[2,13,52],[2],[],0,[],[],[],[],[]⟩),(18,ri [2,9,59] [2,9]),(19,⟨[2,3],[2,13,52],[1],[],0,[],[],[],[],[]⟩),(20,⟨[2,3],[2,13,52],[1],[],0,[],[],[],[],[]⟩)]
def z0v.cx (k:Nat):Cx:=⟨tt,pp,[(86,(z1P.e k)),(30,(z1F.e k)),(87,(z0p.e k)),(32,(z0e.e k)),(88,(z1p.e k)),(89,(z0f.e k)),(41,(z0m.e k)),(23,(z0x.e k))],z0v.regs,k,mm⟩
@[reducible] def z0v.sg:Sg:=⟨[.dat .str],[],.t2 (.dat tMessage) (.dat (.int .i64)),[]⟩
def z0v.f (k:Nat) (a0:Ty.D .str):Option (Sg.Out z0v.sg):=Sg.fn z0v.sg (z0v.cx k) z0v.body z0v.rs a0
theorem z0v.f_eq (k:Nat) (a0:Ty.D .str):z0v.f k a0=bnd (z1P.f k a0) fun r0=>br (bnot (ieq r0.2.2 0)) (some ((0,(0,(0,(([],([],[])),(((zarr 16 0),[]),([],((zarr 16 0),[]))))))),r0.2.2)) (br (bnot (seq r0.2.1 [])) (some ((0,(0,(0,(([],([],[])),(((zarr 16 0),[]),([],((zarr 16 0),[]))))))),3)) (bnd (z1F.f k r0.1) fun r1=>bnd (z0p.f k r1.2) fun r2=>bnd (z0p.f k r2.2) fun r3=>bnd (z0p.f k r3.2) fun r4=>br (ieq r2.1 1) (bnd (z0e.f k r4.2) fun r5=>bnd (z0m.f k r5.2) fun r6=>br (bnot (ieq r6.1 0)) (some ((0,(0,(0,(([],([],[])),(((zarr 16 0),[]),([],((zarr 16 0),[]))))))),r6.1)) (bnd (z0x.f k (r2.1,(r3.1,(r4.1,(r5.1,(((zarr 16 0),[]),([],((zarr 16 0),[])))))))) fun r7=>br (bnot r7) (some ((0,(0,(0,(([],([],[])),(((zarr 16 0),[]),([],((zarr 16 0),[]))))))),2)) (some ((r2.1,(r3.1,(r4.1,(r5.1,(((zarr 16 0),[]),([],((zarr 16 0),[]))))))),0)))) (br (ieq r2.1 2) (bnd (z1p.f k r4.2) fun r8=>bnd (z0m.f k r8.2) fun r9=>br (bnot (ieq r9.1 0)) (some ((0,(0,(0,(([],([],[])),(((zarr 16 0),[]),([],((zarr 16 0),[]))))))),r9.1)) (bnd (z0x.f k (r2.1,(r3.1,(r4.1,(([],([],[])),r8.1))))) fun r10=>br (bnot r10) (some ((0,(0,(0,(([],([],[])),(((zarr 16 0),[]),([],((zarr 16 0),[]))))))),2)) (some ((r2.1,(r3.1,(r4.1,(([],([],[])),r8.1)))),0)))) (bnd (z0f.f k 18 r4.2) fun r11=>bnd (z0m.f k r11.2) fun r12=>br (bnot (ieq r12.1 0)) (some ((0,(0,(0,(([],([],[])),(((zarr 16 0),[]),([],((zarr 16 0),[]))))))),r12.1)) (bnd (z0x.f k (r2.1,(r3.1,(r4.1,(([],([],[])),(((zarr 16 0),[]),([],((zarr 16 0),[])))))))) fun r13=>br (bnot r13) (some ((0,(0,(0,(([],([],[])),(((zarr 16 0),[]),([],((zarr 16 0),[]))))))),2)) (some ((r2.1,(r3.1,(r4.1,(([],([],[])),(((zarr 16 0),[]),([],((zarr 16 0),[]))))))),0))))))):=by kernel_rfl
def z0v.e (k:Nat):Entry:=Sg.entry z0v.sg fun x=>z0v.f k x
theorem z0v.ok (k:Nat):CallOK Tryz.prog 25 (z0v.e k):=fn_ok (c:=z0v.cx k) (code:=z0v.body) (TT.of tt_ok pp_ok mm_ok) (fns_ok ⟨(z1P.ok k),(z1F.ok k),(z0p.ok k),(z0e.ok k),(z1p.ok k),(z0f.ok k),(z0m.ok k),(z0x.ok k),trivial⟩) mixed Tryz.func25 (by kernel_rfl) (by kernel_rfl) (by kernel_rfl) (by kernel_rfl) (by kernel_rfl) (by kernel_rfl) (fun x=>by kernel_rfl)
def z1l.body:Go.Code:=Tryz.f205.body.getD .skip
def z1l.rs:List Go.ResultVar:=Tryz.f205.results.toList
def z1l.regs:List (Nat × RInfo):=[(0,ri [0,1] []),(1,ri [1,5] []),(2,ri [1,5,6] []),(3,⟨[1,5,6,14],[],[],[],0,[1,5,6],[],[],[],[]⟩),(5,ri [1,5,6] []),(6,ri [1,5,6,7] []),(7,⟨[1,5,6,7,24],[],[],[],0,[1,5,6,7],[],[],[],[]⟩),(9,ri [1,5,6,7,8] []),(10,ri [1,5,6,7,8] []),(11,ri [1,5,6,7,32] []),(12,ri [1,5,6,7] []),(8,ri [1,5,6,7] []),(4,ri [1,5,6] []),(13,ri [4] [])]
def z1l.cx (k:Nat):Cx:=⟨tt,pp,[],z1l.regs,k,mm⟩
@[reducible] def z1l.sg:Sg:=⟨[.dat (.int .u32),.dat .str],[],.dat (.int .u32),[]⟩
def z1l.f (k:Nat) (a0:Ty.D (.int .u32)) (a1:Ty.D .str):Option (Sg.Out z1l.sg):=Sg.fn z1l.sg (z1l.cx k) z1l.body z1l.rs (a0,a1)
def z1l.l3 (k:Nat) (n:Nat) (x1:Ty.D .str) (x5:Ty.D (.int .u32)) (x6:Ty.D (.int .i64)):Option (Sg.Out z1l.sg):=loopAt (z1l.cx k) z1l.body [1,1,0,1,0] 3 [1,5,6] [] [] (Sg.K z1l.sg (z1l.cx k) z1l.rs) n ⟨[(1,.dat .str x1),(5,.dat (.int .u32) x5),(6,.dat (.int .i64) x6)],[]⟩
def z1l.l7 (k:Nat) (n3:Nat) (n:Nat) (x1:Ty.D .str) (x5:Ty.D (.int .u32)) (x6:Ty.D (.int .i64)) (x7:Ty.D (.int .i64)):Option (Sg.Out z1l.sg):=loopAt (z1l.cx k) z1l.body [1,1,0,1,0,0,1,0,0,1,1,0] 7 [1,5,6,7] [] [n3] (Sg.K z1l.sg (z1l.cx k) z1l.rs) n ⟨[(1,.dat .str x1),(5,.dat (.int .u32) x5),(6,.dat (.int .i64) x6),(7,.dat (.int .i64) x7)],[]⟩
theorem z1l.f_eq (k:Nat) (a0:Ty.D (.int .u32)) (a1:Ty.D .str):z1l.f k a0 a1=z1l.l3 k k a1 (ixor .u32 a0 4294967295) 0:=by kernel_rfl
theorem z1l.l3_eq (k:Nat) (n3:Nat) (x1:Ty.D .str) (x5:Ty.D (.int .u32)) (x6:Ty.D (.int .i64)):z1l.l3 k (n3+1) x1 x5 x6=br (ilt x6 (ilen x1)) (br (inL x6 x1) (z1l.l7 k n3 k x1 (ixor .u32 x5 (iwrap .u32 (byteAt x1 x6))) x6 0) none) (some (ixor .u32 x5 4294967295)):=by kernel_rfl
theorem z1l.l7_eq (k:Nat) (n3:Nat) (n7:Nat) (x1:Ty.D .str) (x5:Ty.D (.int .u32)) (x6:Ty.D (.int .i64)) (x7:Ty.D (.int .i64)):z1l.l7 k n3 (n7+1) x1 x5 x6 x7=br (ilt x7 8) (br (ieq (irem x5 2) 1) (z1l.l7 k n3 n7 x1 (ixor .u32 (iquo .u32 x5 2) 3988292384) x6 (iadd .i64 x7 1)) (z1l.l7 k n3 n7 x1 (iquo .u32 x5 2) x6 (iadd .i64 x7 1))) (z1l.l3 k n3 x1 x5 (iadd .i64 x6 1)):=by kernel_rfl
def z1l.e (k:Nat):Entry:=Sg.entry z1l.sg fun x=>z1l.f k x.1 x.2
theorem z1l.ok (k:Nat):CallOK Tryz.prog 205 (z1l.e k):=fn_ok (c:=z1l.cx k) (code:=z1l.body) (TT.of tt_ok pp_ok mm_ok) (fns_ok trivial) mixed Tryz.func205 (by kernel_rfl) (by kernel_rfl) (by kernel_rfl) (by kernel_rfl) (by kernel_rfl) (by kernel_rfl) (fun x=>by kernel_rfl)
def z24.body:Go.Code:=Tryz.f156.body.getD .skip
def z24.rs:List Go.ResultVar:=Tryz.f156.results.toList
def z24.regs:List (Nat × RInfo):=[(0,ri [0] []),(1,ri [2] [4])]
def z24.cx (k:Nat):Cx:=⟨tt,pp,[(205,(z1l.e k))],z24.regs,k,mm⟩
@[reducible] def z24.sg:Sg:=⟨[.dat .str],[],.dat (.int .u32),[]⟩
def z24.f (k:Nat) (a0:Ty.D .str):Option (Sg.Out z24.sg):=Sg.fn z24.sg (z24.cx k) z24.body z24.rs a0
theorem z24.f_eq (k:Nat) (a0:Ty.D .str):z24.f k a0=bnd (z1l.f k 0 a0) fun r0=>some r0:=by kernel_rfl
def z24.e (k:Nat):Entry:=Sg.entry z24.sg fun x=>z24.f k x
theorem z24.ok (k:Nat):CallOK Tryz.prog 156 (z24.e k):=fn_ok (c:=z24.cx k) (code:=z24.body) (TT.of tt_ok pp_ok mm_ok) (fns_ok ⟨(z1l.ok k),trivial⟩) mixed Tryz.func156 (by kernel_rfl) (by kernel_rfl) (by kernel_rfl) (by kernel_rfl) (by kernel_rfl) (by kernel_rfl) (fun x=>by kernel_rfl)
def z23.body:Go.Code:=Tryz.f80.body.getD .skip
def z23.rs:List Go.ResultVar:=Tryz.f80.results.toList
def z23.regs:List (Nat × RInfo):=[(0,ri [0] []),(1,ri [3] [5]),(2,ri [2] [])]
def z23.cx (k:Nat):Cx:=⟨tt,pp,[(154,(z1u.e k)),(156,(z24.e k)),(155,sumBE)],z23.regs,k,mm⟩
@[reducible] def z23.sg:Sg:=⟨[.dat .str],[],.dat .str,[]⟩
def z23.f (k:Nat) (a0:Ty.D .str):Option (Sg.Out z23.sg):=Sg.fn z23.sg (z23.cx k) z23.body z23.rs a0
theorem z23.f_eq (k:Nat) (a0:Ty.D .str):z23.f k a0=bnd (z1u.f k a0) fun r0=>bnd (z24.f k r0) fun r1=>bnd (YtggcagclpkhlhaaGreatDoor.sumBI r1) fun r2=>br (roomS r0 r2) (some (app r0 r2)) none:=by kernel_rfl
def z23.e (k:Nat):Entry:=Sg.entry z23.sg fun x=>z23.f k x
theorem z23.ok (k:Nat):CallOK Tryz.prog 80 (z23.e k):=fn_ok (c:=z23.cx k) (code:=z23.body) (TT.of tt_ok pp_ok mm_ok) (fns_ok ⟨(z1u.ok k),(z24.ok k),rsumBytes_ok,trivial⟩) mixed Tryz.func80 (by kernel_rfl) (by kernel_rfl) (by kernel_rfl) (by kernel_rfl) (by kernel_rfl) (by kernel_rfl) (fun x=>by kernel_rfl)
def z0S.body:Go.Code:=Tryz.f21.body.getD .skip
def z0S.rs:List Go.ResultVar:=Tryz.f21.results.toList
def z0S.regs:List (Nat × RInfo):=[(0,ri [] []),(1,⟨[1],[1],[2],[],0,[],[],[],[],[]⟩),(2,ri [1,2] [1,7]),(3,⟨[1,2,4],[1,7,10],[6],[],0,[],[],[],[],[]⟩),(4,ri [0] [22])]
def z0S.cx (k:Nat):Cx:=⟨tt,pp,[(24,(z0D.e k)),(25,(z0v.e k)),(80,(z23.e k)),(23,(z0x.e k))],z0S.regs,k,mm⟩
@[reducible] def z0S.sg:Sg:=⟨[],[],.dat .bool,[]⟩
def z0S.f (k:Nat):Option (Sg.Out z0S.sg):=Sg.fn z0S.sg (z0S.cx k) z0S.body z0S.rs ()
theorem z0S.f_eq (k:Nat):z0S.f k=bnd (z0D.f k (1,(0,(1,(([],([],[])),(((zarr 16 0),[]),([],((zarr 16 0),[])))))))) fun r0=>bnd (z0v.f k r0) fun r1=>bnd (z23.f k (1::(0::(1::(0::(0::(0::[]))))))) fun r2=>br (seq r0 r2) (br (ieq r1.2 0) (bnd (z0x.f k (1,(0,(1,(([],([],[])),(((zarr 16 0),[]),([],((zarr 16 0),[])))))))) fun r3=>some r3) (some false)) (some false):=by kernel_rfl
def z0S.e (k:Nat):Entry:=Sg.entry z0S.sg fun x=>z0S.f k
theorem z0S.ok (k:Nat):CallOK Tryz.prog 21 (z0S.e k):=fn_ok (c:=z0S.cx k) (code:=z0S.body) (TT.of tt_ok pp_ok mm_ok) (fns_ok ⟨(z0D.ok k),(z0v.ok k),(z23.ok k),(z0x.ok k),trivial⟩) mixed Tryz.func21 (by kernel_rfl) (by kernel_rfl) (by kernel_rfl) (by kernel_rfl) (by kernel_rfl) (by kernel_rfl) (fun x=>by kernel_rfl)
def z18.body:Go.Code:=Tryz.f81.body.getD .skip
def z18.rs:List Go.ResultVar:=Tryz.f81.results.toList
def z18.regs:List (Nat × RInfo):=[(0,⟨[1],[1],[0],[],0,[],[],[],[],[]⟩),(1,ri [2] [5,9,14])]
def z18.cx (k:Nat):Cx:=⟨tt,pp,[(76,(z0R.e k)),(49,(z13.e k))],z18.regs,k,mm⟩
@[reducible] def z18.sg:Sg:=⟨[.dat tKnow],[],.dat .bool,[]⟩
def z18.f (k:Nat) (a0:Ty.D tKnow):Option (Sg.Out z18.sg):=Sg.fn z18.sg (z18.cx k) z18.body z18.rs a0
theorem z18.f_eq (k:Nat) (a0:Ty.D tKnow):z18.f k a0=bnd (z0R.f k a0.1) fun r0=>br r0 (bnd (z13.f k a0.2.1) fun r1=>br r1 (bnd (z0R.f k a0.2.2) fun r2=>some r2) (some false)) (some false):=by kernel_rfl
def z18.e (k:Nat):Entry:=Sg.entry z18.sg fun x=>z18.f k x
theorem z18.ok (k:Nat):CallOK Tryz.prog 81 (z18.e k):=fn_ok (c:=z18.cx k) (code:=z18.body) (TT.of tt_ok pp_ok mm_ok) (fns_ok ⟨(z0R.ok k),(z13.ok k),trivial⟩) mixed Tryz.func81 (by kernel_rfl) (by kernel_rfl) (by kernel_rfl) (by kernel_rfl) (by kernel_rfl) (by kernel_rfl) (fun x=>by kernel_rfl)
def z11.body:Go.Code:=Tryz.f22.body.getD .skip
def z11.rs:List Go.ResultVar:=Tryz.f22.results.toList
def z11.regs:List (Nat × RInfo):=[(0,⟨[1],[1],[0],[],0,[],[],[],[],[]⟩),(1,ri [1,27] [1]),(2,ri [2] [33,40]),(3,ri [1,30] [1]),(4,ri [2] [33,40]),(5,ri [2] [33,40])]
def z11.cx (k:Nat):Cx:=⟨tt,pp,[(38,(z0l.e k)),(81,(z18.e k))],z11.regs,k,mm⟩
@[reducible] def z11.sg:Sg:=⟨[.dat tMessage],[],.dat .bool,[]⟩
def z11.f (k:Nat) (a0:Ty.D tMessage):Option (Sg.Out z11.sg):=Sg.fn z11.sg (z11.cx k) z11.body z11.rs a0
theorem z11.f_eq (k:Nat) (a0:Ty.D tMessage):z11.f k a0=br (ilt a0.2.1 0) (some false) (br (ilt 15 a0.2.1) (some false) (br (ilt a0.2.2.1 0) (some false) (br (ilt 15 a0.2.2.1) (some false) (br (ieq a0.2.1 a0.2.2.1) (some false) (br (ieq a0.1 1) (bnd (z0l.f k a0.2.2.2.1) fun r0=>some r0) (br (ieq a0.1 2) (bnd (z18.f k a0.2.2.2.2) fun r1=>some r1) (some false))))))):=by kernel_rfl
def z11.e (k:Nat):Entry:=Sg.entry z11.sg fun x=>z11.f k x
theorem z11.ok (k:Nat):CallOK Tryz.prog 22 (z11.e k):=fn_ok (c:=z11.cx k) (code:=z11.body) (TT.of tt_ok pp_ok mm_ok) (fns_ok ⟨(z0l.ok k),(z18.ok k),trivial⟩) mixed Tryz.func22 (by kernel_rfl) (by kernel_rfl) (by kernel_rfl) (by kernel_rfl) (by kernel_rfl) (by kernel_rfl) (fun x=>by kernel_rfl)
def z1m.body:Go.Code:=Tryz.f90.body.getD .skip
def z1m.rs:List Go.ResultVar:=Tryz.f90.results.toList
def z1m.regs:List (Nat × RInfo):=[(0,⟨[1],[1],[0],[],0,[],[],[],[],[]⟩),(1,rq [2] [] 11)]
def z1m.cx (k:Nat):Cx:=⟨tt,pp,[(147,(z1h.e k)),(103,(z1s.e k))],z1m.regs,k,mm⟩
@[reducible] def z1m.sg:Sg:=⟨[.dat tKnow],[],.dat .str,[]⟩
def z1m.f (k:Nat) (a0:Ty.D tKnow):Option (Sg.Out z1m.sg):=Sg.fn z1m.sg (z1m.cx k) z1m.body z1m.rs a0
theorem z1m.f_eq (k:Nat) (a0:Ty.D tKnow):z1m.f k a0=bnd (z1h.f k a0.1) fun r0=>bnd (z1s.f k a0.2.1) fun r1=>br (roomS r0 r1) (bnd (z1h.f k a0.2.2) fun r2=>br (roomS (app r0 r1) r2) (some (app (app r0 r1) r2)) none) none:=by kernel_rfl
def z1m.e (k:Nat):Entry:=Sg.entry z1m.sg fun x=>z1m.f k x
def z1w.body:Go.Code:=Tryz.f26.body.getD .skip
def z1w.rs:List Go.ResultVar:=Tryz.f26.results.toList
def z1w.regs:List (Nat × RInfo):=[(0,⟨[1],[1],[0],[],0,[],[],[],[],[]⟩),(1,rq [1,3] [1] 11),(2,ri [1,3,17] [1]),(3,ri [2] [23,29]),(4,ri [2] [23,29])]
def z1w.cx (k:Nat):Cx:=⟨tt,pp,[(64,packIntE),(40,(z0I.e k)),(80,(z23.e k)),(90,(z1m.e k))],z1w.regs,k,mm⟩
@[reducible] def z1w.sg:Sg:=⟨[.dat tMessage],[],.dat .str,[]⟩
def z1w.f (k:Nat) (a0:Ty.D tMessage):Option (Sg.Out z1w.sg):=Sg.fn z1w.sg (z1w.cx k) z1w.body z1w.rs a0
theorem z1w.f_eq (k:Nat) (a0:Ty.D tMessage):z1w.f k a0=bnd (packI a0.1) fun r0=>bnd (packI a0.2.1) fun r1=>br (roomS r0 r1) (bnd (packI a0.2.2.1) fun r2=>br (roomS (app r0 r1) r2) (br (ieq a0.1 1) (bnd (z0I.f k a0.2.2.2.1) fun r3=>br (roomS (app (app r0 r1) r2) r3) (bnd (z23.f k (app (app (app r0 r1) r2) r3)) fun r4=>some r4) none) (bnd (z1m.f k a0.2.2.2.2) fun r5=>br (roomS (app (app r0 r1) r2) r5) (bnd (z23.f k (app (app (app r0 r1) r2) r5)) fun r6=>some r6) none)) none) none:=by kernel_rfl
@[reducible] def ref24_Same.sg:Sg:=⟨[.dat tKnow,.dat tKnow],[],.dat .bool,[]⟩
@[reducible] def ref28_Same.sg:Sg:=⟨[.dat tMessage,.dat tMessage],[],.dat .bool,[]⟩
@[reducible] def law28_MessageTells.sg:Sg:=⟨[.dat tMessage],[],.dat .bool,[]⟩
def z0b.body:Go.Code:=Tryz.f5.body.getD .skip
def z0b.rs:List Go.ResultVar:=Tryz.f5.results.toList
def z0b.regs:List (Nat × RInfo):=[(0,⟨[1,2,3],[3],[0],[],0,[],[],[],[],[]⟩),(1,ri [1,2,3,22] [3]),(2,ri [6] [23,43,55]),(3,ri [1,2,7] [25]),(4,ri [1,2,7,8] [25,28]),(5,ri [1,2,7,8] [25,28]),(6,ri [1,2,7,42] [25]),(7,ri [6] [23,43,55]),(8,⟨[10],[49],[9],[],0,[],[],[],[],[]⟩),(9,ri [6] [23,43,55])]
def z0b.cx (k:Nat):Cx:=⟨tt,pp,[(20,(z0M.e k)),(22,(z11.e k)),(21,(z0S.e k)),(24,(z0D.e k)),(28,(z0j.e k)),(29,changedE),(25,(z0v.e k))],z0b.regs,k,mm⟩
@[reducible] def z0b.sg:Sg:=⟨[.dat tMessage,.dat (.int .i64),.dat (.int .u8)],[],.dat .bool,[]⟩
def z0b.f (k:Nat) (a0:Ty.D tMessage) (a1:Ty.D (.int .i64)) (a2:Ty.D (.int .u8)):Option (Sg.Out z0b.sg):=Sg.fn z0b.sg (z0b.cx k) z0b.body z0b.rs (a0,a1,a2)
theorem z0b.f_eq (k:Nat) (a0:Ty.D tMessage) (a1:Ty.D (.int .i64)) (a2:Ty.D (.int .u8)):z0b.f k a0 a1 a2=bnd (z0M.f k a0) fun r0=>br (bnot r0) (bnd (z0S.f k) fun r1=>some r1) (bnd (z11.f k a0) fun r2=>br (bnot r2) (bnd (z0S.f k) fun r3=>some r3) (br (ieq a2 0) (bnd (z0S.f k) fun r4=>some r4) (bnd (z0D.f k a0) fun r5=>bnd (z0j.f k (r5,(0,0))) fun r6=>br (ilt a1 r6.2.2.1) (bnd (z0S.f k) fun r7=>some r7) (br (ile (ilen r5) a1) (bnd (z0S.f k) fun r8=>some r8) (bnd (YtggcagclpkhlhaaGreatDoor.changedI (r5,(a1,a2))) fun r9=>bnd (z0v.f k r9) fun r10=>br (ieq r10.2 5) (bnd (z0S.f k) fun r11=>some r11) (some false)))))):=by kernel_rfl
def z0b.e (k:Nat):Entry:=Sg.entry z0b.sg fun x=>z0b.f k x.1 x.2.1 x.2.2
theorem z0b.ok (k:Nat):CallOK Tryz.prog 5 (z0b.e k):=fn_ok (c:=z0b.cx k) (code:=z0b.body) (TT.of tt_ok pp_ok mm_ok) (fns_ok ⟨(z0M.ok k),(z11.ok k),(z0S.ok k),(z0D.ok k),(z0j.ok k),changed_ok,(z0v.ok k),trivial⟩) mixed Tryz.func5 (by kernel_rfl) (by kernel_rfl) (by kernel_rfl) (by kernel_rfl) (by kernel_rfl) (by kernel_rfl) (fun x=>by kernel_rfl)

end Go.Proofs.YtggcagclpkhlhaaGreatDoor
end
noncomputable section
/- Sets of dots: one way to stand. -/
namespace Go.Proofs.YtggcagclpkhlhaaGreatDoor
open Pal
abbrev Vec:=List Int
abbrev DSet:=Vec × List Dot
def vat (v:Vec) (r:Int):Int:=rd (.int .i64) v (natOf r)
theorem rightD_iff (d:Dot):rightD d=true ↔ 0≤d.1∧d.1<16∧1≤d.2∧d.2≤1048576:=by unfold rightD;rw [decide_eq_true_iff]
theorem vat_get {v:Vec} {i:Nat} (h:i<v.length):vat v (i:Int)=v[i]:=by unfold vat;rw [natOf_nat];exact rd_at' (e:=.int .i64) h
structure VOk (v:Vec):Prop where
 len:v.length=16
 lo:∀ r,0≤r→r<16→0≤vat v r
 hi:∀ r,0≤r→r<16→vat v r≤1048576
structure Can (s:DSet):Prop where
 vok:VOk s.1
 rt:∀ d ∈ s.2,rightD d=true
 gap:∀ d ∈ s.2,vat s.1 d.1+1<d.2
 srt:s.2.Pairwise (fun a b=>dotLt a b=true)
def put1 (s:DSet) (d:Dot):DSet :=
 if d.2≤vat s.1 d.1 then s else if d.2=vat s.1 d.1+1 then (upd s.1 (natOf d.1) d.2,s.2) else if s.2.getLast? = some d then s else (s.1,s.2++[d])
def mk (v:Vec) (l:List Dot):DSet:=l.foldl put1 (v,[])
end Go.Proofs.YtggcagclpkhlhaaGreatDoor
end
noncomputable section
/- What the functions of the layer of dots compute. -/
namespace Go.Proofs.YtggcagclpkhlhaaGreatDoor
open Pal
theorem iadd_s {a b:Int} (h1:-1000000000000≤a) (h2:a≤1000000000000) (h3:-1000000000000≤b) (h4:b≤1000000000000):iadd .i64 a b=a+b:=by
 have e1:((2:Int) ^ 63)=9223372036854775808:=by decide
 show IntKind.wrap .i64 (a+b)=_
 rw [wrap_i64 (by rw [e1];omega) (by rw [e1];omega)]
theorem isub_s {a b:Int} (h1:-1000000000000≤a) (h2:a≤1000000000000) (h3:-1000000000000≤b) (h4:b≤1000000000000):isub .i64 a b=a - b:=by
 have e1:((2:Int) ^ 63)=9223372036854775808:=by decide
 show IntKind.wrap .i64 (a - b)=_
 rw [wrap_i64 (by rw [e1];omega) (by rw [e1];omega)]
theorem inB16 {r:Int} (h0:0≤r) (h1:r<16):inB r 16=true:=by simp [inB,h0];omega
theorem room1 {α:Type} {xs:List α} {x:α} (h:xs.length<4000000):room xs (x::[])=true:=by simp [room];omega
theorem ile_dec (a b:Int):ile a b=decide (a≤b):=rfl
theorem ilt_dec (a b:Int):ilt a b=decide (a<b):=rfl
theorem rright_is (k:Nat) (d:Dot):z0P.f k d=some (rightD d):=by
 rw [z0P.f_eq]
 have:ile d.1 15=ilt d.1 16:=by unfold ile ilt;congr 1;exact propext ⟨fun h=>by omega,fun h=>by omega⟩
 rw [this]
 have:=right_is k d
 rw [z1O.f_eq] at this
 exact this
def memB (s:DSet) (d:Dot):Bool:=rightD d && (decide (d.2≤vat s.1 d.1) || decide (d ∈ s.2))
end Go.Proofs.YtggcagclpkhlhaaGreatDoor
end
noncomputable section
/- What the functions of the layer of dots compute, on. -/
namespace Go.Proofs.YtggcagclpkhlhaaGreatDoor
open Pal
theorem srt_get {l:List Dot} (hs:l.Pairwise (fun a b=>dotLt a b=true)) {i j:Nat} (hi:i<l.length) (hj:j<l.length) (h:i<j):dotLt l[i] l[j]=true:=List.pairwise_iff_getElem.1 hs i j hi hj h
theorem cmp_lt0 (a b:Dot):ilt (cmpD a b) 0=dotLt a b:=rfl
def insR (d:Dot):List Dot→List Dot
 | []=>[d]
 | y::r=>if dotLt d y then d::y::r else y::insR d r
def putD (s:DSet) (d:Dot):DSet:=if memB s d=true∨rightD d=false then s else mk s.1 (insR d s.2)
end Go.Proofs.YtggcagclpkhlhaaGreatDoor
end
noncomputable section
/- What the document's functions of the layer of dots compute. -/
namespace Go.Proofs.YtggcagclpkhlhaaGreatDoor
open Pal
theorem rcmp_is (k:Nat) (a b:Dot):z0y.f k a b=some (cmpD a b):=by
 rw [z0y.f_eq,z1n.f_eq,z1n.f_eq,ieq_dec,bnot_dec]
 have hI:∀ x y:Int,br (ilt x y) (some (-1)) (br (ilt y x) (some 1) (some 0))=some (cmpI x y):=fun x y=>by
  unfold cmpI
  by_cases h1:x<y
  ·simp [ilt,h1,br_true]
  ·by_cases h2:y<x <;> simp [ilt,h1,h2,br_true,br_false]
 have hI':∀ x y:Int,bnd (br (ilt x y) (some (-1)) (br (ilt y x) (some 1) (some 0))) (fun r=>some r)=some (cmpI x y):=fun x y=>by rw [hI];rfl
 rw [hI',hI']
 unfold cmpD
 by_cases h:a.1=b.1
 ·rw [if_pos ((cmpI_eq _ _).2 h)];simp [h,br_false]
 ·rw [if_neg (fun e=>h ((cmpI_eq _ _).1 e))];simp [h,br_true]
end Go.Proofs.YtggcagclpkhlhaaGreatDoor
end
noncomputable section
/- The same, and right, among sets of dots. -/
namespace Go.Proofs.YtggcagclpkhlhaaGreatDoor
open Pal
def vin (v:Vec) (r:Int):Prop:=0≤vat v r∧vat v r≤1048576
theorem rvr_l (k:Nat) (v:Vec):∀ (n i:Nat),i≤16→16<n+i→∃ b,z0J.l2 k n (i:Int) v=some b∧(b=true ↔ ∀ r:Nat,i≤r→r<16→vin v r)
 | 0,i,h,h'=>by omega
 | n+1,i,h,h'=>by
  rw [z0J.l2_eq,natOf_nat]
  have e1:ilt (i:Int) 16=decide (i<16):=ilt_nn i 16
  rw [e1,inB_nat]
  by_cases hi:i<16
  ·have hv:rd (.int .i64) v i=vat v (i:Int):=rfl
   rw [hv,iadd_nat (by omega),ilt_dec,ilt_dec]
   simp only [hi,decide_true,br_true]
   by_cases h1:vat v (i:Int)<0
   ·simp only [h1,decide_true,br_true]
    exact ⟨false,rfl,⟨fun h=>(by cases h),fun h=>by have:=(h i (Nat.le_refl _) hi).1;omega⟩⟩
   ·simp only [h1,decide_false,br_false]
    by_cases h2:1048576<vat v (i:Int)
    ·simp only [h2,decide_true,br_true]
     exact ⟨false,rfl,⟨fun h=>(by cases h),fun h=>by have:=(h i (Nat.le_refl _) hi).2;omega⟩⟩
    ·simp only [h2,decide_false,br_false]
     obtain ⟨b,hb,hbi⟩:=rvr_l k v n (i+1) (by omega) (by omega)
     refine ⟨b,hb,hbi.trans ⟨fun h r hr hr2=>?_,fun h r hr hr2=>h r (by omega) hr2⟩⟩
     by_cases he:r=i
     ·subst he;exact ⟨by omega,by omega⟩
     ·exact h r (by omega) hr2
  ·simp only [hi,decide_false,br_false]
   exact ⟨true,rfl,⟨fun _ r hr hr2=>by omega,fun _=>rfl⟩⟩
theorem vok_iff {v:Vec} (hl:v.length=16):VOk v ↔ ∀ r:Nat,0≤r→r<16→vin v r:=by
 constructor
 ·intro h r _ hr;exact ⟨h.lo r (by omega) (by omega),h.hi r (by omega) (by omega)⟩
 ·intro h
  refine ⟨hl,fun r h0 h1=>?_,fun r h0 h1=>?_⟩
  ·obtain ⟨a,rfl⟩:=Int.eq_ofNat_of_zero_le h0;exact (h a (by omega) (by omega)).1
  ·obtain ⟨a,rfl⟩:=Int.eq_ofNat_of_zero_le h0;exact (h a (by omega) (by omega)).2
theorem rvr_is (k:Nat) (v:Vec) (hl:v.length=16) (hk:17<k):∃ b,z0J.f k v=some b∧(b=true ↔ VOk v):=by
 rw [z0J.f_eq,vok_iff hl]
 exact rvr_l k v k 0 (by omega) (by omega)
theorem vr_l (k:Nat) (v:Vec):∀ (n i:Nat),i≤16→16<n+i→∃ b,z1I.l2 k n v (i:Int)=some b∧(b=true ↔ ∀ r:Nat,i≤r→r<16→vin v r)
 | 0,i,h,h'=>by omega
 | n+1,i,h,h'=>by
  rw [z1I.l2_eq,natOf_nat]
  have e1:ilt (i:Int) 16=decide (i<16):=ilt_nn i 16
  rw [e1,inB_nat]
  by_cases hi:i<16
  ·have hv:rd (.int .i64) v i=vat v (i:Int):=rfl
   rw [hv,iadd_nat (by omega),ilt_dec,ilt_dec]
   simp only [hi,decide_true,br_true]
   by_cases h1:vat v (i:Int)<0
   ·simp only [h1,decide_true,br_true]
    exact ⟨false,rfl,⟨fun h=>(by cases h),fun h=>by have:=(h i (Nat.le_refl _) hi).1;omega⟩⟩
   ·simp only [h1,decide_false,br_false]
    by_cases h2:1048576<vat v (i:Int)
    ·simp only [h2,decide_true,br_true]
     exact ⟨false,rfl,⟨fun h=>(by cases h),fun h=>by have:=(h i (Nat.le_refl _) hi).2;omega⟩⟩
    ·simp only [h2,decide_false,br_false]
     obtain ⟨b,hb,hbi⟩:=vr_l k v n (i+1) (by omega) (by omega)
     refine ⟨b,hb,hbi.trans ⟨fun h r hr hr2=>?_,fun h r hr hr2=>h r (by omega) hr2⟩⟩
     by_cases he:r=i
     ·subst he;exact ⟨by omega,by omega⟩
     ·exact h r (by omega) hr2
  ·simp only [hi,decide_false,br_false]
   exact ⟨true,rfl,⟨fun _ r hr hr2=>by omega,fun _=>rfl⟩⟩
theorem vr_is (k:Nat) (v:Vec) (hl:v.length=16) (hk:17<k):∃ b,z1I.f k v=some b∧(b=true ↔ VOk v):=by
 rw [z1I.f_eq,vok_iff hl]
 exact vr_l k v k 0 (by omega) (by omega)
def okAt (s:DSet) (j:Nat) (h:j<s.2.length):Prop:=rightD s.2[j]=true∧vat s.1 s.2[j].1+1<s.2[j].2∧(∀ h0:0<j,dotLt (s.2[j - 1]'(by omega)) s.2[j]=true)
theorem can_iff {s:DSet} (hv:VOk s.1):Can s ↔ ∀ j (h:j<s.2.length),0≤j→okAt s j h:=by
 constructor
 ·intro hs j h _
  exact ⟨hs.rt _ (List.getElem_mem h),hs.gap _ (List.getElem_mem h),fun h0=>srt_get hs.srt (by omega) h (by omega)⟩
 ·intro h
  refine ⟨hv,fun d hd=>?_,fun d hd=>?_,?_⟩
  ·obtain ⟨j,hj,rfl⟩:=List.getElem_of_mem hd;exact (h j hj (Nat.zero_le _)).1
  ·obtain ⟨j,hj,rfl⟩:=List.getElem_of_mem hd;exact (h j hj (Nat.zero_le _)).2.1
  ·have key:∀ t i (hi:i<s.2.length) (hj:i+1+t<s.2.length),dotLt s.2[i] s.2[i+1+t]=true:=by
    intro t
    induction t with
    | zero=>intro i hi hj;exact (h (i+1) hj (Nat.zero_le _)).2.2 (by omega)
    | succ t ih =>
     intro i hi hj
     have h1:=ih i hi (by omega)
     have h2:=(h (i+1+(t+1)) hj (Nat.zero_le _)).2.2 (by omega)
     exact dotLt_swo.trans _ _ _ h1 h2
   rw [List.pairwise_iff_getElem]
   intro i j hi hj hij
   have:=key (j - i - 1) i hi (by omega)
   have e:i+1+(j - i - 1)=j:=by omega
   simp only [e] at this;exact this
theorem cmp_m1 (a b:Dot):bnot (ieq (cmpD a b) (-1))=!dotLt a b:=by
 have h1:∀ x y:Int,cmpI x y=-1∨cmpI x y=0∨cmpI x y=1:=fun x y=>by unfold cmpI;split <;> (try split) <;> simp
 have h:cmpD a b=-1∨cmpD a b=0∨cmpD a b=1:=by unfold cmpD;split <;> exact h1 _ _
 show bnot (ieq (cmpD a b) (-1))=!decide (cmpD a b<0)
 rcases h with h | h | h <;> rw [h] <;> rfl
theorem rr_l (k:Nat) (s:DSet) (hl:s.2.length<1000000) (hv:VOk s.1):∀ (n i:Nat),i≤s.2.length→s.2.length<n+i→∃ b,z0R.l4 k n (i:Int) s=some b∧(b=true ↔ ∀ j (h:j<s.2.length),i≤j→okAt s j h)
 | 0,i,h,h'=>by omega
 | n+1,i,h,h'=>by
  rw [z0R.l4_eq,ilt_nat,inL_nat,natOf_nat]
  by_cases hi:i<s.2.length
  ·rw [rd_at' (e:=tDot) hi,rright_is,iadd_nat (by omega)]
   simp only [hi,decide_true,br_true,bnd_some]
   cases hr:rightD s.2[i] with
   | false =>
    have e:bnot false=true:=rfl
    rw [e]
    exact ⟨false,rfl,⟨fun h=>(by cases h),fun h=>by rw [(h i hi (Nat.le_refl _)).1] at hr;cases hr⟩⟩
   | true =>
    have e:bnot true=false:=rfl
    obtain ⟨r0,r1,r2,r3⟩:=(rightD_iff s.2[i]).1 hr
    have hvv:rd (.int .i64) s.1 (natOf s.2[i].1)=vat s.1 s.2[i].1:=rfl
    rw [e,inB16 r0 r1,hvv,isub_s (by omega) (by omega) (by omega) (by omega),ile_dec]
    simp only [br_true,br_false]
    by_cases hg:s.2[i].2 - 1≤vat s.1 s.2[i].1
    ·simp only [hg,decide_true,br_true]
     exact ⟨false,rfl,⟨fun h=>(by cases h),fun h=>by have:=(h i hi (Nat.le_refl _)).2.1;omega⟩⟩
    ·simp only [hg,decide_false,br_false]
     obtain ⟨b,hb,hbi⟩:=rr_l k s hl hv n (i+1) (by omega) (by omega)
     have step:(∀ h0:0<i,dotLt (s.2[i - 1]'(by omega)) s.2[i]=true)→(b=true ↔ ∀ j (h:j<s.2.length),i≤j→okAt s j h):=fun hlt=>hbi.trans ⟨fun h j hj hij=>by
      by_cases he:j=i
      ·subst he;exact ⟨hr,by omega,hlt⟩
      ·exact h j hj (by omega),fun h j hj hij=>h j hj (by omega)⟩
     by_cases h0:0<i
     ·have e2:ilt 0 (i:Int)=true:=by simp [ilt];omega
      have e3:isub .i64 (i:Int) 1=((i - 1:Nat):Int):=by rw [isub_s (by omega) (by omega) (by omega) (by omega)];omega
      have hi1:i - 1<s.2.length:=by omega
      rw [e2,e3,inL_nat,natOf_nat,rd_at' (e:=tDot) hi1,rcmp_is]
      simp only [hi1,decide_true,br_true,bnd_some,cmp_m1]
      cases hc:dotLt s.2[i - 1] s.2[i] with
      | true=>exact ⟨b,hb,step fun _=>hc⟩
      | false=>exact ⟨false,rfl,⟨fun h=>(by cases h),fun h=>by have:=(h i hi (Nat.le_refl _)).2.2 h0;rw [hc] at this;cases this⟩⟩
     ·have e2:ilt 0 (i:Int)=false:=by simp [ilt];omega
      rw [e2]
      exact ⟨b,hb,step fun h=>absurd h h0⟩
  ·simp only [hi,decide_false,br_false]
   exact ⟨true,rfl,⟨fun _ j hj hij=>by omega,fun _=>rfl⟩⟩
theorem rr_is (k:Nat) (s:DSet) (hl:s.1.length=16) (hk:5000<k) (hk2:k<1000000):∃ b,z0R.f k s=some b∧(b=true ↔ Can s∧s.2.length≤4096):=by
 obtain ⟨b,hb,hbi⟩:=rvr_is k s.1 hl (by omega)
 rw [z0R.f_eq,hb]
 simp only [bnd_some]
 cases b with
 | false=>exact ⟨false,rfl,⟨fun h=>(by cases h),fun h=>hbi.2 h.1.vok⟩⟩
 | true =>
  have hv:=hbi.1 rfl
  have e:bnot true=false:=rfl
  have e2:ilt 4096 (ilen s.2)=decide (4096<s.2.length):=ilt_nat 4096 s.2
  rw [e,e2]
  simp only [br_false]
  by_cases h:4096<s.2.length
  ·simp only [h,decide_true,br_true]
   exact ⟨false,rfl,⟨fun h=>(by cases h),fun h=>by omega⟩⟩
  ·simp only [h,decide_false,br_false]
   obtain ⟨b,hb,hbi⟩:=rr_l k s (by omega) hv k 0 (by omega) (by omega)
   exact ⟨b,hb,hbi.trans ⟨fun h2=>⟨(can_iff hv).2 h2,by omega⟩,fun h2=>(can_iff hv).1 h2.1⟩⟩
end Go.Proofs.YtggcagclpkhlhaaGreatDoor
end
noncomputable section
/- Whether a set is right, how many dots there are, and the next one's number. -/
namespace Go.Proofs.YtggcagclpkhlhaaGreatDoor
open Pal
theorem dr_l (k:Nat) (s:DSet) (hl:s.2.length<1000000) (hv:VOk s.1):∀ (n i:Nat),i≤s.2.length→s.2.length<n+i→∃ b,z1E.l4 (k+3) n s.2 (ilen s.2) (i:Int) s=some b∧(b=true ↔ ∀ j (h:j<s.2.length),i≤j→okAt s j h)
 | 0,i,h,h'=>by omega
 | n+1,i,h,h'=>by
  rw [z1E.l4_eq,ilt_nat,inL_nat,natOf_nat]
  by_cases hi:i<s.2.length
  ·rw [rd_at' (e:=tDot) hi,right_is,iadd_nat (by omega)]
   simp only [hi,decide_true,br_true,bnd_some]
   cases hr:rightD s.2[i] with
   | false =>
    have e:bnot false=true:=rfl
    rw [e]
    exact ⟨false,rfl,⟨fun h=>(by cases h),fun h=>by rw [(h i hi (Nat.le_refl _)).1] at hr;cases hr⟩⟩
   | true =>
    have e:bnot true=false:=rfl
    obtain ⟨r0,r1,r2,r3⟩:=(rightD_iff s.2[i]).1 hr
    have hvv:rd (.int .i64) s.1 (natOf s.2[i].1)=vat s.1 s.2[i].1:=rfl
    have v0:=hv.lo s.2[i].1 r0 r1
    have v1:=hv.hi s.2[i].1 r0 r1
    rw [e,inB16 r0 r1,hvv,iadd_s (by omega) (by omega) (by omega) (by omega),ile_dec]
    simp only [br_true,br_false]
    by_cases hg:s.2[i].2≤vat s.1 s.2[i].1+1
    ·simp only [hg,decide_true,br_true]
     exact ⟨false,rfl,⟨fun h=>(by cases h),fun h=>by have:=(h i hi (Nat.le_refl _)).2.1;omega⟩⟩
    ·simp only [hg,decide_false,br_false]
     obtain ⟨b,hb,hbi⟩:=dr_l k s hl hv n (i+1) (by omega) (by omega)
     have step:(∀ h0:0<i,dotLt (s.2[i - 1]'(by omega)) s.2[i]=true)→(b=true ↔ ∀ j (h:j<s.2.length),i≤j→okAt s j h):=fun hlt=>hbi.trans ⟨fun h j hj hij=>by
      by_cases he:j=i
      ·subst he;exact ⟨hr,by omega,hlt⟩
      ·exact h j hj (by omega),fun h j hj hij=>h j hj (by omega)⟩
     by_cases h0:0<i
     ·have e2:ilt 0 (i:Int)=true:=by simp [ilt];omega
      have e3:isub .i64 (i:Int) 1=((i - 1:Nat):Int):=by rw [isub_s (by omega) (by omega) (by omega) (by omega)];omega
      have hi1:i - 1<s.2.length:=by omega
      have e4:∀ a b:Dot,ile 0 (cmpD a b)=!dotLt a b:=fun a b=>by
       show decide (0≤cmpD a b)=!decide (cmpD a b<0)
       by_cases h:cmpD a b<0
       ·rw [decide_eq_true h,decide_eq_false (by omega)];rfl
       ·rw [decide_eq_false h,decide_eq_true (by omega)];rfl
      rw [e2,e3,inL_nat,natOf_nat,rd_at' (e:=tDot) hi1,cmpD_is]
      simp only [hi1,decide_true,br_true,bnd_some,e4]
      cases hc:dotLt s.2[i - 1] s.2[i] with
      | true=>exact ⟨b,hb,step fun _=>hc⟩
      | false=>exact ⟨false,rfl,⟨fun h=>(by cases h),fun h=>by have:=(h i hi (Nat.le_refl _)).2.2 h0;rw [hc] at this;cases this⟩⟩
     ·have e2:ilt 0 (i:Int)=false:=by simp [ilt];omega
      rw [e2]
      exact ⟨b,hb,step fun h=>absurd h h0⟩
  ·simp only [hi,decide_false,br_false]
   exact ⟨true,rfl,⟨fun _ j hj hij=>by omega,fun _=>rfl⟩⟩
theorem dr_is (k:Nat) (s:DSet) (hl:s.1.length=16) (hk:5000<k) (hk2:k<1000000):∃ b,z1E.f k s=some b∧(b=true ↔ Can s∧s.2.length≤4096):=by
 obtain ⟨b,hb,hbi⟩:=vr_is k s.1 hl (by omega)
 rw [z1E.f_eq,hb]
 simp only [bnd_some]
 cases b with
 | false=>exact ⟨false,rfl,⟨fun h=>(by cases h),fun h=>hbi.2 h.1.vok⟩⟩
 | true =>
  have hv:=hbi.1 rfl
  have e:bnot true=false:=rfl
  have e2:ilt 4096 (ilen s.2)=decide (4096<s.2.length):=ilt_nat 4096 s.2
  rw [e,e2]
  simp only [br_false]
  by_cases h:4096<s.2.length
  ·simp only [h,decide_true,br_true]
   exact ⟨false,rfl,⟨fun h=>(by cases h),fun h=>by omega⟩⟩
  ·simp only [h,decide_false,br_false]
   obtain ⟨q,rfl⟩:∃ q,k=q+3:=⟨k - 3,by omega⟩
   obtain ⟨b,hb,hbi⟩:=dr_l q s (by omega) hv (q+3) 0 (by omega) (by omega)
   exact ⟨b,hb,hbi.trans ⟨fun h2=>⟨(can_iff hv).2 h2,by omega⟩,fun h2=>(can_iff hv).1 h2.1⟩⟩
end Go.Proofs.YtggcagclpkhlhaaGreatDoor
end
noncomputable section
/- Unions, and what is within what. -/
namespace Go.Proofs.YtggcagclpkhlhaaGreatDoor
open Pal
end Go.Proofs.YtggcagclpkhlhaaGreatDoor
end
noncomputable section
/- Readers: the program's and the document's read the same. -/
namespace Go.Proofs.YtggcagclpkhlhaaGreatDoor
open Pal
abbrev Rdr:=List UInt8 × Int
abbrev RefRdr:=List UInt8 × (Int × Int)
structure RR (S:List UInt8) (r:Rdr) (x:RefRdr):Prop where
 src:x.1=S
 lo:0≤x.2.1
 hi:x.2.1≤(S.length:Int)
 bad:r.2=x.2.2
 rest:x.2.2=0→r.1=S.drop x.2.1.toNat
theorem fine_is (k:Nat) (o:Rdr):z0d.f k o=some (decide (o.2=0),o):=by rw [z0d.f_eq,ieq_dec]
theorem fail_is (k:Nat) (e:Int) (o:Rdr):z0f.f k e o=some ((),if o.2=0 then (o.1,e) else o):=by
 rw [z0f.f_eq,fine_is]
 simp only [bnd_some,br_dec]
 split <;> rfl
theorem byte_lt (b:UInt8):b.toNat<256:=b.toNat_lt
theorem byteAt_drop (S:List UInt8) (a i:Nat):byteAt (S.drop a) (i:Int)=byteAt S ((a+i:Nat):Int):=by
 unfold byteAt
 rw [Int.toNat_natCast,Int.toNat_natCast]
 simp [List.getD]
theorem byteAt_rng (S:List UInt8) (i:Int):0≤byteAt S i∧byteAt S i<256:=by
 unfold byteAt
 have:=byte_lt (S.getD i.toNat 0);omega
theorem wrap64 {n:Int} (h1:-9000000000000000000≤n) (h2:n≤9000000000000000000):IntKind.wrap .i64 n=n:=by
 have e1:((2:Int) ^ 63)=9223372036854775808:=by decide
 exact wrap_i64 (by rw [e1];omega) (by rw [e1];omega)
theorem iand127 {c:Nat} (h:c<9000000000000000000):iand .i64 (c:Int) 127=((c % 128:Nat):Int):=by
 show IntKind.wrap .i64 (((BitVec.ofInt 64 (c:Int) &&& BitVec.ofInt 64 127).toNat:Nat):Int)=_
 have e:(BitVec.ofInt 64 (c:Int) &&& BitVec.ofInt 64 127).toNat=c % 128:=by
  have e1:BitVec.ofInt 64 (c:Int)=BitVec.ofNat 64 c:=by simp
  have e2:BitVec.ofInt 64 127=BitVec.ofNat 64 127:=by decide
  rw [e1,e2,BitVec.toNat_and,BitVec.toNat_ofNat,BitVec.toNat_ofNat,Nat.mod_eq_of_lt (show c<2 ^ 64 by omega),show 127 % 2 ^ 64=2 ^ 7 - 1 by decide,Nat.and_two_pow_sub_one_eq_mod]
 rw [e,wrap64 (by omega) (by omega)]
theorem ior_add {a b m:Nat} (ha:a<2 ^ m) (hb:2 ^ m * b+a<9000000000000000000):ior .i64 (a:Int) ((2 ^ m * b:Nat):Int)=((2 ^ m * b+a:Nat):Int):=by
 show IntKind.wrap .i64 (((BitVec.ofInt 64 (a:Int) ||| BitVec.ofInt 64 ((2 ^ m * b:Nat):Int)).toNat:Nat):Int)=_
 have e:(BitVec.ofInt 64 (a:Int) ||| BitVec.ofInt 64 ((2 ^ m * b:Nat):Int)).toNat=2 ^ m * b+a:=by
  have e1:∀ c:Nat,BitVec.ofInt 64 (c:Int)=BitVec.ofNat 64 c:=fun c=>by simp
  rw [e1,e1,BitVec.toNat_or,BitVec.toNat_ofNat,BitVec.toNat_ofNat,Nat.mod_eq_of_lt (show a<2 ^ 64 by omega),Nat.mod_eq_of_lt (show 2 ^ m * b<2 ^ 64 by omega),Nat.or_comm,Nat.two_pow_add_eq_or_of_lt ha]
 rw [e,wrap64 (by omega) (by omega)]
theorem pow_mono {i:Nat} (h:i≤8):2 ^ (7 * i)≤72057594037927936:=by
 have:2 ^ (7 * i)≤2 ^ 56:=Nat.pow_le_pow_right (by decide) (by omega)
 exact this
theorem pow_mono7 {i:Nat} (h:i<8):2 ^ (7 * i)≤562949953421312:=by
 have:2 ^ (7 * i)≤2 ^ 49:=Nat.pow_le_pow_right (by decide) (by omega)
 exact this
theorem num_step {i c n:Nat} (hi:i<8) (hc:c<256) (hn:n<2 ^ (7 * i)) :
  ior .i64 (n:Int) (ishl .i64 (iand .i64 (c:Int) 127) (imul .i64 7 (i:Int)))=((2 ^ (7 * i) * (c % 128)+n:Nat):Int)∧2 ^ (7 * i) * (c % 128)+n<2 ^ (7 * (i+1)):=by
 have hp:=pow_mono7 hi
 have hp1:=pow_mono (show i+1≤8 by omega)
 have e7:2 ^ (7 * (i+1))=2 ^ (7 * i) * 128:=by rw [show 7 * (i+1)=7 * i+7 by omega,Nat.pow_add]
 have hm:c % 128≤127:=by omega
 have hmul:2 ^ (7 * i) * (c % 128)≤2 ^ (7 * i) * 127:=Nat.mul_le_mul_left _ hm
 have hlt:2 ^ (7 * i) * (c % 128)+n<2 ^ (7 * (i+1)):=by rw [e7];omega
 refine ⟨?_,hlt⟩
 have e1:imul .i64 7 (i:Int)=((7 * i:Nat):Int):=by
  show IntKind.wrap .i64 (7 * (i:Int))=_
  rw [wrap64 (by omega) (by omega)];omega
 have e2:ishl .i64 ((c % 128:Nat):Int) ((7 * i:Nat):Int)=((2 ^ (7 * i) * (c % 128):Nat):Int):=by
  show IntKind.wrap .i64 (((c % 128:Nat):Int) * 2 ^ (min ((7 * i:Nat):Int).toNat 64))=_
  have:min ((7 * i:Nat):Int).toNat 64=7 * i:=by omega
  rw [this]
  have e3:((c % 128:Nat):Int) * 2 ^ (7 * i)=((2 ^ (7 * i) * (c % 128):Nat):Int):=by
   rw [Int.natCast_mul,Int.natCast_pow,Int.mul_comm];rfl
  rw [e3,wrap64 (by omega) (by omega)]
 rw [iand127 (by omega),e1,e2,ior_add hn (by omega)]
theorem ref_step {i c n:Nat} (hi:i<8) (hc:c<256) (hn:n<2 ^ (7 * i)) (hc2:128≤c) :
  iadd .i64 (n:Int) (imul .i64 (isub .i64 (c:Int) 128) ((2 ^ (7 * i):Nat):Int))=((2 ^ (7 * i) * (c % 128)+n:Nat):Int):=by
 have hp:=pow_mono7 hi
 have e1:isub .i64 (c:Int) 128=((c % 128:Nat):Int):=by
  show IntKind.wrap .i64 ((c:Int) - 128)=_
  rw [wrap64 (by omega) (by omega)];omega
 have hmul:(c % 128) * 2 ^ (7 * i)≤127 * 2 ^ (7 * i):=Nat.mul_le_mul_right _ (by omega)
 have e2:imul .i64 ((c % 128:Nat):Int) ((2 ^ (7 * i):Nat):Int)=(((c % 128) * 2 ^ (7 * i):Nat):Int):=by
  show IntKind.wrap .i64 (((c % 128:Nat):Int) * ((2 ^ (7 * i):Nat):Int))=_
  rw [← Int.natCast_mul,wrap64 (by omega) (by omega)]
 rw [e1,e2]
 show IntKind.wrap .i64 ((n:Int)+(((c % 128) * 2 ^ (7 * i):Nat):Int))=_
 rw [wrap64 (by omega) (by omega),Nat.mul_comm];omega
theorem ref_last {i c n:Nat} (hi:i<8) (hn:n<2 ^ (7 * i)) (hc2:c<128) :
  iadd .i64 (n:Int) (imul .i64 (c:Int) ((2 ^ (7 * i):Nat):Int))=((2 ^ (7 * i) * (c % 128)+n:Nat):Int):=by
 have hp:=pow_mono7 hi
 have hmul:c * 2 ^ (7 * i)≤127 * 2 ^ (7 * i):=Nat.mul_le_mul_right _ (by omega)
 have e2:imul .i64 (c:Int) ((2 ^ (7 * i):Nat):Int)=((c * 2 ^ (7 * i):Nat):Int):=by
  show IntKind.wrap .i64 ((c:Int) * ((2 ^ (7 * i):Nat):Int))=_
  rw [← Int.natCast_mul,wrap64 (by omega) (by omega)]
 rw [e2,Nat.mod_eq_of_lt (show c<128 by omega)]
 show IntKind.wrap .i64 ((n:Int)+((c * 2 ^ (7 * i):Nat):Int))=_
 rw [wrap64 (by omega) (by omega),Nat.mul_comm];omega
theorem unit_step {i:Nat} (hi:i<8):imul .i64 ((2 ^ (7 * i):Nat):Int) 128=((2 ^ (7 * (i+1)):Nat):Int):=by
 have hp:=pow_mono7 hi
 have e7:2 ^ (7 * (i+1))=2 ^ (7 * i) * 128:=by rw [show 7 * (i+1)=7 * i+7 by omega,Nat.pow_add]
 show IntKind.wrap .i64 (((2 ^ (7 * i):Nat):Int) * 128)=_
 rw [wrap64 (by omega) (by omega),e7];omega
theorem rr_bad {S s:List UInt8} {a:Nat} {e:Int} (h:a≤S.length) (he:e ≠ 0):RR S (s,e) (S,((a:Int),e)) :=
 ⟨rfl,by show (0:Int)≤(a:Int);omega,by show (a:Int)≤(S.length:Int);omega,rfl,fun hh=>absurd hh he⟩
def IntOK (S:List UInt8) (p:Option (Int × Rdr)) (q:Option (Int × RefRdr)):Prop :=
 ∃ n r x,p=some (n,r)∧q=some (n,x)∧RR S r x∧0≤n∧n<72057594037927936∧(x.2.2 ≠ 0→n=0)
theorem int_bad (k m:Nat) (a b:Int) (s:List UInt8) (e:Int) (he:e ≠ 0):z0p.l3 k (m+1) a b (s,e)=some (0,(s,e)):=by
 rw [z0p.l3_eq,fine_is]
 simp only [bnd_some,he,decide_false,br_false]
theorem int_fin {S:List UInt8} {a i:Nat} (hl:a+i<S.length) (hS:S.length<4000000) {v:Int} (h0:0≤v) (h1:v<72057594037927936) :
  IntOK S (br (inS ((i+1:Nat):Int) (ilen (S.drop a)) (ilen (S.drop a))) (some (v,((piece (S.drop a) ((i+1:Nat):Int) (ilen (S.drop a))),(0:Int)))) none) (some (v,(S,((iadd .i64 ((a+i:Nat):Int) 1),(0:Int))))):=by
 have hin:inS ((i+1:Nat):Int) (ilen (S.drop a)) (ilen (S.drop a))=true:=by
  have q1:((i+1:Nat):Int)≤((S.drop a).length:Int):=by rw [List.length_drop];omega
  show (decide ((0:Int)≤((i+1:Nat):Int)) && decide (((i+1:Nat):Int)≤((S.drop a).length:Int)) && decide (((S.drop a).length:Int)≤((S.drop a).length:Int)))=true
  rw [decide_eq_true q1,decide_eq_true (show (0:Int)≤((i+1:Nat):Int) by omega),decide_eq_true (Int.le_refl _)];rfl
 rw [hin,iadd_nat (by omega)]
 refine ⟨_,_,_,rfl,rfl,⟨rfl,by show (0:Int)≤((a+i+1:Nat):Int);omega,by show ((a+i+1:Nat):Int)≤(S.length:Int);omega,rfl,fun _=>?_⟩,h0,h1,fun h=>absurd rfl h⟩
 show piece (S.drop a) ((i+1:Nat):Int) (ilen (S.drop a))=S.drop ((a+i+1:Nat):Int).toNat
 unfold piece ilen
 rw [Int.toNat_natCast,Int.toNat_natCast,Int.toNat_natCast,List.take_length,List.drop_drop]
 congr 1
theorem int_end (k:Nat) (S:List UInt8) (a:Nat) (ha:a≤S.length) (n u:Int) (m1 m2:Nat) :
  IntOK S (z0p.l3 k (m1+2) n ((8:Nat):Int) (S.drop a,0)) (z0j.l5 k (m2+1) n u ((8:Nat):Int) (S,((a:Int),0))):=by
  rw [z0p.l3_eq,z0j.l5_eq,fine_is]
  have e1:ieq ((8:Nat):Int) 8=true:=rfl
  have e2:ilt ((8:Nat):Int) 8=false:=rfl
  simp only [bnd_some,decide_true,br_true,e1,e2,br_false,fail_is,if_true]
  rw [int_bad k m1 _ _ _ 6 (by decide)]
  exact ⟨0,_,_,rfl,rfl,rr_bad ha (by decide),by decide,by decide,fun _=>rfl⟩
theorem int_step (k:Nat) (S:List UInt8) (a:Nat) (ha:a≤S.length) (hS:S.length<4000000) (i n m1 m2:Nat) (hi8:i<8) (hn:n<2 ^ (7 * i))
  (ih:∀ v:Nat,v<2 ^ (7 * (i+1))→IntOK S (z0p.l3 k (m1+1) (v:Int) ((i+1:Nat):Int) (S.drop a,0)) (z0j.l5 k m2 (v:Int) ((2 ^ (7 * (i+1)):Nat):Int) ((i+1:Nat):Int) (S,((a:Int),0)))) :
  IntOK S (z0p.l3 k (m1+2) (n:Int) (i:Int) (S.drop a,0)) (z0j.l5 k (m2+1) (n:Int) ((2 ^ (7 * i):Nat):Int) (i:Int) (S,((a:Int),0))):=by
  rw [z0p.l3_eq,z0j.l5_eq,fine_is]
  have e1:ieq (i:Int) 8=false:=by rw [ieq_dec];exact decide_eq_false (by omega)
  have e2:ilt (i:Int) 8=true:=decide_eq_true (by omega)
  have e3:iadd .i64 (a:Int) (i:Int)=((a+i:Nat):Int):=by rw [iadd_s (by omega) (by omega) (by omega) (by omega)];omega
  have e4:ile (ilen (S.drop a)) (i:Int)=decide (S.length≤a+i):=by
   unfold ile ilen;rw [List.length_drop];exact decide_eq_decide.2 ⟨fun h=>by omega,fun h=>by omega⟩
  have e5:ile (ilen S) ((a+i:Nat):Int)=decide (S.length≤a+i):=by
   unfold ile ilen;exact decide_eq_decide.2 ⟨fun h=>by omega,fun h=>by omega⟩
  have e6:inL (i:Int) (S.drop a)=decide (a+i<S.length):=by
   rw [inL_nat,List.length_drop];exact decide_eq_decide.2 ⟨fun h=>by omega,fun h=>by omega⟩
  have e8':inL ((a+i:Nat):Int) S=decide (a+i<S.length):=inL_nat _ _
  have e7:ilt (imul .i64 7 (i:Int)) 0=false:=by
   show decide (IntKind.wrap .i64 (7 * (i:Int))<0)=false
   rw [wrap64 (by omega) (by omega)];exact decide_eq_false (by omega)
  simp only [bnd_some,decide_true,br_true,e1,e2,br_false,fail_is,if_true,e3,e4,e5,e6,e7,e8',byteAt_drop]
  by_cases hl:S.length≤a+i
  ·simp only [hl,decide_true,br_true]
   rw [int_bad k m1 _ _ _ 4 (by decide)]
   exact ⟨0,_,_,rfl,rfl,rr_bad ha (by decide),by decide,by decide,fun _=>rfl⟩
  ·have hl2:a+i<S.length:=by omega
   simp only [hl,hl2,decide_true,decide_false,br_true,br_false]
   have hcr:=byteAt_rng S ((a+i:Nat):Int)
   obtain ⟨c,hc⟩:∃ c:Nat,byteAt S ((a+i:Nat):Int)=(c:Int):=⟨(byteAt S ((a+i:Nat):Int)).toNat,by omega⟩
   rw [hc] at hcr ⊢
   have hw:iwrap .i64 (c:Int)=(c:Int):=wrap64 (by omega) (by omega)
   have hc256:c<256:=by omega
   obtain ⟨g1,g2⟩:=num_step (c:=c) hi8 hc256 hn
   have e12:iadd .i64 (i:Int) 1=((i+1:Nat):Int):=iadd_nat (by omega)
   rw [hw,g1,e12]
   have e8:ile 128 (c:Int)=decide (128≤c):=by unfold ile;exact decide_eq_decide.2 ⟨fun h=>by omega,fun h=>by omega⟩
   have e9:ilt (c:Int) 128=decide (c<128):=by unfold ilt;exact decide_eq_decide.2 ⟨fun h=>by omega,fun h=>by omega⟩
   have e10:ieq (c:Int) 0=decide (c=0):=by rw [ieq_dec];exact decide_eq_decide.2 ⟨fun h=>by omega,fun h=>by omega⟩
   have e11:ilt 0 (i:Int)=decide (0<i):=ilt_nn 0 i
   rw [e8,e9,e10,e11]
   by_cases hc2:128≤c
   ·have hc3:¬ c<128:=by omega
    rw [decide_eq_true hc2,decide_eq_false hc3,br_true,br_false]
    rw [ref_step hi8 hc256 hn hc2,unit_step hi8]
    exact ih _ g2
   ·have hc3:c<128:=by omega
    rw [decide_eq_false hc2,decide_eq_true hc3,br_false,br_true]
    rw [ref_last hi8 hn hc3]
    have hp1:=pow_mono (show i+1≤8 by omega)
    obtain ⟨v,hv⟩:∃ v:Int,v=((2 ^ (7 * i) * (c % 128)+n:Nat):Int):=⟨_,rfl⟩
    have v0:0≤v:=by omega
    have v1:v<72057594037927936:=by omega
    rw [← hv]
    have fin:=int_fin hl2 hS v0 v1
    by_cases hc0:c=0
    ·simp only [hc0,decide_true,br_true]
     by_cases h0:0<i
     ·simp only [h0,decide_true,br_true]
      rw [int_bad k m1 _ _ _ 3 (by decide)]
      exact ⟨0,_,_,rfl,rfl,rr_bad ha (by decide),by decide,by decide,fun _=>rfl⟩
     ·simp only [h0,decide_false,br_false]
      exact fin
    ·simp only [hc0,decide_false,br_false]
     exact fin
theorem int_l (k:Nat) (S:List UInt8) (a:Nat) (ha:a≤S.length) (hS:S.length<4000000) (m:Nat):∀ (i n m1 m2:Nat),i+m=8→m+2≤m1→m+1≤m2→n<2 ^ (7 * i) →
  IntOK S (z0p.l3 k m1 (n:Int) (i:Int) (S.drop a,0)) (z0j.l5 k m2 (n:Int) ((2 ^ (7 * i):Nat):Int) (i:Int) (S,((a:Int),0))):=by
 induction m with
 | zero =>
  intro i n m1 m2 hi h1 h2 hn
  obtain ⟨q1,rfl⟩:∃ q,m1=q+2:=⟨m1 - 2,by omega⟩
  obtain ⟨q2,rfl⟩:∃ q,m2=q+1:=⟨m2 - 1,by omega⟩
  have:i=8:=by omega
  subst this
  exact int_end k S a ha _ _ q1 q2
 | succ m ih =>
  intro i n m1 m2 hi h1 h2 hn
  obtain ⟨q1,rfl⟩:∃ q,m1=q+2:=⟨m1 - 2,by omega⟩
  obtain ⟨q2,rfl⟩:∃ q,m2=q+1:=⟨m2 - 1,by omega⟩
  exact int_step k S a ha hS i n q1 q2 (by omega) hn fun v hv=>ih (i+1) v (q1+1) q2 (by omega) (by omega) (by omega) hv
theorem int_is (k:Nat) (S:List UInt8) (r:Rdr) (x:RefRdr) (h:RR S r x) (hS:S.length<4000000) (hk:12<k):IntOK S (z0p.f k r) (z0j.f k x):=by
 obtain ⟨s,b⟩:=r
 obtain ⟨S',a,e⟩:=x
 obtain ⟨h1,h2,h3,h4,h5⟩:=h
 simp only at h1 h2 h3 h4 h5
 subst h1;subst h4
 rw [z0p.f_eq,z0j.f_eq,ieq_dec,bnot_dec]
 by_cases hb:b=0
 ·subst hb
  simp only [not_true,decide_false,br_false]
  rw [h5 rfl]
  obtain ⟨A,hA⟩:∃ A:Nat,a=(A:Int):=⟨a.toNat,by omega⟩
  subst hA
  have:=int_l k S' A (by omega) hS 8 0 0 k k (by omega) (by omega) (by omega) (by decide)
  exact this
 ·simp only [hb,not_false_eq_true,decide_true,br_true]
  obtain ⟨m,rfl⟩:∃ m,k=m+1:=⟨k - 1,by omega⟩
  rw [int_bad (m+1) m _ _ _ b hb]
  exact ⟨0,_,_,rfl,rfl,⟨rfl,h2,h3,rfl,fun h=>absurd h hb⟩,by decide,by decide,fun _=>rfl⟩
theorem fault_is (k:Nat) (r:Rdr):z0c.f k r=some (r.2,r):=z0c.f_eq k r
theorem open_rr (S:List UInt8):RR S (S,0) (S,(0,0)):=⟨rfl,Int.le_refl _,by show (0:Int)≤_;omega,rfl,fun _=>rfl⟩
end Go.Proofs.YtggcagclpkhlhaaGreatDoor
end
noncomputable section
/- Numbers of 32 bits: what the operations come to. -/
namespace Go.Proofs.YtggcagclpkhlhaaGreatDoor
open Pal
theorem wrapu32 {n:Nat} (h:n<4294967296):IntKind.wrap .u32 (n:Int)=(n:Int):=by
 rw [IntKind.wrap_u32];omega
theorem bv32 (c:Nat):BitVec.ofInt 32 (c:Int)=BitVec.ofNat 32 c:=by simp
theorem ixor32 {a b:Nat} (ha:a<4294967296) (hb:b<4294967296):ixor .u32 (a:Int) (b:Int)=((a ^^^ b:Nat):Int):=by
 show IntKind.wrap .u32 (((BitVec.ofInt 32 (a:Int) ^^^ BitVec.ofInt 32 (b:Int)).toNat:Nat):Int)=_
 have e:(BitVec.ofInt 32 (a:Int) ^^^ BitVec.ofInt 32 (b:Int)).toNat=a ^^^ b:=by
  rw [bv32,bv32,BitVec.toNat_xor,BitVec.toNat_ofNat,BitVec.toNat_ofNat,Nat.mod_eq_of_lt (show a<2 ^ 32 by omega),Nat.mod_eq_of_lt (show b<2 ^ 32 by omega)]
 rw [e,wrapu32 (Crc.xor_lt ha hb)]
theorem iand_2 {a:Nat} (j:Nat) (hj:j≤8) (ha:a<4294967296):iand .u32 (a:Int) ((2 ^ j - 1:Nat):Int)=((a % 2 ^ j:Nat):Int):=by
 have hp:2 ^ j≤2 ^ 8:=Nat.pow_le_pow_right (by decide) hj
 have hp1:0<2 ^ j:=Nat.pow_pos (by decide)
 show IntKind.wrap .u32 (((BitVec.ofInt 32 (a:Int) &&& BitVec.ofInt 32 ((2 ^ j - 1:Nat):Int)).toNat:Nat):Int)=_
 have e:(BitVec.ofInt 32 (a:Int) &&& BitVec.ofInt 32 ((2 ^ j - 1:Nat):Int)).toNat=a % 2 ^ j:=by
  rw [bv32,bv32,BitVec.toNat_and,BitVec.toNat_ofNat,BitVec.toNat_ofNat,Nat.mod_eq_of_lt (show a<2 ^ 32 by omega),Nat.mod_eq_of_lt (show 2 ^ j - 1<2 ^ 32 by omega),Nat.and_two_pow_sub_one_eq_mod]
 have hm:=Nat.mod_lt a hp1
 rw [e,wrapu32 (by omega)]
theorem iand1 {a:Nat} (ha:a<4294967296):iand .u32 (a:Int) 1=((a % 2:Nat):Int):=iand_2 1 (by decide) ha
theorem iand15 {a:Nat} (ha:a<4294967296):iand .u32 (a:Int) 15=((a % 16:Nat):Int):=iand_2 4 (by decide) ha
theorem ishr1 (a:Nat):ishr .u32 (a:Int) 1=((a / 2:Nat):Int):=by
 show (a:Int).fdiv 2=_
 rw [Int.fdiv_eq_ediv_of_nonneg _ (by decide)];rfl
theorem ishr4 (a:Nat):ishr .u32 (a:Int) 4=((a / 16:Nat):Int):=by
 show (a:Int).fdiv 16=_
 rw [Int.fdiv_eq_ediv_of_nonneg _ (by decide)];rfl
theorem iquo2 {a:Nat} (ha:a<4294967296):iquo .u32 (a:Int) 2=((a / 2:Nat):Int):=by
 show IntKind.wrap .u32 ((a:Int).tdiv 2)=_
 have e:((a:Int)).tdiv 2=((a / 2:Nat):Int):=rfl
 rw [e,wrapu32 (by omega)]
theorem irem_2 (a:Nat):irem (a:Int) 2=((a % 2:Nat):Int):=rfl
theorem iwrapu {a:Nat} (ha:a<4294967296):iwrap .u32 (a:Int)=(a:Int):=wrapu32 ha
theorem ieq1 (a:Nat):ieq (a:Int) 1=decide (a=1):=by rw [ieq_dec];exact decide_eq_decide.2 ⟨fun h=>by omega,fun h=>by omega⟩
theorem step_eq (c:Nat):Crc.step c=if c % 2=1 then (c / 2) ^^^ 3988292384 else c / 2:=rfl
end Go.Proofs.YtggcagclpkhlhaaGreatDoor
end
noncomputable section
/- The sums: the program's and the document's are the plain one. -/
namespace Go.Proofs.YtggcagclpkhlhaaGreatDoor
open Pal
theorem byteAt_get {s:List UInt8} {i:Nat} (h:i<s.length):byteAt s (i:Int)=((s[i].toNat:Nat):Int):=by
 unfold byteAt
 rw [Int.toNat_natCast,List.getD_eq_getElem?_getD,List.getElem?_eq_getElem h];rfl
theorem tab_step (k n3 n7:Nat) (x2 x4:Int) (m0 m1:List Int) {c j:Nat} (hc:c<4294967296) (hj:j<4):z1Y.l7 k n3 (n7+1) x2 (c:Int) x4 (j:Int) m0 m1=z1Y.l7 k n3 n7 x2 ((Crc.step c:Nat):Int) x4 ((j+1:Nat):Int) m0 m1:=by
 have e4:iadd .i64 (j:Int) 1=((j+1:Nat):Int):=iadd_nat (by omega)
 rw [z1Y.l7_eq,show ilt (j:Int) 4=decide (j<4) from ilt_nn j 4,decide_eq_true hj,br_true,iand1 hc,ieq1,ishr1,e4,step_eq]
 have hx:ixor .u32 ((c / 2:Nat):Int) 3988292384=((c / 2 ^^^ 3988292384:Nat):Int):=ixor32 (b:=3988292384) (by omega) (by decide)
 rw [hx]
 by_cases h:c % 2=1
 ·rw [decide_eq_true h,br_true,if_pos h]
 ·rw [decide_eq_false h,br_false,if_neg h]
theorem tab_l3 (k:Nat) (hk:20<k) (m0:List Int):∀ (n i:Nat) (m1:List Int),i≤16→16<n+i→m1.length=16→(∀ j:Nat,j<i→m1[j]? = some ((Crc.step4 j:Nat):Int)) →
  ∃ T:List Int,z1Y.l3 k n (i:Int) m0 m1=some T∧T.length=16∧∀ j:Nat,j<16→T[j]? = some ((Crc.step4 j:Nat):Int)
 | 0,i,_,h,h',_,_=>by omega
 | n+1,i,m1,h,h',hl,hm=>by
  rw [z1Y.l3_eq,show ilt (i:Int) 16=decide (i<16) from ilt_nn i 16]
  by_cases hi:i<16
  ·obtain ⟨q,rfl⟩:∃ q,k=q+5:=⟨k - 5,by omega⟩
   have e4:iadd .i64 (i:Int) 1=((i+1:Nat):Int):=iadd_nat (by omega)
   have s1:Crc.step i<4294967296:=Crc.step_lt (by omega)
   have s2:=Crc.step_lt s1
   have s3:=Crc.step_lt s2
   rw [decide_eq_true hi,br_true,iwrapu (by omega)]
   have t0:=tab_step (q+5) n (q+4) (i:Int) (i:Int) m0 m1 (c:=i) (j:=0) (by omega) (by decide)
   have t1:=tab_step (q+5) n (q+3) (i:Int) (i:Int) m0 m1 (j:=1) s1 (by decide)
   have t2:=tab_step (q+5) n (q+2) (i:Int) (i:Int) m0 m1 (j:=2) s2 (by decide)
   have t3:=tab_step (q+5) n (q+1) (i:Int) (i:Int) m0 m1 (j:=3) s3 (by decide)
   rw [show ((0:Nat):Int)=0 from rfl] at t0
   rw [t0,t1,t2,t3,z1Y.l7_eq,show ilt ((3+1:Nat):Int) 4=false from rfl,br_false,inB_nat,decide_eq_true hi,br_true,natOf_nat,e4]
   refine tab_l3 (q+5) hk m0 n (i+1) _ (by omega) (by omega) (by simp [upd,hl]) (fun j hj=>?_)
   show (List.set m1 i _)[j]? = _
   by_cases e:j=i
   ·subst e
    rw [List.getElem?_set_self (by omega)];rfl
   ·rw [List.getElem?_set_ne (fun h=>e h.symm)]
    exact hm j (by omega)
  ·rw [decide_eq_false hi,br_false]
   exact ⟨m1,rfl,hl,fun j hj=>hm j (by omega)⟩
theorem table_is (k:Nat) (hk:20<k):∃ T:List Int,z1Y.f k=some T∧T.length=16∧∀ j:Nat,j<16→T[j]? = some ((Crc.step4 j:Nat):Int):=by
 rw [z1Y.f_eq]
 exact tab_l3 k hk (zarr 16 0) k 0 (zarr 16 0) (by omega) (by omega) (by simp [zarr]) (fun j hj=>by omega)
theorem more_l (k:Nat) (s:List UInt8) (hs:s.length<4000000) (T:List Int) (hT:T.length=16) (hTj:∀ j:Nat,j<16→T[j]? = some ((Crc.step4 j:Nat):Int)):∀ (n i c:Nat),i≤s.length→s.length<n+i→c<4294967296 →
  z2h.l4 k n s (c:Int) (ilen s) (i:Int) T=some (((Crc.crc c (s.drop i) ^^^ 4294967295:Nat)):Int)
 | 0,i,c,h,h',_=>by omega
 | n+1,i,c,h,h',hc=>by
  rw [z2h.l4_eq,ilt_nat,inL_nat]
  by_cases hi:i<s.length
  ·have e4:iadd .i64 (i:Int) 1=((i+1:Nat):Int):=iadd_nat (by omega)
   have hb:s[i].toNat<256:=Crc.ub _
   have hx:=Crc.xor_lt hc (show s[i].toNat<4294967296 by omega)
   have rdT:∀ j:Nat,j<16→rd (.int .u32) T j=((Crc.step4 j:Nat):Int):=fun j hj=>by
    have hj':j<T.length:=by omega
    rw [rd_at' (e:=.int .u32) hj']
    have:=hTj j hj
    rw [List.getElem?_eq_getElem hj'] at this
    injection this
   have nib:∀ x:Nat,x<4294967296→ixor .u32 (ishr .u32 (x:Int) 4) (rd (.int .u32) T (natOf (iand .u32 (x:Int) 15)))=((Crc.step4 x:Nat):Int):=fun x hx=>by
    have h16:x % 16<16:=by omega
    have h4:Crc.step4 (x % 16)<4294967296:=Crc.step4_lt (by omega)
    rw [iand15 hx,natOf_nat,rdT _ h16,ishr4,ixor32 (by omega) h4,← Crc.step4_is]
   have inb:∀ x:Nat,x<4294967296→inB (iand .u32 (x:Int) 15) 16=true:=fun x hx=>by
    rw [iand15 hx,inB_nat];exact decide_eq_true (by omega)
   have s4:=Crc.step4_lt hx
   rw [decide_eq_true hi,br_true,br_true,byteAt_get hi,iwrapu (by omega),ixor32 hc (show s[i].toNat<4294967296 by omega),inb _ hx,br_true,nib _ hx,inb _ s4,br_true,nib _ s4,e4]
   have ed:s.drop i=s[i]::s.drop (i+1):=List.drop_eq_getElem_cons hi
   rw [ed]
   exact more_l k s hs T hT hTj n (i+1) (Crc.byteStep c s[i].toNat) (by omega) (by omega) (Crc.byteStep_lt hc hb)
  ·have e0:s.drop i=[]:=List.drop_eq_nil_of_le (by omega)
   have hx:ixor .u32 4294967295 (c:Int)=((c ^^^ 4294967295:Nat):Int):=by
    rw [Nat.xor_comm];exact ixor32 (a:=4294967295) (by decide) hc
   rw [decide_eq_false hi,br_false,e0,hx];rfl
theorem sum_is (k:Nat) (s:List UInt8) (hs:s.length<k) (hk:20<k) (hk2:k<1000000):z2o.f k s=some ((Crc.sumN s:Nat):Int):=by
 obtain ⟨T,h1,h2,h3⟩:=table_is k hk
 have hx:ixor .u32 4294967295 0=((4294967295:Nat):Int):=by decide
 rw [z2o.f_eq,z2h.f_eq,h1,bnd_some,hx]
 have:=more_l k s (by omega) T h2 h3 k 0 4294967295 (by omega) (by omega) (by decide)
 rw [show ((0:Nat):Int)=0 from rfl,List.drop_zero] at this
 rw [this,bnd_some];rfl
theorem rstep (k n3 n7:Nat) (s:List UInt8) (x6:Int) {c j:Nat} (hc:c<4294967296) (hj:j<8):z1l.l7 k n3 (n7+1) s (c:Int) x6 (j:Int)=z1l.l7 k n3 n7 s ((Crc.step c:Nat):Int) x6 ((j+1:Nat):Int):=by
 have e4:iadd .i64 (j:Int) 1=((j+1:Nat):Int):=iadd_nat (by omega)
 rw [z1l.l7_eq,show ilt (j:Int) 8=decide (j<8) from ilt_nn j 8,decide_eq_true hj,br_true,irem_2,ieq1,iquo2 hc,e4,step_eq]
 have hx:ixor .u32 ((c / 2:Nat):Int) 3988292384=((c / 2 ^^^ 3988292384:Nat):Int):=ixor32 (b:=3988292384) (by omega) (by decide)
 rw [hx]
 by_cases h:c % 2=1
 ·rw [decide_eq_true h,br_true,if_pos h]
 ·rw [decide_eq_false h,br_false,if_neg h]
theorem rmore_l (k:Nat) (hk:20<k) (s:List UInt8) (hs:s.length<4000000):∀ (n i c:Nat),i≤s.length→s.length<n+i→c<4294967296 →
  z1l.l3 k n s (c:Int) (i:Int)=some (((Crc.crc c (s.drop i) ^^^ 4294967295:Nat)):Int)
 | 0,i,c,h,h',_=>by omega
 | n+1,i,c,h,h',hc=>by
  rw [z1l.l3_eq,ilt_nat,inL_nat]
  by_cases hi:i<s.length
  ·have e4:iadd .i64 (i:Int) 1=((i+1:Nat):Int):=iadd_nat (by omega)
   have hb:s[i].toNat<256:=Crc.ub _
   have hx:=Crc.xor_lt hc (show s[i].toNat<4294967296 by omega)
   obtain ⟨q,rfl⟩:∃ q,k=q+9:=⟨k - 9,by omega⟩
   have s1:=Crc.step_lt hx
   have s2:=Crc.step_lt s1
   have s3:=Crc.step_lt s2
   have s4:=Crc.step_lt s3
   have s5:=Crc.step_lt s4
   have s6:=Crc.step_lt s5
   have s7:=Crc.step_lt s6
   have t0:=rstep (q+9) n (q+8) s (i:Int) (j:=0) hx (by decide)
   rw [show ((0:Nat):Int)=0 from rfl] at t0
   rw [decide_eq_true hi,br_true,br_true,byteAt_get hi,iwrapu (by omega),ixor32 hc (show s[i].toNat<4294967296 by omega),t0,
    rstep (q+9) n (q+7) s (i:Int) (j:=1) s1 (by decide),rstep (q+9) n (q+6) s (i:Int) (j:=2) s2 (by decide),rstep (q+9) n (q+5) s (i:Int) (j:=3) s3 (by decide),
    rstep (q+9) n (q+4) s (i:Int) (j:=4) s4 (by decide),rstep (q+9) n (q+3) s (i:Int) (j:=5) s5 (by decide),rstep (q+9) n (q+2) s (i:Int) (j:=6) s6 (by decide),rstep (q+9) n (q+1) s (i:Int) (j:=7) s7 (by decide),
    z1l.l7_eq,show ilt ((7+1:Nat):Int) 8=false from rfl,br_false,e4]
   have ed:s.drop i=s[i]::s.drop (i+1):=List.drop_eq_getElem_cons hi
   rw [ed]
   exact rmore_l (q+9) hk s hs n (i+1) (Crc.byteStep c s[i].toNat) (by omega) (by omega) (Crc.byteStep_lt hc hb)
  ·have e0:s.drop i=[]:=List.drop_eq_nil_of_le (by omega)
   have hx:ixor .u32 (c:Int) 4294967295=((c ^^^ 4294967295:Nat):Int):=ixor32 (b:=4294967295) hc (by decide)
   rw [decide_eq_false hi,br_false,e0,hx];rfl
theorem rsum_is (k:Nat) (s:List UInt8) (hs:s.length<k) (hk:20<k) (hk2:k<1000000):z24.f k s=some ((Crc.sumN s:Nat):Int):=by
 have hx:ixor .u32 0 4294967295=((4294967295:Nat):Int):=by decide
 rw [z24.f_eq,z1l.f_eq,hx]
 have:=rmore_l k hk s (by omega) k 0 4294967295 (by omega) (by omega) (by decide)
 rw [show ((0:Nat):Int)=0 from rfl,List.drop_zero] at this
 rw [this,bnd_some];rfl
end Go.Proofs.YtggcagclpkhlhaaGreatDoor
end
noncomputable section
/- That runs answer; binary search. -/
namespace Go.Proofs.YtggcagclpkhlhaaGreatDoor.Pal
open Go
def Tot {α:Type} (x:Option α):Prop:=∃ r,x=some r
theorem some_tot {α:Type} (a:α):Tot (some a):=⟨a,rfl⟩
theorem br_tot {α:Type} {b:Bool} {x y:Option α} (h1:Tot x) (h2:Tot y):Tot (br b x y):=by cases b <;> assumption
theorem bnd_tot {α β:Type} {x:Option α} {f:α→Option β} (h1:Tot x) (h2:∀ r,x=some r→Tot (f r)):Tot (bnd x f):=by
 obtain ⟨r,rfl⟩:=h1
 exact h2 r rfl
theorem bnd_tot' {α β:Type} {x:Option α} {f:α→Option β} (h1:Tot x) (h2:∀ r,Tot (f r)):Tot (bnd x f):=bnd_tot h1 fun r _=>h2 r
theorem loop_tot {ρ:Type} (N:Nat) (L:Nat→Nat→Option ρ) (hs:∀ n i,i<N→Tot (L n (i+1))→Tot (L (n+1) i)) (he:∀ n,Tot (L (n+1) N)):∀ n i,i≤N→N<n+i→Tot (L n i)
 | 0,i,h,h'=>by omega
 | n+1,i,h,h'=>by
  by_cases hi:i<N
  ·exact hs n i hi (loop_tot N L hs he n (i+1) (by omega) (by omega))
  ·have:i=N:=by omega
   subst this;exact he n
end Go.Proofs.YtggcagclpkhlhaaGreatDoor.Pal
end
noncomputable section
/- The document's checks of names, paths, values, operations and transactions answer, of short ones. -/
namespace Go.Proofs.YtggcagclpkhlhaaGreatDoor
open Pal
abbrev Str:=List UInt8
abbrev Val:=Int × (Int × Str)
abbrev Op:=Int × (List Str × (Val × (Int × List (Dot × Int))))
abbrev Txn:=Dot × (Int × (Int × (Bool × List Op)))
noncomputable instance decOp:DecidableEq Op:=fun a b=>Classical.propDecidable (a=b)
noncomputable instance decTxn:DecidableEq Txn:=fun a b=>Classical.propDecidable (a=b)
theorem ilt_lenR {α:Type} (c:Nat) (xs:List α):ilt (c:Int) (ilen xs)=decide (c<xs.length):=by unfold ilt ilen;exact decide_eq_decide.2 ⟨fun h=>by omega,fun h=>by omega⟩
theorem ile_len {α:Type} (c:Nat) (xs:List α):ile (ilen xs) (c:Int)=decide (xs.length≤c):=by unfold ile ilen;exact decide_eq_decide.2 ⟨fun h=>by omega,fun h=>by omega⟩
theorem rchar_is (k:Nat) (s:Str) (hk:10<k) (hs:s.length<4000000):∃ (c n:Int),z1r.f k s=some (c,n)∧0≤n∧n≤(s.length:Int):=by
 rw [z1r.f_eq]
 have e0:ieq (ilen s) 0=decide (s.length=0):=ieq0 s
 rw [e0]
 by_cases h0:s.length=0
 ·rw [decide_eq_true h0];exact ⟨0,0,rfl,by decide,by omega⟩
 rw [decide_eq_false h0]
 have e1:inL 0 s=true:=by
  have:=inL_nat 0 s
  rw [show inL 0 s=decide (0<s.length) from this];exact decide_eq_true (by omega)
 have l2:∀ c:Nat,ilt (ilen s) (c:Int)=decide (s.length<c):=fun c=>by unfold ilt ilen;exact decide_eq_decide.2 ⟨fun h=>by omega,fun h=>by omega⟩
 have key:∀ (N:Nat) (m x:Int),1≤N→N≤s.length→N≤4→∃ (c n:Int),z1r.l17 k k s x (N:Int) m 1=some (c,n)∧0≤n∧n≤(s.length:Int):=by
  intro N m x hN1 hN hN4
  have:∀ n i (x:Int),1≤i→N<n+i→i≤N→∃ (c q:Int),z1r.l17 k n s x (N:Int) m (i:Int)=some (c,q)∧0≤q∧q≤(s.length:Int):=by
   intro n
   induction n with
   | zero =>
    intro i x h1 h2 h3
    omega
   | succ n ih =>
    intro i x h1 h2 h3
    rw [z1r.l17_eq,ilt_nn]
    by_cases hi:i<N
    ·have e2:inL (i:Int) s=true:=by rw [inL_nat];exact decide_eq_true (by omega)
     have e3:iadd .i64 (i:Int) 1=((i+1:Nat):Int):=iadd_nat (by omega)
     rw [decide_eq_true hi,e2,e3]
     simp only [br_true]
     have z:∃ (c q:Int),(some ((0:Int),(0:Int)))=some (c,q)∧0≤q∧q≤(s.length:Int):=⟨0,0,rfl,by decide,by omega⟩
     have y:=ih (i+1) (isub .i64 (iadd .i64 (imul .i64 64 x) (iwrap .i64 (byteAt s (i:Int)))) 128) (by omega) (by omega) (by omega)
     cases ilt (byteAt s (i:Int)) 128 with
     | true=>exact z
     | false =>
      cases ilt 191 (byteAt s (i:Int)) with
      | true=>exact z
      | false=>exact y
    ·rw [decide_eq_false hi]
     simp only [br_false]
     have z:∃ (c q:Int),(some ((0:Int),(0:Int)))=some (c,q)∧0≤q∧q≤(s.length:Int):=⟨0,0,rfl,by decide,by omega⟩
     have y:∃ (c q:Int),(some (x,(N:Int)))=some (c,q)∧0≤q∧q≤(s.length:Int):=⟨x,N,rfl,by omega,by omega⟩
     cases ilt x m with
     | true=>exact z
     | false =>
      cases ilt 1114111 x with
      | true=>exact z
      | false =>
       cases ile 55296 x with
       | false=>exact y
       | true=>cases ile x 57343 with
        | true=>exact z
        | false=>exact y
  exact this k 1 x (by omega) (by omega) (by omega)
 have z:∃ (c q:Int),(some ((0:Int),(0:Int)))=some (c,q)∧0≤q∧q≤(s.length:Int):=⟨0,0,rfl,by decide,by omega⟩
 have kk:∀ (N:Nat) (m x:Int),1≤N→N≤4→∃ (c n:Int),br (ilt (ilen s) (N:Int)) (some ((0:Int),(0:Int))) (z1r.l17 k k s x (N:Int) m 1)=some (c,n)∧0≤n∧n≤(s.length:Int):=by
  intro N m x hN1 hN
  rw [l2]
  by_cases h:s.length<N
  ·rw [decide_eq_true h];exact z
  ·rw [decide_eq_false h];exact key N m x hN1 (by omega) hN
 have k2:=fun m x=>kk 2 m x (by decide) (by decide)
 have k3:=fun m x=>kk 3 m x (by decide) (by decide)
 have k4:=fun m x=>kk 4 m x (by decide) (by decide)
 rw [e1]
 simp only [br_true,br_false]
 generalize iwrap .i64 (byteAt s 0)=b
 cases ilt b 128 with
 | true=>exact ⟨b,1,rfl,by decide,by omega⟩
 | false =>
  cases ile 194 b <;> cases ilt b 224 <;> cases ile 224 b <;> cases ilt b 240 <;> cases ile 240 b <;> cases ilt b 245 <;> simp only [br_true,br_false] <;> first | exact z | exact k2 _ _ | exact k3 _ _ | exact k4 _ _
theorem rrunes_is (k:Nat) (s:Str) (hk:10<k) (hs:s.length<k) (hk2:k<1000000):∃ (l:List Int) (b:Bool),z0T.f k s=some (l,b)∧l.length≤s.length:=by
 rw [z0T.f_eq]
 have:∀ n i (l:List Int),i≤s.length→s.length<n+i→l.length≤i→∃ (l':List Int) (b:Bool),z0T.l3 k n s l (i:Int)=some (l',b)∧l'.length≤s.length:=by
  intro n
  induction n with
  | zero=>intro i l h1 h2;omega
  | succ n ih =>
   intro i l h1 h2 hl
   rw [z0T.l3_eq,ilt_nat]
   by_cases hi:i<s.length
   ·have hin:inS (i:Int) (ilen s) (ilen s)=true:=by
     have h1:(i:Int)≤(s.length:Int):=by omega
     show (decide ((0:Int)≤(i:Int)) && decide ((i:Int)≤(s.length:Int)) && decide ((s.length:Int)≤(s.length:Int)))=true
     rw [decide_eq_true h1,decide_eq_true (show (0:Int)≤(i:Int) by omega),decide_eq_true (Int.le_refl _)];rfl
    have hp:(piece s (i:Int) (ilen s)).length=s.length - i:=by
     unfold piece ilen
     rw [Int.toNat_natCast,Int.toNat_natCast,List.take_length,List.length_drop]
    obtain ⟨c,q,hc,q0,q1⟩:=rchar_is k (piece s (i:Int) (ilen s)) hk (by omega)
    rw [decide_eq_true hi,hin,hc]
    simp only [br_true,bnd_some,ieq_dec]
    rw [hp] at q1
    by_cases hq:q=0
    ·rw [decide_eq_true hq];exact ⟨[],false,rfl,by simp⟩
    ·rw [decide_eq_false hq]
     simp only [br_false]
     have hr:room l (c::[])=true:=room_le (by simp only [List.length_cons,List.length_nil];omega)
     obtain ⟨Q,rfl⟩:∃ Q:Nat,q=(Q:Int):=⟨q.toNat,by omega⟩
     have e3:iadd .i64 (i:Int) (Q:Int)=((i+Q:Nat):Int):=by rw [iadd_s (by omega) (by omega) (by omega) (by omega)];omega
     rw [hr,e3]
     simp only [br_true]
     exact ih (i+Q) _ (by omega) (by omega) (by simp only [app,List.length_append,List.length_cons,List.length_nil];omega)
   ·rw [decide_eq_false hi]
    exact ⟨l,true,rfl,by omega⟩
 exact this k 0 [] (by omega) (by omega) (by simp)
theorem rmay_tot (k:Nat) (c:Int):Tot (z1N.f k c):=by
 rw [z1N.f_eq]
 repeat' first | exact some_tot _ | apply br_tot
theorem rname_tot (k:Nat) (s:Str) (hk:10<k) (hs:s.length<k) (hk2:k<1000000):Tot (z0O.f k s):=by
 obtain ⟨l,b,h,hl⟩:=rrunes_is k s hk hs hk2
 rw [z0O.f_eq,h]
 simp only [bnd_some]
 refine loop_tot l.length (fun n i=>z0O.l3 k n l b (i:Int)) (fun n i hi ih=>?_) (fun n=>?_) k 0 (by omega) (by omega)
 ·have e3:iadd .i64 (i:Int) 1=((i+1:Nat):Int):=iadd_nat (by omega)
  simp only [z0O.l3_eq,ilt_nat,inL_nat,hi,decide_true,br_true,e3]
  exact bnd_tot' (rmay_tot k _) fun r=>br_tot (some_tot _) ih
 ·simp only [z0O.l3_eq,ilt_nat,Nat.lt_irrefl,decide_false,br_false]
  repeat' first | exact some_tot _ | apply br_tot
def ShortP (p:List Str):Prop:=p.length≤12∧∀ s ∈ p,List.length s≤120
theorem rpath_tot (k:Nat) (p:List Str) (hp:ShortP p) (hk:1000<k) (hk2:k<1000000):Tot (z12.f k p):=by
 rw [z12.f_eq]
 refine br_tot (some_tot _) (br_tot (some_tot _) ?_)
 have:=hp.1
 refine loop_tot p.length (fun n i=>z12.l6 k n p (i:Int)) (fun n i hi ih=>?_) (fun n=>?_) k 0 (by omega) (by omega)
 ·have e3:iadd .i64 (i:Int) 1=((i+1:Nat):Int):=iadd_nat (by omega)
  simp only [z12.l6_eq,ilt_nat,inL_nat,natOf_nat,hi,decide_true,br_true,e3,rd_at' (e:=.str) hi]
  have:=hp.2 p[i] (List.getElem_mem hi)
  exact bnd_tot' (rname_tot k _ (by omega) (by omega) hk2) fun r=>br_tot (some_tot _) ih
 ·simp only [z12.l6_eq,ilt_nat,Nat.lt_irrefl,decide_false,br_false]
  exact some_tot _
theorem rval_tot (k:Nat) (v:Val) (hv:v.2.2.length≤200) (hk:1000<k) (hk2:k<1000000):Tot (z15.f k v):=by
 rw [z15.f_eq]
 obtain ⟨l,b,h,hl⟩:=rrunes_is k v.2.2 (by omega) (by omega) hk2
 rw [h]
 simp only [bnd_some]
 repeat' first | exact some_tot _ | apply br_tot
theorem rrefs_tot (k:Nat) (l:List (Dot × Int)) (hl:l.length≤300) (hk:1000<k) (hk2:k<1000000):Tot (z1o.f k l):=by
 rw [z1o.f_eq]
 refine loop_tot l.length (fun n i=>z1o.l2 k n l (i:Int)) (fun n i hi ih=>?_) (fun n=>?_) k 0 (by omega) (by omega)
 ·have e3:iadd .i64 (i:Int) 1=((i+1:Nat):Int):=iadd_nat (by omega)
  have e4:ilt 0 (i:Int)=decide (0<i):=ilt_nn 0 i
  simp only [z1o.l2_eq,ilt_nat,inL_nat,hi,decide_true,br_true,e3,rright_is,bnd_some,e4]
  refine br_tot (some_tot _) (br_tot (some_tot _) (br_tot (some_tot _) ?_))
  by_cases h0:0<i
  ·have hi1:i - 1<l.length:=by omega
   have e5:isub .i64 (i:Int) 1=((i - 1:Nat):Int):=by rw [isub_s (by omega) (by omega) (by omega) (by omega)];omega
   simp only [h0,decide_true,br_true,e5,inL_nat,hi1,z1B.f_eq,rcmp_is,bnd_some]
   refine bnd_tot' (br_tot (some_tot _) (bnd_tot' ?_ fun r=>some_tot _)) fun r=>br_tot (some_tot _) ih
   rw [z1n.f_eq]
   repeat' first | exact some_tot _ | apply br_tot
  ·simp only [h0,decide_false,br_false];exact ih
 ·simp only [z1o.l2_eq,ilt_nat,Nat.lt_irrefl,decide_false,br_false]
  exact some_tot _
structure ShortO (o:Op):Prop where
 path:ShortP o.2.1
 val:o.2.2.1.2.2.length≤200
 seen:o.2.2.2.2.length≤300
theorem rgone_tot (k:Nat) (o:Op):Tot (z1A.f k o):=by
 rw [z1A.f_eq]
 repeat' first | exact some_tot _ | apply br_tot
theorem rop_tot (k:Nat) (o:Op) (ho:ShortO o) (hk:1000<k) (hk2:k<1000000):Tot (z16.f k o):=by
 rw [z16.f_eq]
 obtain ⟨r1,h1⟩:=rpath_tot k _ ho.path hk hk2
 obtain ⟨r2,h2⟩:=rval_tot k _ ho.val hk hk2
 obtain ⟨r3,h3⟩:=rrefs_tot k _ ho.seen hk hk2
 rw [h1,h2,h3]
 simp only [bnd_some]
 repeat' first | exact some_tot _ | apply br_tot
structure ShortT (t:Txn):Prop where
 len:t.2.2.2.2.length≤20
 ops:∀ o ∈ t.2.2.2.2,ShortO o
theorem rpathshort_is (k:Nat) (p:List Str) (hk:1000<k) (hk2:k<1000000):∃ b,z0N.f k p=some b∧(b=true→ShortP p):=by
 rw [z0N.f_eq,show ilt 12 (ilen p)=decide (12<p.length) from ilt_lenR 12 p]
 by_cases h:12<p.length
 ·rw [decide_eq_true h];exact ⟨false,rfl,fun h=>by cases h⟩
 ·rw [decide_eq_false h]
  simp only [br_false]
  obtain ⟨b,hb,hbi⟩:=loop_all' p.length (fun n i=>z0N.l4 k n p (i:Int)) (fun j=>∀ s,p[j]? = some s→List.length s≤120) (fun n i hi=>by
   have e3:iadd .i64 (i:Int) 1=((i+1:Nat):Int):=iadd_nat (by omega)
   have e4:ilt 120 (ilen p[i])=decide (120<List.length p[i]):=ilt_lenR 120 p[i]
   simp only [z0N.l4_eq,ilt_nat,inL_nat,natOf_nat,hi,decide_true,br_true,e3,rd_at' (e:=.str) hi,e4,br_dec,List.getElem?_eq_getElem hi]
   by_cases hl:120<List.length p[i]
   ·exact .inr ⟨fun hh=>by have:=hh _ rfl;omega,if_pos hl⟩
   ·exact .inl ⟨fun s hs=>by injection hs with hs;subst hs;omega,if_neg hl⟩) (fun n=>by simp only [z0N.l4_eq,ilt_nat,Nat.lt_irrefl,decide_false,br_false]) k 0 (by omega) (by omega)
  refine ⟨b,hb,fun hh=>⟨by omega,fun s hs=>?_⟩⟩
  obtain ⟨j,hj,rfl⟩:=List.mem_iff_getElem.1 hs
  exact hbi.1 hh j (by omega) hj _ (List.getElem?_eq_getElem hj)
theorem ropshort_is (k:Nat) (o:Op) (hk:1000<k) (hk2:k<1000000):∃ b,z0Q.f k o=some b∧(b=true→ShortO o):=by
 obtain ⟨b,hb,hbi⟩:=rpathshort_is k o.2.1 hk hk2
 rw [z0Q.f_eq,hb]
 simp only [bnd_some]
 rw [show ile (ilen o.2.2.1.2.2) 200=decide (o.2.2.1.2.2.length≤200) from ile_len 200 _,show ile (ilen o.2.2.2.2) 300=decide (o.2.2.2.2.length≤300) from ile_len 300 _]
 cases b with
 | false=>exact ⟨false,rfl,fun h=>by cases h⟩
 | true =>
  simp only [br_true,br_dec]
  by_cases h:o.2.2.1.2.2.length≤200
  ·rw [if_pos h];exact ⟨_,rfl,fun hh=>⟨hbi rfl,h,of_decide_eq_true hh⟩⟩
  ·rw [if_neg h];exact ⟨false,rfl,fun h=>by cases h⟩
def shortAt (k:Nat) (t:Txn) (j:Nat):Prop:=∀ o,t.2.2.2.2[j]? = some o→∃ b,z0Q.f k o=some b∧b=true
theorem rtxnshort_is (k:Nat) (t:Txn) (hk:1000<k) (hk2:k<1000000):∃ b,z0V.f k t=some b∧(b=true→ShortT t):=by
 rw [z0V.f_eq,show ilt 20 (ilen t.2.2.2.2)=decide (20<t.2.2.2.2.length) from ilt_lenR 20 _]
 by_cases h:20<t.2.2.2.2.length
 ·rw [decide_eq_true h];exact ⟨false,rfl,fun h=>by cases h⟩
 ·rw [decide_eq_false h]
  simp only [br_false]
  obtain ⟨b,hb,hbi⟩:=loop_all' t.2.2.2.2.length (fun n i=>br (decide True) (z0V.l4 k n (i:Int) t) none) (shortAt k t) (fun n i hi=>by
   have e3:iadd .i64 (i:Int) 1=((i+1:Nat):Int):=iadd_nat (by omega)
   obtain ⟨b,hb,_⟩:=ropshort_is k t.2.2.2.2[i] hk hk2
   simp only [decide_true,br_true,z0V.l4_eq,ilt_nat,inL_nat,natOf_nat,hi,e3,rd_at' (e:=tOp) hi,hb,bnd_some]
   cases b with
   | false=>exact .inr ⟨fun hh=>(by obtain ⟨c,h1,h2⟩:=hh _ (List.getElem?_eq_getElem hi);rw [hb] at h1;injection h1 with h1;subst h1;cases h2),rfl⟩
   | true=>exact .inl ⟨fun s hs=>(by rw [List.getElem?_eq_getElem hi] at hs;injection hs with hs;subst hs;exact ⟨true,hb,rfl⟩),rfl⟩) (fun n=>by simp only [decide_true,br_true,z0V.l4_eq,ilt_nat,Nat.lt_irrefl,decide_false,br_false]) k 0 (by omega) (by omega)
  refine ⟨b,hb,fun hh=>⟨by omega,fun o ho=>?_⟩⟩
  obtain ⟨j,hj,rfl⟩:=List.mem_iff_getElem.1 ho
  obtain ⟨c,h1,h2⟩:=hbi.1 hh j (by omega) hj _ (List.getElem?_eq_getElem hj)
  obtain ⟨d,h3,h4⟩:=ropshort_is k _ hk hk2
  rw [h3] at h1;injection h1 with h1;subst h1
  exact h4 h2
theorem rtxn_is (k:Nat) (t:Txn) (ht:ShortT t) (hk:1000<k) (hk2:k<1000000):∃ e:Int,z0U.f k t=some e∧(e=0→rightD t.1=true):=by
 rw [z0U.f_eq,rright_is]
 simp only [bnd_some]
 cases hd:rightD t.1 with
 | false=>exact ⟨2,rfl,fun h=>by cases h⟩
 | true =>
  have:Tot (z0U.l8 k k 0 t):=by
   have:=ht.len
   refine loop_tot t.2.2.2.2.length (fun n i=>z0U.l8 k n (i:Int) t) (fun n i hi ih=>?_) (fun n=>?_) k 0 (by omega) (by omega)
   ·have e3:iadd .i64 (i:Int) 1=((i+1:Nat):Int):=iadd_nat (by omega)
    obtain ⟨e,he⟩:=rop_tot k t.2.2.2.2[i] (ht.ops _ (List.getElem_mem hi)) hk hk2
    obtain ⟨g,hg⟩:=rgone_tot k t.2.2.2.2[i]
    simp only [z0U.l8_eq,ilt_nat,inL_nat,natOf_nat,hi,decide_true,br_true,e3,rd_at' (e:=tOp) hi,he,hg,bnd_some]
    exact br_tot (br_tot (br_tot (some_tot _) ih) (br_tot (some_tot _) ih)) ih
   ·simp only [z0U.l8_eq,ilt_nat,Nat.lt_irrefl,decide_false,br_false]
    exact some_tot _
  have bt:bnot true=false:=rfl
  rw [bt]
  simp only [br_false]
  have all:Tot (br (ilt t.2.1 0) (some (2:Int)) (br (ilt 7 t.2.1) (some 2) (br (ilt t.2.2.1 1) (some 2) (br (ilt 1099511627776 t.2.2.1) (some 2) (br (ieq (ilen t.2.2.2.2) 0) (some 11) (br (ilt 16 (ilen t.2.2.2.2)) (some 7) (z0U.l8 k k 0 t))))))):=by
   repeat' first | exact some_tot _ | exact this | apply br_tot
  obtain ⟨e,he⟩:=all
  exact ⟨e,he,fun _=>trivial⟩
end Go.Proofs.YtggcagclpkhlhaaGreatDoor
end
noncomputable section
/- The document's characters are the machine's. -/
namespace Go.Proofs.YtggcagclpkhlhaaGreatDoor
open Pal
def finN (x m w:Nat):Nat × Nat:=if x<m∨1114111<x∨(55296≤x∧x≤57343) then (0,0) else (x,w)
def refN (n b0 b1 b2 b3:Nat):Nat × Nat :=
 if b0<128 then (b0,1)
 else if 194≤b0∧b0<224 then (if n<2 then (0,0) else if b1<128∨191<b1 then (0,0) else finN (64 * (b0 - 192)+b1 - 128) 128 2)
 else if 224≤b0∧b0<240 then (if n<3 then (0,0) else if b1<128∨191<b1 then (0,0) else if b2<128∨191<b2 then (0,0) else finN (64 * (64 * (b0 - 224)+b1 - 128)+b2 - 128) 2048 3)
 else if 240≤b0∧b0<245 then (if n<4 then (0,0) else if b1<128∨191<b1 then (0,0) else if b2<128∨191<b2 then (0,0) else if b3<128∨191<b3 then (0,0) else finN (64 * (64 * (64 * (b0 - 240)+b1 - 128)+b2 - 128)+b3 - 128) 65536 4)
 else (0,0)
def charN (n b0 b1 b2 b3:Nat):Nat × Nat:=if (Go.Lib.decodeN n b0 b1 b2 b3).1=65533∧(Go.Lib.decodeN n b0 b1 b2 b3).2≤1 then (0,0) else Go.Lib.decodeN n b0 b1 b2 b3
theorem charN_bad {n b0 b1 b2 b3:Nat} (e:Go.Lib.decodeN n b0 b1 b2 b3=(65533,1)):charN n b0 b1 b2 b3=(0,0):=by
 unfold charN;rw [e];exact if_pos ⟨rfl,Nat.le_refl _⟩
theorem charN_ok {n b0 b1 b2 b3 c w:Nat} (e:Go.Lib.decodeN n b0 b1 b2 b3=(c,w)) (h:¬ (c=65533∧w≤1)):charN n b0 b1 b2 b3=(c,w):=by
 unfold charN;rw [e];exact if_neg h
theorem decN2 {n b0 b1 b2 b3:Nat} (h:194≤b0∧b0<224):Go.Lib.decodeN n b0 b1 b2 b3=if 1<n∧b1 / 64=2 then (b0 % 32 * 64+b1 % 64,2) else (65533,1):=by
 unfold Go.Lib.decodeN
 rw [if_neg (show ¬ b0<128 by omega)]
 by_cases g:1<n∧b1 / 64=2
 ·rw [if_pos (show b0 / 32=6∧(1<n∧b1 / 64=2) from ⟨by omega,g⟩),if_pos g,if_pos (show b0 % 32 * 64+b1 % 64≥128 by omega)]
 ·rw [if_neg (show ¬ (b0 / 32=6∧(1<n∧b1 / 64=2)) from fun h=>g h.2),if_neg g,if_neg (fun hh=>by omega),if_neg (fun hh=>by omega)]
def val3 (b0 b1 b2:Nat):Nat:=b0 % 16 * 4096+b1 % 64 * 64+b2 % 64
def val4 (b0 b1 b2 b3:Nat):Nat:=b0 % 8 * 262144+b1 % 64 * 4096+b2 % 64 * 64+b3 % 64
theorem decN3 {n b0 b1 b2 b3:Nat} (h:224≤b0∧b0<240):Go.Lib.decodeN n b0 b1 b2 b3=if (1<n∧b1 / 64=2)∧(2<n∧b2 / 64=2) then (if val3 b0 b1 b2≥2048∧(val3 b0 b1 b2<55296∨(57344≤val3 b0 b1 b2∧val3 b0 b1 b2≤1114111)) then (val3 b0 b1 b2,3) else (65533,1)) else (65533,1):=by
 unfold Go.Lib.decodeN
 rw [if_neg (show ¬ b0<128 by omega),if_neg (show ¬ (b0 / 32=6∧(1<n∧b1 / 64=2)) from fun hh=>by omega)]
 by_cases g:(1<n∧b1 / 64=2)∧(2<n∧b2 / 64=2)
 ·rw [if_pos (show b0 / 16=14∧(1<n∧b1 / 64=2)∧(2<n∧b2 / 64=2) from ⟨by omega,g⟩),if_pos g];rfl
 ·rw [if_neg (show ¬ (b0 / 16=14∧(1<n∧b1 / 64=2)∧(2<n∧b2 / 64=2)) from fun h=>g h.2),if_neg g,if_neg (fun hh=>by omega)]
theorem decN4 {n b0 b1 b2 b3:Nat} (h:240≤b0∧b0<248):Go.Lib.decodeN n b0 b1 b2 b3=if (1<n∧b1 / 64=2)∧(2<n∧b2 / 64=2)∧(3<n∧b3 / 64=2) then (if val4 b0 b1 b2 b3≥65536∧(val4 b0 b1 b2 b3<55296∨(57344≤val4 b0 b1 b2 b3∧val4 b0 b1 b2 b3≤1114111)) then (val4 b0 b1 b2 b3,4) else (65533,1)) else (65533,1):=by
 unfold Go.Lib.decodeN
 rw [if_neg (show ¬ b0<128 by omega),if_neg (show ¬ (b0 / 32=6∧(1<n∧b1 / 64=2)) from fun hh=>by omega),if_neg (show ¬ (b0 / 16=14∧(1<n∧b1 / 64=2)∧(2<n∧b2 / 64=2)) from fun hh=>by omega)]
 by_cases g:(1<n∧b1 / 64=2)∧(2<n∧b2 / 64=2)∧(3<n∧b3 / 64=2)
 ·rw [if_pos (show b0 / 8=30∧(1<n∧b1 / 64=2)∧(2<n∧b2 / 64=2)∧(3<n∧b3 / 64=2) from ⟨by omega,g⟩),if_pos g];rfl
 ·rw [if_neg (show ¬ (b0 / 8=30∧(1<n∧b1 / 64=2)∧(2<n∧b2 / 64=2)∧(3<n∧b3 / 64=2)) from fun h=>g h.2),if_neg g]
theorem decN0 {n b0 b1 b2 b3:Nat} (h:(128≤b0∧b0<194)∨248≤b0) (hb:b0<256):Go.Lib.decodeN n b0 b1 b2 b3=(65533,1):=by
 unfold Go.Lib.decodeN
 rw [if_neg (show ¬ b0<128 by omega)]
 by_cases g:b0 / 32=6∧(1<n∧b1 / 64=2)
 ·rw [if_pos g,if_neg (show ¬ b0 % 32 * 64+b1 % 64≥128 by omega)]
 ·rw [if_neg g,if_neg (show ¬ (b0 / 16=14∧(1<n∧b1 / 64=2)∧(2<n∧b2 / 64=2)) from fun hh=>by omega),if_neg (show ¬ (b0 / 8=30∧(1<n∧b1 / 64=2)∧(2<n∧b2 / 64=2)∧(3<n∧b3 / 64=2)) from fun hh=>by omega)]
theorem finN_no {x m w:Nat} (h:¬ (x≥m∧(x<55296∨(57344≤x∧x≤1114111)))):finN x m w=(0,0):=if_pos (by omega)
theorem finN_ok {x m w:Nat} (h:x≥m∧(x<55296∨(57344≤x∧x≤1114111))):finN x m w=(x,w):=if_neg (by omega)
theorem refN_eq (n b0 b1 b2 b3:Nat) (hn:1≤n) (h0:b0<256) (h1:b1<256) (h2:b2<256) (h3:b3<256):refN n b0 b1 b2 b3=charN n b0 b1 b2 b3:=by
 unfold refN
 by_cases c0:b0<128
 ·have e:Go.Lib.decodeN n b0 b1 b2 b3=(b0,1):=by unfold Go.Lib.decodeN;rw [if_pos c0]
  rw [if_pos c0,charN_ok e (fun h=>by omega)]
 rw [if_neg c0]
 by_cases c1:194≤b0∧b0<224
 ·rw [if_pos c1]
  have e:=decN2 (n:=n) (b1:=b1) (b2:=b2) (b3:=b3) c1
  by_cases g:1<n∧b1 / 64=2
  ·rw [if_pos g] at e
   rw [charN_ok e (fun h=>by omega),if_neg (show ¬ n<2 by omega),if_neg (show ¬ (b1<128∨191<b1) by omega),show 64 * (b0 - 192)+b1 - 128=b0 % 32 * 64+b1 % 64 by omega]
   exact finN_ok (by omega)
  ·rw [if_neg g] at e
   rw [charN_bad e]
   by_cases g1:n<2
   ·rw [if_pos g1]
   ·rw [if_neg g1,if_pos (show b1<128∨191<b1 by omega)]
 rw [if_neg c1]
 by_cases c2:224≤b0∧b0<240
 ·rw [if_pos c2]
  have e:=decN3 (n:=n) (b1:=b1) (b2:=b2) (b3:=b3) c2
  by_cases g:(1<n∧b1 / 64=2)∧(2<n∧b2 / 64=2)
  ·rw [if_pos g] at e
   rw [if_neg (show ¬ n<3 by omega),if_neg (show ¬ (b1<128∨191<b1) by omega),if_neg (show ¬ (b2<128∨191<b2) by omega),show 64 * (64 * (b0 - 224)+b1 - 128)+b2 - 128=val3 b0 b1 b2 by unfold val3;omega]
   by_cases q:val3 b0 b1 b2≥2048∧(val3 b0 b1 b2<55296∨(57344≤val3 b0 b1 b2∧val3 b0 b1 b2≤1114111))
   ·rw [if_pos q] at e
    rw [charN_ok e (fun h=>by omega),finN_ok q]
   ·rw [if_neg q] at e
    rw [charN_bad e,finN_no q]
  ·rw [if_neg g] at e
   rw [charN_bad e]
   by_cases g1:n<3
   ·rw [if_pos g1]
   ·rw [if_neg g1]
    by_cases g2:b1<128∨191<b1
    ·rw [if_pos g2]
    ·rw [if_neg g2,if_pos (show b2<128∨191<b2 by omega)]
 rw [if_neg c2]
 by_cases c3:240≤b0∧b0<245
 ·rw [if_pos c3]
  have e:=decN4 (n:=n) (b1:=b1) (b2:=b2) (b3:=b3) (show 240≤b0∧b0<248 by omega)
  by_cases g:(1<n∧b1 / 64=2)∧(2<n∧b2 / 64=2)∧(3<n∧b3 / 64=2)
  ·rw [if_pos g] at e
   rw [if_neg (show ¬ n<4 by omega),if_neg (show ¬ (b1<128∨191<b1) by omega),if_neg (show ¬ (b2<128∨191<b2) by omega),if_neg (show ¬ (b3<128∨191<b3) by omega),show 64 * (64 * (64 * (b0 - 240)+b1 - 128)+b2 - 128)+b3 - 128=val4 b0 b1 b2 b3 by unfold val4;omega]
   by_cases q:val4 b0 b1 b2 b3≥65536∧(val4 b0 b1 b2 b3<55296∨(57344≤val4 b0 b1 b2 b3∧val4 b0 b1 b2 b3≤1114111))
   ·rw [if_pos q] at e
    rw [charN_ok e (fun h=>by omega),finN_ok q]
   ·rw [if_neg q] at e
    rw [charN_bad e,finN_no q]
  ·rw [if_neg g] at e
   rw [charN_bad e]
   by_cases g1:n<4
   ·rw [if_pos g1]
   ·rw [if_neg g1]
    by_cases g2:b1<128∨191<b1
    ·rw [if_pos g2]
    ·rw [if_neg g2]
     by_cases g3:b2<128∨191<b2
     ·rw [if_pos g3]
     ·rw [if_neg g3,if_pos (show b3<128∨191<b3 by omega)]
 ·rw [if_neg c3]
  by_cases c4:245≤b0∧b0<248
  ·have e:=decN4 (n:=n) (b1:=b1) (b2:=b2) (b3:=b3) (show 240≤b0∧b0<248 by omega)
   have hv:¬ (val4 b0 b1 b2 b3≥65536∧(val4 b0 b1 b2 b3<55296∨(57344≤val4 b0 b1 b2 b3∧val4 b0 b1 b2 b3≤1114111))):=by unfold val4;omega
   rw [if_neg hv,ite_self] at e
   rw [charN_bad e]
  ·rw [charN_bad (decN0 (by omega) h0)]
def byt (t:Str) (i:Nat):Nat:=(List.getD t i 0).toNat
theorem byt_lt (t:Str) (i:Nat):byt t i<256:=UInt8.toNat_lt _
theorem byt_at (t:Str) (i:Nat):byteAt t (i:Int)=(byt t i:Int):=rfl
theorem l17_end (k n N x m:Nat) (t:Str):z1r.l17 k (n+1) t (x:Int) (N:Int) (m:Int) (N:Int)=some (((finN x m N).1:Int),((finN x m N).2:Int)):=by
 rw [z1r.l17_eq,ilt_nn,decide_eq_false (Nat.lt_irrefl _),br_false,ilt_nn]
 unfold finN
 by_cases h1:x<m
 ·rw [decide_eq_true h1,br_true,if_pos (.inl h1)];rfl
 ·rw [decide_eq_false h1,br_false,show ilt (1114111:Int) (x:Int)=decide (1114111<x) from ilt_nn 1114111 x]
  by_cases h2:1114111<x
  ·rw [decide_eq_true h2,br_true,if_pos (.inr (.inl h2))];rfl
  ·rw [decide_eq_false h2,br_false,show ile (55296:Int) (x:Int)=decide (55296≤x) from decide_eq_decide.2 ⟨fun h=>by omega,fun h=>by omega⟩]
   by_cases h3:55296≤x
   ·rw [decide_eq_true h3,br_true,show ile (x:Int) (57343:Int)=decide (x≤57343) from decide_eq_decide.2 ⟨fun h=>by omega,fun h=>by omega⟩]
    by_cases h4:x≤57343
    ·rw [decide_eq_true h4,br_true,if_pos (.inr (.inr ⟨h3,h4⟩))];rfl
    ·rw [decide_eq_false h4,br_false,if_neg (by omega)]
   ·rw [decide_eq_false h3,br_false,if_neg (by omega)]
theorem l17_step (k n N x m i:Nat) (t:Str) (hi:i<N) (hN:N≤t.length) (hx:x<1000000) (hi4:i<100) :
  z1r.l17 k (n+1) t (x:Int) (N:Int) (m:Int) (i:Int)=if byt t i<128∨191<byt t i then some (0,0) else z1r.l17 k n t ((64 * x+byt t i - 128:Nat):Int) (N:Int) (m:Int) ((i+1:Nat):Int):=by
 have hb:=byt_lt t i
 rw [z1r.l17_eq,ilt_nn,decide_eq_true hi,br_true,inL_nat,decide_eq_true (show i<t.length by omega),br_true,byt_at,show ilt ((byt t i:Nat):Int) 128=decide (byt t i<128) from ilt_nn _ 128,
  show ilt (191:Int) ((byt t i:Nat):Int)=decide (191<byt t i) from ilt_nn 191 _]
 by_cases h1:byt t i<128
 ·rw [decide_eq_true h1,br_true,if_pos (.inl h1)]
 ·rw [decide_eq_false h1,br_false,br_true]
  by_cases h2:191<byt t i
  ·rw [decide_eq_true h2,br_true,if_pos (.inr h2)]
  ·have e1:iwrap .i64 ((byt t i:Nat):Int)=((byt t i:Nat):Int):=by
    show IntKind.wrap .i64 _=_
    rw [IntKind.wrap_i64];omega
   have e2:imul .i64 64 (x:Int)=((64 * x:Nat):Int):=by
    show IntKind.wrap .i64 (64 * (x:Int))=_
    rw [IntKind.wrap_i64];omega
   have e3:iadd .i64 ((64 * x:Nat):Int) ((byt t i:Nat):Int)=((64 * x+byt t i:Nat):Int):=by
    show IntKind.wrap .i64 (((64 * x:Nat):Int)+((byt t i:Nat):Int))=_
    rw [IntKind.wrap_i64];omega
   have e4:isub .i64 ((64 * x+byt t i:Nat):Int) 128=((64 * x+byt t i - 128:Nat):Int):=by
    show IntKind.wrap .i64 (((64 * x+byt t i:Nat):Int) - 128)=_
    rw [IntKind.wrap_i64];omega
   rw [decide_eq_false h2,br_false,br_true,e1,e2,e3,e4,iadd_nat (show i<4611686018427387904 by omega),if_neg (by omega)]
theorem rchar_eq (k:Nat) (t:Str) (hk:10<k) (h0:t ≠ []):z1r.f k t=some (((refN t.length (byt t 0) (byt t 1) (byt t 2) (byt t 3)).1:Int),((refN t.length (byt t 0) (byt t 1) (byt t 2) (byt t 3)).2:Int)):=by
 have hl:0<t.length:=List.length_pos_iff.2 h0
 obtain ⟨q,rfl⟩:∃ q,k=q+5:=⟨k - 5,by omega⟩
 have hb:=byt_lt t 0;have hb1:=byt_lt t 1;have hb2:=byt_lt t 2;have hb3:=byt_lt t 3
 have e0:ieq (ilen t) 0=decide (t.length=0):=ieq0 t
 have e1:inL 0 t=true:=by
  rw [show inL 0 t=decide (0<t.length) from inL_nat 0 t];exact decide_eq_true hl
 have l2:∀ c:Nat,ilt (ilen t) (c:Int)=decide (t.length<c):=fun c=>by unfold ilt ilen;exact decide_eq_decide.2 ⟨fun h=>by omega,fun h=>by omega⟩
 have eb:iwrap .i64 (byteAt t 0)=((byt t 0:Nat):Int):=by
  show IntKind.wrap .i64 ((byt t 0:Nat):Int)=_
  rw [IntKind.wrap_i64];omega
 have m2:∀ x:Nat,x<100→2≤t.length→z1r.l17 (q+5) (q+5) t (x:Int) 2 128 1=some (((if byt t 1<128∨191<byt t 1 then (0,0) else finN (64 * x+byt t 1 - 128) 128 2:Nat × Nat).1:Int),((if byt t 1<128∨191<byt t 1 then (0,0) else finN (64 * x+byt t 1 - 128) 128 2:Nat × Nat).2:Int)):=fun x hx h2=>by
  have s1:=l17_step (q+5) (q+4) 2 x 128 1 t (by omega) h2 (by omega) (by omega)
  have s2:=l17_end (q+5) (q+3) 2 (64 * x+byt t 1 - 128) 128 t
  refine s1.trans ?_
  by_cases h:byt t 1<128∨191<byt t 1
  ·rw [if_pos h,if_pos h];rfl
  ·rw [if_neg h,if_neg h];exact s2
 have m3:∀ x:Nat,x<100→3≤t.length→z1r.l17 (q+5) (q+5) t (x:Int) 3 2048 1=some (((if byt t 1<128∨191<byt t 1 then (0,0) else if byt t 2<128∨191<byt t 2 then (0,0) else finN (64 * (64 * x+byt t 1 - 128)+byt t 2 - 128) 2048 3:Nat × Nat).1:Int),((if byt t 1<128∨191<byt t 1 then (0,0) else if byt t 2<128∨191<byt t 2 then (0,0) else finN (64 * (64 * x+byt t 1 - 128)+byt t 2 - 128) 2048 3:Nat × Nat).2:Int)):=fun x hx h2=>by
  have s1:=l17_step (q+5) (q+4) 3 x 2048 1 t (by omega) h2 (by omega) (by omega)
  have s2:=l17_step (q+5) (q+3) 3 (64 * x+byt t 1 - 128) 2048 2 t (by omega) h2 (by omega) (by omega)
  have s3:=l17_end (q+5) (q+2) 3 (64 * (64 * x+byt t 1 - 128)+byt t 2 - 128) 2048 t
  refine s1.trans ?_
  by_cases h:byt t 1<128∨191<byt t 1
  ·rw [if_pos h,if_pos h];rfl
  ·rw [if_neg h,if_neg h]
   refine s2.trans ?_
   by_cases h':byt t 2<128∨191<byt t 2
   ·rw [if_pos h',if_pos h'];rfl
   ·rw [if_neg h',if_neg h'];exact s3
 have m4:∀ x:Nat,x<100→4≤t.length→z1r.l17 (q+5) (q+5) t (x:Int) 4 65536 1=some (((if byt t 1<128∨191<byt t 1 then (0,0) else if byt t 2<128∨191<byt t 2 then (0,0) else if byt t 3<128∨191<byt t 3 then (0,0) else finN (64 * (64 * (64 * x+byt t 1 - 128)+byt t 2 - 128)+byt t 3 - 128) 65536 4:Nat × Nat).1:Int),((if byt t 1<128∨191<byt t 1 then (0,0) else if byt t 2<128∨191<byt t 2 then (0,0) else if byt t 3<128∨191<byt t 3 then (0,0) else finN (64 * (64 * (64 * x+byt t 1 - 128)+byt t 2 - 128)+byt t 3 - 128) 65536 4:Nat × Nat).2:Int)):=fun x hx h2=>by
  have s1:=l17_step (q+5) (q+4) 4 x 65536 1 t (by omega) h2 (by omega) (by omega)
  have s2:=l17_step (q+5) (q+3) 4 (64 * x+byt t 1 - 128) 65536 2 t (by omega) h2 (by omega) (by omega)
  have s3:=l17_step (q+5) (q+2) 4 (64 * (64 * x+byt t 1 - 128)+byt t 2 - 128) 65536 3 t (by omega) h2 (by omega) (by omega)
  have s4:=l17_end (q+5) (q+1) 4 (64 * (64 * (64 * x+byt t 1 - 128)+byt t 2 - 128)+byt t 3 - 128) 65536 t
  refine s1.trans ?_
  by_cases h:byt t 1<128∨191<byt t 1
  ·rw [if_pos h,if_pos h];rfl
  ·rw [if_neg h,if_neg h]
   refine s2.trans ?_
   by_cases h':byt t 2<128∨191<byt t 2
   ·rw [if_pos h',if_pos h'];rfl
   ·rw [if_neg h',if_neg h']
    refine s3.trans ?_
    by_cases h'':byt t 3<128∨191<byt t 3
    ·rw [if_pos h'',if_pos h''];rfl
    ·rw [if_neg h'',if_neg h''];exact s4
 have bl:∀ c:Nat,ilt ((byt t 0:Nat):Int) (c:Int)=decide (byt t 0<c):=fun c=>ilt_nn _ c
 have bg:∀ c:Nat,ile (c:Int) ((byt t 0:Nat):Int)=decide (c≤byt t 0):=fun c=>decide_eq_decide.2 ⟨fun h=>by omega,fun h=>by omega⟩
 have su:∀ c:Nat,c≤byt t 0→isub .i64 ((byt t 0:Nat):Int) (c:Int)=((byt t 0 - c:Nat):Int):=fun c hc=>by
  show IntKind.wrap .i64 (((byt t 0:Nat):Int) - (c:Int))=_
  rw [IntKind.wrap_i64];omega
 rw [z1r.f_eq,e0,decide_eq_false (by omega),br_false,e1,br_true,eb,show ilt ((byt t 0:Nat):Int) 128=_ from bl 128]
 unfold refN
 by_cases c0:byt t 0<128
 ·rw [decide_eq_true c0,br_true,if_pos c0];rfl
 rw [decide_eq_false c0,br_false,if_neg c0,show ile (194:Int) ((byt t 0:Nat):Int)=_ from bg 194,show ilt ((byt t 0:Nat):Int) 224=_ from bl 224,show ile (224:Int) ((byt t 0:Nat):Int)=_ from bg 224,
  show ilt ((byt t 0:Nat):Int) 240=_ from bl 240,show ile (240:Int) ((byt t 0:Nat):Int)=_ from bg 240,show ilt ((byt t 0:Nat):Int) 245=_ from bl 245,
  show ilt (ilen t) 2=_ from l2 2,show ilt (ilen t) 3=_ from l2 3,show ilt (ilen t) 4=_ from l2 4]
 by_cases c1:194≤byt t 0∧byt t 0<224
 ·rw [decide_eq_true c1.1,br_true,decide_eq_true c1.2,br_true,if_pos c1]
  by_cases g:t.length<2
  ·rw [decide_eq_true g,br_true,if_pos g];rfl
  ·rw [decide_eq_false g,br_false,if_neg g,show isub .i64 ((byt t 0:Nat):Int) 192=_ from su 192 (by omega)]
   exact m2 _ (by omega) (by omega)
 rw [if_neg c1]
 by_cases c2:224≤byt t 0∧byt t 0<240
 ·rw [decide_eq_true (show 194≤byt t 0 by omega),br_true,decide_eq_false (show ¬ byt t 0<224 by omega),br_false,decide_eq_true c2.1,br_true,decide_eq_true c2.2,br_true,if_pos c2]
  by_cases g:t.length<3
  ·rw [decide_eq_true g,br_true,if_pos g];rfl
  ·rw [decide_eq_false g,br_false,if_neg g,show isub .i64 ((byt t 0:Nat):Int) 224=_ from su 224 (by omega)]
   exact m3 _ (by omega) (by omega)
 rw [if_neg c2]
 by_cases c3:240≤byt t 0∧byt t 0<245
 ·rw [decide_eq_true (show 194≤byt t 0 by omega),br_true,decide_eq_false (show ¬ byt t 0<224 by omega),br_false,decide_eq_true (show 224≤byt t 0 by omega),br_true,decide_eq_false (show ¬ byt t 0<240 by omega),br_false,decide_eq_true c3.1,br_true,decide_eq_true c3.2,br_true,if_pos c3]
  by_cases g:t.length<4
  ·rw [decide_eq_true g,br_true,if_pos g];rfl
  ·rw [decide_eq_false g,br_false,if_neg g,show isub .i64 ((byt t 0:Nat):Int) 240=_ from su 240 (by omega)]
   exact m4 _ (by omega) (by omega)
 rw [if_neg c3]
 by_cases d1:194≤byt t 0
 ·have d2:¬ byt t 0<224:=by omega
  have d3:224≤byt t 0:=by omega
  have d4:¬ byt t 0<240:=by omega
  have d5:240≤byt t 0:=by omega
  have d6:¬ byt t 0<245:=by omega
  rw [decide_eq_true d1,br_true,decide_eq_false d2,br_false,decide_eq_true d3,br_true,decide_eq_false d4,br_false,decide_eq_true d5,br_true,decide_eq_false d6,br_false];rfl
 ·have d3:¬ 224≤byt t 0:=by omega
  have d5:¬ 240≤byt t 0:=by omega
  rw [decide_eq_false d1,br_false,decide_eq_false d3,br_false,decide_eq_false d5,br_false];rfl
end Go.Proofs.YtggcagclpkhlhaaGreatDoor
end
