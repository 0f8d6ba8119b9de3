/- The functions that the statement reaches, and what they come to. Part 3. -/
import Derived.Test.YtggcagclpkhlhaaGreatDoorFw1
import Derived.Test.YtggcagclpkhlhaaGreatDoorFw2
import Derived.Test.YtggcagclpkhlhaaGreatDoorFw3
import Derived.Test.YtggcagclpkhlhaaGreatDoorRecA1
import Derived.Test.YtggcagclpkhlhaaGreatDoorRecA2
set_option linter.unusedVariables false
set_option linter.unusedSimpArgs false
set_option linter.unusedSectionVars false
noncomputable section
/- The program's functions, as plain equations. -/
namespace Go.Proofs.YtggcagclpkhlhaaGreatDoor
open Pal
set_option maxRecDepth 100000
def z0n.body:Go.Code:=Tryz.f28.body.getD .skip
def z0n.rs:List Go.ResultVar:=Tryz.f28.results.toList
def z0n.regs:List (Nat × RInfo):=[(0,ri [0] [1000000]),(1,ri [0,11] [1000000]),(2,ri [2] [1000000]),(3,ri [0,3,4] [1000000]),(4,ri [0,3,4,5] [1000000]),(5,⟨[0,3,4,5,13],[1000000],[],[],0,[0,3,4,5],[1000000],[],[],[]⟩),(7,rq [0,3,4,5,27] [1000000] 12),(8,ri [] [1000000]),(9,ri [2] [1000000]),(10,rq [0,3,4,5,6] [1000000] 12),(11,ri [0,3,4,5,6,44] [1000000]),(12,ri [0,3,4,5,6,50] [1000000]),(13,ri [] [1000000]),(14,ri [2] [1000000]),(15,ri [3,4,6] [1000000]),(16,ri [2] [1000000]),(17,ri [0,3,4,5] [1000000]),(18,ri [0,3,4,5] [1000000]),(6,ri [0,3,4,5] [1000000]),(19,ri [] [1000000]),(20,ri [2] [1000000])]
def z0n.cx (k:Nat):Cx:=⟨tt,pp,[],z0n.regs,k,mm⟩
@[reducible] def z0n.sg:Sg:=⟨[.ref],[tref02Reader],.dat (.int .i64),[tref02Reader]⟩
def z0n.f (k:Nat) (o0:Ty.D tref02Reader):Option (Sg.Out z0n.sg):=Sg.fn z0n.sg (z0n.cx k) z0n.body z0n.rs o0
def z0n.l5 (k:Nat) (n:Nat) (x3:Ty.D (.int .i64)) (x4:Ty.D (.int .i64)) (x5:Ty.D (.int .i64)) (m1000000:Ty.D tref02Reader):Option (Sg.Out z0n.sg):=loopAt (z0n.cx k) z0n.body [1,1,1,0,1,0] 5 [0,3,4,5] [1000000] [] (Sg.K z0n.sg (z0n.cx k) z0n.rs) n ⟨[(0,.ref 1000000 []),(3,.dat (.int .i64) x3),(4,.dat (.int .i64) x4),(5,.dat (.int .i64) x5)],[(1000000,.dat tref02Reader m1000000)]⟩
theorem z0n.f_eq (k:Nat) (o0:Ty.D tref02Reader):z0n.f k o0=br (bnot (ieq o0.2.2 0)) (some (0,o0)) (z0n.l5 k k 0 1 0 o0):=by kernel_rfl
theorem z0n.l5_eq (k:Nat) (n5:Nat) (x3:Ty.D (.int .i64)) (x4:Ty.D (.int .i64)) (x5:Ty.D (.int .i64)) (m1000000:Ty.D tref02Reader):z0n.l5 k (n5+1) x3 x4 x5 m1000000=br (ilt x5 8) (br (ile (ilen m1000000.1) (iadd .i64 m1000000.2.1 x5)) (some (0,(m1000000.1,(m1000000.2.1,4)))) (br (inL (iadd .i64 m1000000.2.1 x5) m1000000.1) (br (ilt (iwrap .i64 (byteAt m1000000.1 (iadd .i64 m1000000.2.1 x5))) 128) (br (ieq (iwrap .i64 (byteAt m1000000.1 (iadd .i64 m1000000.2.1 x5))) 0) (br (ilt 0 x5) (some (0,(m1000000.1,(m1000000.2.1,3)))) (some ((iadd .i64 x3 (imul .i64 (iwrap .i64 (byteAt m1000000.1 (iadd .i64 m1000000.2.1 x5))) x4)),(m1000000.1,((iadd .i64 (iadd .i64 m1000000.2.1 x5) 1),m1000000.2.2))))) (some ((iadd .i64 x3 (imul .i64 (iwrap .i64 (byteAt m1000000.1 (iadd .i64 m1000000.2.1 x5))) x4)),(m1000000.1,((iadd .i64 (iadd .i64 m1000000.2.1 x5) 1),m1000000.2.2))))) (z0n.l5 k n5 (iadd .i64 x3 (imul .i64 (isub .i64 (iwrap .i64 (byteAt m1000000.1 (iadd .i64 m1000000.2.1 x5))) 128) x4)) (imul .i64 x4 128) (iadd .i64 x5 1) m1000000)) none)) (some (0,(m1000000.1,(m1000000.2.1,6)))):=by kernel_rfl
def z0n.e (k:Nat):Entry:=Sg.entry z0n.sg fun x=>z0n.f k x
theorem z0n.ok (k:Nat):CallOK Tryz.prog 28 (z0n.e k):=fn_ok (c:=z0n.cx k) (code:=z0n.body) (TT.of tt_ok pp_ok mm_ok) (fns_ok trivial) mixed Tryz.func28 (by kernel_rfl) (by kernel_rfl) (by kernel_rfl) (by kernel_rfl) (by kernel_rfl) (by kernel_rfl) (fun x=>by kernel_rfl)
def z18.body:Go.Code:=Tryz.f77.body.getD .skip
def z18.rs:List Go.ResultVar:=Tryz.f77.results.toList
def z18.regs:List (Nat × RInfo):=[(0,ri [1] [1]),(1,ri [2] [])]
def z18.cx (k:Nat):Cx:=⟨tt,pp,[],z18.regs,k,mm⟩
@[reducible] def z18.sg:Sg:=⟨[.dat tDot],[],.dat .bool,[]⟩
def z18.f (k:Nat) (a0:Ty.D tDot):Option (Sg.Out z18.sg):=Sg.fn z18.sg (z18.cx k) z18.body z18.rs a0
theorem z18.f_eq (k:Nat) (a0:Ty.D tDot):z18.f k a0=br (ile 0 a0.1) (br (ile a0.1 15) (br (ile 1 a0.2) (some (ile a0.2 1048576)) (some false)) (some false)) (some false):=by kernel_rfl
def z18.e (k:Nat):Entry:=Sg.entry z18.sg fun x=>z18.f k x
theorem z18.ok (k:Nat):CallOK Tryz.prog 77 (z18.e k):=fn_ok (c:=z18.cx k) (code:=z18.body) (TT.of tt_ok pp_ok mm_ok) (fns_ok trivial) mixed Tryz.func77 (by kernel_rfl) (by kernel_rfl) (by kernel_rfl) (by kernel_rfl) (by kernel_rfl) (by kernel_rfl) (fun x=>by kernel_rfl)
def z1Q.body:Go.Code:=Tryz.f109.body.getD .skip
def z1Q.rs:List Go.ResultVar:=Tryz.f109.results.toList
def z1Q.regs:List (Nat × RInfo):=[(0,ri [0,2] [2,1000000]),(1,ri [0,2,3] [2,6,1000000]),(2,ri [0,2,4] [2,4,1000000]),(3,ri [0,2,4,20] [2,4,1000000]),(4,ri [0,2,4] [2,4,1000000]),(5,ri [2,4,28] [2,4,1000000]),(6,ri [2] [2,1000000]),(7,ri [2] [2,1000000])]
def z1Q.cx (k:Nat):Cx:=⟨tt,pp,[(28,(z0n.e k)),(77,(z18.e k))],z1Q.regs,k,mm⟩
@[reducible] def z1Q.sg:Sg:=⟨[.ref],[tref02Reader],.dat tDot,[tref02Reader]⟩
def z1Q.f (k:Nat) (o0:Ty.D tref02Reader):Option (Sg.Out z1Q.sg):=Sg.fn z1Q.sg (z1Q.cx k) z1Q.body z1Q.rs o0
theorem z1Q.f_eq (k:Nat) (o0:Ty.D tref02Reader):z1Q.f k o0=bnd (z0n.f k o0) fun r0=>bnd (z0n.f k r0.2) fun r1=>br (ieq r1.2.2.2 0) (bnd (z18.f k (r0.1,r1.1)) fun r2=>br (bnot r2) (some ((0,0),(r1.2.1,(r1.2.2.1,2)))) (br (bnot (ieq r1.2.2.2 0)) (some ((0,0),r1.2)) (some ((r0.1,r1.1),r1.2)))) (br (bnot (ieq r1.2.2.2 0)) (some ((0,0),r1.2)) (some ((r0.1,r1.1),r1.2))):=by kernel_rfl
def z1Q.e (k:Nat):Entry:=Sg.entry z1Q.sg fun x=>z1Q.f k x
theorem z1Q.ok (k:Nat):CallOK Tryz.prog 109 (z1Q.e k):=fn_ok (c:=z1Q.cx k) (code:=z1Q.body) (TT.of tt_ok pp_ok mm_ok) (fns_ok ⟨(z0n.ok k),(z18.ok k),trivial⟩) mixed Tryz.func109 (by kernel_rfl) (by kernel_rfl) (by kernel_rfl) (by kernel_rfl) (by kernel_rfl) (by kernel_rfl) (fun x=>by kernel_rfl)
def z0k.body:Go.Code:=Tryz.f111.body.getD .skip
def z0k.rs:List Go.ResultVar:=Tryz.f111.results.toList
def z0k.regs:List (Nat × RInfo):=[(0,ri [0,1,8] [1000000]),(1,ri [] [1000000])]
def z0k.cx (k:Nat):Cx:=⟨tt,pp,[],z0k.regs,k,mm⟩
@[reducible] def z0k.sg:Sg:=⟨[.ref,.dat (.int .i64)],[tref02Reader],.unit,[tref02Reader]⟩
def z0k.f (k:Nat) (a1:Ty.D (.int .i64)) (o0:Ty.D tref02Reader):Option (Sg.Out z0k.sg):=Sg.fn z0k.sg (z0k.cx k) z0k.body z0k.rs (a1,o0)
theorem z0k.f_eq (k:Nat) (a1:Ty.D (.int .i64)) (o0:Ty.D tref02Reader):z0k.f k a1 o0=br (ieq o0.2.2 0) (some ((),(o0.1,(o0.2.1,a1)))) (some ((),o0)):=by kernel_rfl
def z0k.e (k:Nat):Entry:=Sg.entry z0k.sg fun x=>z0k.f k x.1 x.2
theorem z0k.ok (k:Nat):CallOK Tryz.prog 111 (z0k.e k):=fn_ok (c:=z0k.cx k) (code:=z0k.body) (TT.of tt_ok pp_ok mm_ok) (fns_ok trivial) mixed Tryz.func111 (by kernel_rfl) (by kernel_rfl) (by kernel_rfl) (by kernel_rfl) (by kernel_rfl) (by kernel_rfl) (fun x=>by kernel_rfl)
def z0j.body:Go.Code:=Tryz.f162.body.getD .skip
def z0j.rs:List Go.ResultVar:=Tryz.f162.results.toList
def z0j.regs:List (Nat × RInfo):=[(0,ri [0,1] [1000000]),(1,ri [0,1,5] [7,1000000]),(2,ri [0,5,17] [7,1000000]),(3,ri [0,5] [7,1000000]),(4,rq [0,5,39] [7,1000000] 19),(5,ri [0,5] [7,1000000]),(6,ri [5,47] [7,1000000]),(7,ri [4] [7,1000000]),(8,ri [4] [7,1000000])]
def z0j.cx (k:Nat):Cx:=⟨tt,pp,[(28,(z0n.e k))],z0j.regs,k,mm⟩
@[reducible] def z0j.sg:Sg:=⟨[.ref,.dat (.int .i64)],[tref02Reader],.dat (.int .i64),[tref02Reader]⟩
def z0j.f (k:Nat) (a1:Ty.D (.int .i64)) (o0:Ty.D tref02Reader):Option (Sg.Out z0j.sg):=Sg.fn z0j.sg (z0j.cx k) z0j.body z0j.rs (a1,o0)
theorem z0j.f_eq (k:Nat) (a1:Ty.D (.int .i64)) (o0:Ty.D tref02Reader):z0j.f k a1 o0=bnd (z0n.f k o0) fun r0=>br (ieq r0.2.2.2 0) (br (ilt a1 r0.1) (some (0,(r0.2.1,(r0.2.2.1,6)))) (br (ieq r0.2.2.2 0) (br (ilt (isub .i64 (ilen r0.2.1) r0.2.2.1) r0.1) (some (0,(r0.2.1,(r0.2.2.1,4)))) (br (bnot (ieq r0.2.2.2 0)) (some (0,r0.2)) (some (r0.1,r0.2)))) (br (bnot (ieq r0.2.2.2 0)) (some (0,r0.2)) (some (r0.1,r0.2))))) (br (ieq r0.2.2.2 0) (br (ilt (isub .i64 (ilen r0.2.1) r0.2.2.1) r0.1) (some (0,(r0.2.1,(r0.2.2.1,4)))) (br (bnot (ieq r0.2.2.2 0)) (some (0,r0.2)) (some (r0.1,r0.2)))) (br (bnot (ieq r0.2.2.2 0)) (some (0,r0.2)) (some (r0.1,r0.2)))):=by kernel_rfl
def z0j.e (k:Nat):Entry:=Sg.entry z0j.sg fun x=>z0j.f k x.1 x.2
theorem z0j.ok (k:Nat):CallOK Tryz.prog 162 (z0j.e k):=fn_ok (c:=z0j.cx k) (code:=z0j.body) (TT.of tt_ok pp_ok mm_ok) (fns_ok ⟨(z0n.ok k),trivial⟩) mixed Tryz.func162 (by kernel_rfl) (by kernel_rfl) (by kernel_rfl) (by kernel_rfl) (by kernel_rfl) (by kernel_rfl) (fun x=>by kernel_rfl)
def z0h.body:Go.Code:=Tryz.f242.body.getD .skip
def z0h.rs:List Go.ResultVar:=Tryz.f242.results.toList
def z0h.regs:List (Nat × RInfo):=[(0,ri [0] [1000000]),(1,ri [0,3] [6,1000000]),(2,ri [0,3,11] [6,1000000]),(3,ri [2] [1000000]),(4,rq [0,3,23] [6,1000000] 12),(5,ri [] [1000000]),(6,ri [2] [1000000]),(7,rq [0,3,4] [6,1000000] 15),(8,ri [4] [1000000]),(9,ri [2] [1000000])]
def z0h.cx (k:Nat):Cx:=⟨tt,pp,[(28,(z0n.e k))],z0h.regs,k,mm⟩
@[reducible] def z0h.sg:Sg:=⟨[.ref],[tref02Reader],.dat .str,[tref02Reader]⟩
def z0h.f (k:Nat) (o0:Ty.D tref02Reader):Option (Sg.Out z0h.sg):=Sg.fn z0h.sg (z0h.cx k) z0h.body z0h.rs o0
theorem z0h.f_eq (k:Nat) (o0:Ty.D tref02Reader):z0h.f k o0=bnd (z0n.f k o0) fun r0=>br (bnot (ieq r0.2.2.2 0)) (some ([],r0.2)) (br (ilt (isub .i64 (ilen r0.2.1) r0.2.2.1) r0.1) (some ([],(r0.2.1,(r0.2.2.1,4)))) (br (inS r0.2.2.1 (iadd .i64 r0.2.2.1 r0.1) (ilen r0.2.1)) (some ((piece r0.2.1 r0.2.2.1 (iadd .i64 r0.2.2.1 r0.1)),(r0.2.1,((iadd .i64 r0.2.2.1 r0.1),r0.2.2.2)))) none)):=by kernel_rfl
def z0h.e (k:Nat):Entry:=Sg.entry z0h.sg fun x=>z0h.f k x
theorem z0h.ok (k:Nat):CallOK Tryz.prog 242 (z0h.e k):=fn_ok (c:=z0h.cx k) (code:=z0h.body) (TT.of tt_ok pp_ok mm_ok) (fns_ok ⟨(z0n.ok k),trivial⟩) mixed Tryz.func242 (by kernel_rfl) (by kernel_rfl) (by kernel_rfl) (by kernel_rfl) (by kernel_rfl) (by kernel_rfl) (fun x=>by kernel_rfl)
def z1W.body:Go.Code:=Tryz.f244.body.getD .skip
def z1W.rs:List Go.ResultVar:=Tryz.f244.results.toList
def z1W.regs:List (Nat × RInfo):=[(0,ri [0] []),(1,ri [0,10] []),(2,ri [2,3] []),(3,ri [0,4] []),(4,ri [0,4] []),(6,ri [0,4,14] []),(7,ri [2,3] []),(8,ri [0,4,18] []),(9,ri [0,4,5,6] []),(10,ri [0,4,27] []),(11,ri [0,4,5,6] []),(12,ri [0,4,36] []),(13,ri [0,4,5,6] []),(5,ri [2,3] []),(14,ri [0,4,5,6,48] []),(15,ri [2,3] []),(16,ri [0,4,5,6,7] []),(17,⟨[0,4,5,6,7,51],[],[],[],0,[0,4,5,6,7],[],[],[],[]⟩),(19,ri [0,4,5,6,7,63] []),(20,ri [2,3] []),(21,ri [0,4,5,6,7] []),(18,ri [0,4,5,6,7] []),(22,ri [4,5,86] []),(23,ri [2,3] []),(24,ri [2,3] [])]
def z1W.cx (k:Nat):Cx:=⟨tt,pp,[],z1W.regs,k,mm⟩
@[reducible] def z1W.sg:Sg:=⟨[.dat .str],[],.t2 (.dat (.int .i64)) (.dat (.int .i64)),[]⟩
def z1W.f (k:Nat) (a0:Ty.D .str):Option (Sg.Out z1W.sg):=Sg.fn z1W.sg (z1W.cx k) z1W.body z1W.rs a0
def z1W.l17 (k:Nat) (n:Nat) (x0:Ty.D .str) (x4:Ty.D (.int .i64)) (x5:Ty.D (.int .i64)) (x6:Ty.D (.int .i64)) (x7:Ty.D (.int .i64)):Option (Sg.Out z1W.sg):=loopAt (z1W.cx k) z1W.body [1,1,1,1,1,1,0,1,0] 17 [0,4,5,6,7] [] [] (Sg.K z1W.sg (z1W.cx k) z1W.rs) n ⟨[(0,.dat .str x0),(4,.dat (.int .i64) x4),(5,.dat (.int .i64) x5),(6,.dat (.int .i64) x6),(7,.dat (.int .i64) x7)],[]⟩
theorem z1W.f_eq (k:Nat) (a0:Ty.D .str):z1W.f k a0=br (ieq (ilen a0) 0) (some (0,0)) (br (inL 0 a0) (br (ilt (iwrap .i64 (byteAt a0 0)) 128) (some ((iwrap .i64 (byteAt a0 0)),1)) (br (ile 194 (iwrap .i64 (byteAt a0 0))) (br (ilt (iwrap .i64 (byteAt a0 0)) 224) (br (ilt (ilen a0) 2) (some (0,0)) (z1W.l17 k k a0 (isub .i64 (iwrap .i64 (byteAt a0 0)) 192) 2 128 1)) (br (ile 224 (iwrap .i64 (byteAt a0 0))) (br (ilt (iwrap .i64 (byteAt a0 0)) 240) (br (ilt (ilen a0) 3) (some (0,0)) (z1W.l17 k k a0 (isub .i64 (iwrap .i64 (byteAt a0 0)) 224) 3 2048 1)) (br (ile 240 (iwrap .i64 (byteAt a0 0))) (br (ilt (iwrap .i64 (byteAt a0 0)) 245) (br (ilt (ilen a0) 4) (some (0,0)) (z1W.l17 k k a0 (isub .i64 (iwrap .i64 (byteAt a0 0)) 240) 4 65536 1)) (some (0,0))) (some (0,0)))) (br (ile 240 (iwrap .i64 (byteAt a0 0))) (br (ilt (iwrap .i64 (byteAt a0 0)) 245) (br (ilt (ilen a0) 4) (some (0,0)) (z1W.l17 k k a0 (isub .i64 (iwrap .i64 (byteAt a0 0)) 240) 4 65536 1)) (some (0,0))) (some (0,0))))) (br (ile 224 (iwrap .i64 (byteAt a0 0))) (br (ilt (iwrap .i64 (byteAt a0 0)) 240) (br (ilt (ilen a0) 3) (some (0,0)) (z1W.l17 k k a0 (isub .i64 (iwrap .i64 (byteAt a0 0)) 224) 3 2048 1)) (br (ile 240 (iwrap .i64 (byteAt a0 0))) (br (ilt (iwrap .i64 (byteAt a0 0)) 245) (br (ilt (ilen a0) 4) (some (0,0)) (z1W.l17 k k a0 (isub .i64 (iwrap .i64 (byteAt a0 0)) 240) 4 65536 1)) (some (0,0))) (some (0,0)))) (br (ile 240 (iwrap .i64 (byteAt a0 0))) (br (ilt (iwrap .i64 (byteAt a0 0)) 245) (br (ilt (ilen a0) 4) (some (0,0)) (z1W.l17 k k a0 (isub .i64 (iwrap .i64 (byteAt a0 0)) 240) 4 65536 1)) (some (0,0))) (some (0,0)))))) none):=by kernel_rfl
theorem z1W.l17_eq (k:Nat) (n17:Nat) (x0:Ty.D .str) (x4:Ty.D (.int .i64)) (x5:Ty.D (.int .i64)) (x6:Ty.D (.int .i64)) (x7:Ty.D (.int .i64)):z1W.l17 k (n17+1) x0 x4 x5 x6 x7=br (ilt x7 x5) (br (inL x7 x0) (br (ilt (byteAt x0 x7) 128) (some (0,0)) (br (inL x7 x0) (br (ilt 191 (byteAt x0 x7)) (some (0,0)) (br (inL x7 x0) (z1W.l17 k n17 x0 (isub .i64 (iadd .i64 (imul .i64 64 x4) (iwrap .i64 (byteAt x0 x7))) 128) x5 x6 (iadd .i64 x7 1)) none)) none)) none) (br (ilt x4 x6) (some (0,0)) (br (ilt 1114111 x4) (some (0,0)) (br (ile 55296 x4) (br (ile x4 57343) (some (0,0)) (some (x4,x5))) (some (x4,x5))))):=by kernel_rfl
def z1W.e (k:Nat):Entry:=Sg.entry z1W.sg fun x=>z1W.f k x
theorem z1W.ok (k:Nat):CallOK Tryz.prog 244 (z1W.e k):=fn_ok (c:=z1W.cx k) (code:=z1W.body) (TT.of tt_ok pp_ok mm_ok) (fns_ok trivial) mixed Tryz.func244 (by kernel_rfl) (by kernel_rfl) (by kernel_rfl) (by kernel_rfl) (by kernel_rfl) (by kernel_rfl) (fun x=>by kernel_rfl)
def z0Y.body:Go.Code:=Tryz.f219.body.getD .skip
def z0Y.rs:List Go.ResultVar:=Tryz.f219.results.toList
def z0Y.regs:List (Nat × RInfo):=[(0,ri [0] []),(1,ri [0,4] []),(2,ri [0,4,5] []),(3,⟨[0,4,5,11],[],[],[],0,[0,4,5],[],[],[],[]⟩),(4,ri [0,4,5,6,7] [16]),(5,ri [0,4,5,6,7,20] [16]),(6,ri [2,3] []),(7,⟨[0,4,5,7],[16],[0,3,4],[],0,[],[],[],[],[]⟩),(8,ri [0,4,5] []),(9,⟨[2,3],[],[0,1],[],0,[],[],[],[],[]⟩)]
def z0Y.cx (k:Nat):Cx:=⟨tt,pp,[(244,(z1W.e k))],z0Y.regs,k,mm⟩
@[reducible] def z0Y.sg:Sg:=⟨[.dat .str],[],.t2 (.dat (.slc (.int .i64))) (.dat .bool),[]⟩
def z0Y.f (k:Nat) (a0:Ty.D .str):Option (Sg.Out z0Y.sg):=Sg.fn z0Y.sg (z0Y.cx k) z0Y.body z0Y.rs a0
def z0Y.l3 (k:Nat) (n:Nat) (x0:Ty.D .str) (x4:List (Ty.D (.int .i64))) (x5:Ty.D (.int .i64)):Option (Sg.Out z0Y.sg):=loopAt (z0Y.cx k) z0Y.body [1,1,0,1,0] 3 [0,4,5] [] [] (Sg.K z0Y.sg (z0Y.cx k) z0Y.rs) n ⟨[(0,.dat .str x0),(4,.own (.int .i64) x4),(5,.dat (.int .i64) x5)],[]⟩
theorem z0Y.f_eq (k:Nat) (a0:Ty.D .str):z0Y.f k a0=z0Y.l3 k k a0 [] 0:=by kernel_rfl
theorem z0Y.l3_eq (k:Nat) (n3:Nat) (x0:Ty.D .str) (x4:List (Ty.D (.int .i64))) (x5:Ty.D (.int .i64)):z0Y.l3 k (n3+1) x0 x4 x5=br (ilt x5 (ilen x0)) (br (inS x5 (ilen x0) (ilen x0)) (bnd (z1W.f k (piece x0 x5 (ilen x0))) fun r0=>br (ieq r0.2 0) (some ([],false)) (br (room x4 (r0.1::[])) (z0Y.l3 k n3 x0 (app x4 (r0.1::[])) (iadd .i64 x5 r0.2)) none)) none) (some (x4,true)):=by kernel_rfl
def z0Y.e (k:Nat):Entry:=Sg.entry z0Y.sg fun x=>z0Y.f k x
theorem z0Y.ok (k:Nat):CallOK Tryz.prog 219 (z0Y.e k):=fn_ok (c:=z0Y.cx k) (code:=z0Y.body) (TT.of tt_ok pp_ok mm_ok) (fns_ok ⟨(z1W.ok k),trivial⟩) mixed Tryz.func219 (by kernel_rfl) (by kernel_rfl) (by kernel_rfl) (by kernel_rfl) (by kernel_rfl) (by kernel_rfl) (fun x=>by kernel_rfl)
def z2r.body:Go.Code:=Tryz.f243.body.getD .skip
def z2r.rs:List Go.ResultVar:=Tryz.f243.results.toList
def z2r.regs:List (Nat × RInfo):=[(0,ri [0] []),(1,ri [2] [])]
def z2r.cx (k:Nat):Cx:=⟨tt,pp,[],z2r.regs,k,mm⟩
@[reducible] def z2r.sg:Sg:=⟨[.dat (.int .i64)],[],.dat .bool,[]⟩
def z2r.f (k:Nat) (a0:Ty.D (.int .i64)):Option (Sg.Out z2r.sg):=Sg.fn z2r.sg (z2r.cx k) z2r.body z2r.rs a0
theorem z2r.f_eq (k:Nat) (a0:Ty.D (.int .i64)):z2r.f k a0=br (ile 32 a0) (br (ilt a0 127) (some (bnot (ieq a0 65533))) (br (ilt 159 a0) (some (bnot (ieq a0 65533))) (some false))) (some false):=by kernel_rfl
def z2r.e (k:Nat):Entry:=Sg.entry z2r.sg fun x=>z2r.f k x
theorem z2r.ok (k:Nat):CallOK Tryz.prog 243 (z2r.e k):=fn_ok (c:=z2r.cx k) (code:=z2r.body) (TT.of tt_ok pp_ok mm_ok) (fns_ok trivial) mixed Tryz.func243 (by kernel_rfl) (by kernel_rfl) (by kernel_rfl) (by kernel_rfl) (by kernel_rfl) (by kernel_rfl) (fun x=>by kernel_rfl)
def z1a.body:Go.Code:=Tryz.f218.body.getD .skip
def z1a.rs:List Go.ResultVar:=Tryz.f218.results.toList
def z1a.regs:List (Nat × RInfo):=[(0,ri [0] []),(1,⟨[3,4],[8],[5],[],0,[],[],[],[],[]⟩),(2,ri [3,4,5] [8]),(3,⟨[3,4,5,14],[8],[],[],0,[3,4,5],[8],[],[],[]⟩),(5,ri [3,4,5,22] [8]),(6,ri [2] [8]),(4,ri [3,4,5] [8]),(7,ri [2] [8])]
def z1a.cx (k:Nat):Cx:=⟨tt,pp,[(219,(z0Y.e k)),(243,(z2r.e k))],z1a.regs,k,mm⟩
@[reducible] def z1a.sg:Sg:=⟨[.dat .str],[],.dat .bool,[]⟩
def z1a.f (k:Nat) (a0:Ty.D .str):Option (Sg.Out z1a.sg):=Sg.fn z1a.sg (z1a.cx k) z1a.body z1a.rs a0
def z1a.l3 (k:Nat) (n:Nat) (x3:Ty.D (.slc (.int .i64))) (x4:Ty.D .bool) (x5:Ty.D (.int .i64)):Option (Sg.Out z1a.sg):=loopAt (z1a.cx k) z1a.body [1,1,0,1,0] 3 [3,4,5] [8] [] (Sg.K z1a.sg (z1a.cx k) z1a.rs) n ⟨[(3,.dat (.slc (.int .i64)) x3),(4,.dat .bool x4),(5,.dat (.int .i64) x5)],[]⟩
theorem z1a.f_eq (k:Nat) (a0:Ty.D .str):z1a.f k a0=bnd (z0Y.f k a0) fun r0=>z1a.l3 k k r0.1 r0.2 0:=by kernel_rfl
theorem z1a.l3_eq (k:Nat) (n3:Nat) (x3:Ty.D (.slc (.int .i64))) (x4:Ty.D .bool) (x5:Ty.D (.int .i64)):z1a.l3 k (n3+1) x3 x4 x5=br (ilt x5 (ilen x3)) (br (inL x5 x3) (bnd (z2r.f k (rd (.int .i64) x3 (natOf x5))) fun r0=>br (bnot r0) (some false) (z1a.l3 k n3 x3 x4 (iadd .i64 x5 1))) none) (br x4 (br (ile 1 (ilen x3)) (some (ile (ilen x3) 24)) (some false)) (some false)):=by kernel_rfl
def z1a.e (k:Nat):Entry:=Sg.entry z1a.sg fun x=>z1a.f k x
theorem z1a.ok (k:Nat):CallOK Tryz.prog 218 (z1a.e k):=fn_ok (c:=z1a.cx k) (code:=z1a.body) (TT.of tt_ok pp_ok mm_ok) (fns_ok ⟨(z0Y.ok k),(z2r.ok k),trivial⟩) mixed Tryz.func218 (by kernel_rfl) (by kernel_rfl) (by kernel_rfl) (by kernel_rfl) (by kernel_rfl) (by kernel_rfl) (fun x=>by kernel_rfl)
def z1h.body:Go.Code:=Tryz.f168.body.getD .skip
def z1h.rs:List Go.ResultVar:=Tryz.f168.results.toList
def z1h.regs:List (Nat × RInfo):=[(0,ri [0] []),(1,ri [0,6] []),(2,ri [2] []),(3,ri [0,9] []),(4,ri [2] []),(5,ri [0,3] []),(6,⟨[0,3,13],[],[],[],0,[0,3],[],[],[],[]⟩),(8,ri [0,3,21] []),(9,ri [2] []),(7,ri [0,3] []),(10,ri [2] [])]
def z1h.cx (k:Nat):Cx:=⟨tt,pp,[(218,(z1a.e k))],z1h.regs,k,mm⟩
@[reducible] def z1h.sg:Sg:=⟨[.dat (.slc .str)],[],.dat (.int .i64),[]⟩
def z1h.f (k:Nat) (a0:Ty.D (.slc .str)):Option (Sg.Out z1h.sg):=Sg.fn z1h.sg (z1h.cx k) z1h.body z1h.rs a0
def z1h.l6 (k:Nat) (n:Nat) (x0:Ty.D (.slc .str)) (x3:Ty.D (.int .i64)):Option (Sg.Out z1h.sg):=loopAt (z1h.cx k) z1h.body [1,1,1,0,1,0] 6 [0,3] [] [] (Sg.K z1h.sg (z1h.cx k) z1h.rs) n ⟨[(0,.dat (.slc .str) x0),(3,.dat (.int .i64) x3)],[]⟩
theorem z1h.f_eq (k:Nat) (a0:Ty.D (.slc .str)):z1h.f k a0=br (ieq (ilen a0) 0) (some 8) (br (ilt 8 (ilen a0)) (some 9) (z1h.l6 k k a0 0)):=by kernel_rfl
theorem z1h.l6_eq (k:Nat) (n6:Nat) (x0:Ty.D (.slc .str)) (x3:Ty.D (.int .i64)):z1h.l6 k (n6+1) x0 x3=br (ilt x3 (ilen x0)) (br (inL x3 x0) (bnd (z1a.f k (rd .str x0 (natOf x3))) fun r0=>br (bnot r0) (some 8) (z1h.l6 k n6 x0 (iadd .i64 x3 1))) none) (some 0):=by kernel_rfl
def z1h.e (k:Nat):Entry:=Sg.entry z1h.sg fun x=>z1h.f k x
theorem z1h.ok (k:Nat):CallOK Tryz.prog 168 (z1h.e k):=fn_ok (c:=z1h.cx k) (code:=z1h.body) (TT.of tt_ok pp_ok mm_ok) (fns_ok ⟨(z1a.ok k),trivial⟩) mixed Tryz.func168 (by kernel_rfl) (by kernel_rfl) (by kernel_rfl) (by kernel_rfl) (by kernel_rfl) (by kernel_rfl) (fun x=>by kernel_rfl)
def z1A.body:Go.Code:=Tryz.f213.body.getD .skip
def z1A.rs:List Go.ResultVar:=Tryz.f213.results.toList
def z1A.regs:List (Nat × RInfo):=[(0,ri [0] [1000000]),(1,ri [0,3] [7,1000000]),(2,ri [0,3,4] [7,1000000]),(3,ri [0,3,4,5] [7,1000000]),(4,⟨[0,3,4,5,10],[7,1000000],[],[],0,[0,3,4,5],[7,1000000],[],[],[]⟩),(6,⟨[0,3,4,5],[7,1000000],[0,4,5],[],0,[],[],[],[],[]⟩),(5,ri [0,3,4,5] [7,1000000]),(7,ri [0,4,22] [1000000]),(8,ri [0,4] [1000000]),(9,ri [4,31] [1000000]),(10,ri [2] [1000000]),(11,⟨[2],[1000000],[0,1],[],0,[],[],[],[],[]⟩)]
def z1A.cx (k:Nat):Cx:=⟨tt,pp,[(162,(z0j.e k)),(242,(z0h.e k)),(168,(z1h.e k)),(111,(z0k.e k))],z1A.regs,k,mm⟩
@[reducible] def z1A.sg:Sg:=⟨[.ref],[tref02Reader],.own .str,[tref02Reader]⟩
def z1A.f (k:Nat) (o0:Ty.D tref02Reader):Option (Sg.Out z1A.sg):=Sg.fn z1A.sg (z1A.cx k) z1A.body z1A.rs o0
def z1A.l4 (k:Nat) (n:Nat) (x3:Ty.D (.int .i64)) (x4:List (Ty.D .str)) (x5:Ty.D (.int .i64)) (m1000000:Ty.D tref02Reader):Option (Sg.Out z1A.sg):=loopAt (z1A.cx k) z1A.body [1,1,1,0,1,0] 4 [0,3,4,5] [7,1000000] [] (Sg.K z1A.sg (z1A.cx k) z1A.rs) n ⟨[(0,.ref 1000000 []),(3,.dat (.int .i64) x3),(4,.own .str x4),(5,.dat (.int .i64) x5)],[(1000000,.dat tref02Reader m1000000)]⟩
theorem z1A.f_eq (k:Nat) (o0:Ty.D tref02Reader):z1A.f k o0=bnd (z0j.f k 8 o0) fun r0=>z1A.l4 k k r0.1 [] 0 r0.2:=by kernel_rfl
theorem z1A.l4_eq (k:Nat) (n4:Nat) (x3:Ty.D (.int .i64)) (x4:List (Ty.D .str)) (x5:Ty.D (.int .i64)) (m1000000:Ty.D tref02Reader):z1A.l4 k (n4+1) x3 x4 x5 m1000000=br (ilt x5 x3) (bnd (z0h.f k m1000000) fun r0=>br (room x4 (r0.1::[])) (z1A.l4 k n4 x3 (app x4 (r0.1::[])) (iadd .i64 x5 1) r0.2) none) (br (ieq m1000000.2.2 0) (bnd (z1h.f k x4) fun r1=>bnd (z0k.f k r1 m1000000) fun r2=>br (bnot (ieq r2.2.2.2 0)) (some ([],r2.2)) (some (x4,r2.2))) (br (bnot (ieq m1000000.2.2 0)) (some ([],m1000000)) (some (x4,m1000000)))):=by kernel_rfl
def z1A.e (k:Nat):Entry:=Sg.entry z1A.sg fun x=>z1A.f k x
theorem z1A.ok (k:Nat):CallOK Tryz.prog 213 (z1A.e k):=fn_ok (c:=z1A.cx k) (code:=z1A.body) (TT.of tt_ok pp_ok mm_ok) (fns_ok ⟨(z0j.ok k),(z0h.ok k),(z1h.ok k),(z0k.ok k),trivial⟩) mixed Tryz.func213 (by kernel_rfl) (by kernel_rfl) (by kernel_rfl) (by kernel_rfl) (by kernel_rfl) (by kernel_rfl) (fun x=>by kernel_rfl)
def z0S.body:Go.Code:=Tryz.f214.body.getD .skip
def z0S.rs:List Go.ResultVar:=Tryz.f214.results.toList
def z0S.regs:List (Nat × RInfo):=[(0,ri [0] []),(1,ri [0,5] []),(2,ri [2] []),(3,ri [2] [])]
def z0S.cx (k:Nat):Cx:=⟨tt,pp,[],z0S.regs,k,mm⟩
@[reducible] def z0S.sg:Sg:=⟨[.dat (.int .i64)],[],.dat (.int .i64),[]⟩
def z0S.f (k:Nat) (a0:Ty.D (.int .i64)):Option (Sg.Out z0S.sg):=Sg.fn z0S.sg (z0S.cx k) z0S.body z0S.rs a0
theorem z0S.f_eq (k:Nat) (a0:Ty.D (.int .i64)):z0S.f k a0=br (ieq (irem a0 2) 0) (some (iquo .i64 a0 2)) (some (isub .i64 (isub .i64 0 (iquo .i64 a0 2)) 1)):=by kernel_rfl
def z0S.e (k:Nat):Entry:=Sg.entry z0S.sg fun x=>z0S.f k x
theorem z0S.ok (k:Nat):CallOK Tryz.prog 214 (z0S.e k):=fn_ok (c:=z0S.cx k) (code:=z0S.body) (TT.of tt_ok pp_ok mm_ok) (fns_ok trivial) mixed Tryz.func214 (by kernel_rfl) (by kernel_rfl) (by kernel_rfl) (by kernel_rfl) (by kernel_rfl) (by kernel_rfl) (fun x=>by kernel_rfl)
def z1k.body:Go.Code:=Tryz.f169.body.getD .skip
def z1k.rs:List Go.ResultVar:=Tryz.f169.results.toList
def z1k.regs:List (Nat × RInfo):=[(0,ri [1] [1]),(1,ri [1,7] [1]),(2,ri [2] [27]),(3,ri [1,23] [1]),(4,⟨[1,4],[1,27],[6],[],0,[],[],[],[],[]⟩),(5,ri [2] [27]),(6,ri [2] [27])]
def z1k.cx (k:Nat):Cx:=⟨tt,pp,[(219,(z0Y.e k))],z1k.regs,k,mm⟩
@[reducible] def z1k.sg:Sg:=⟨[.dat tValue],[],.dat .bool,[]⟩
def z1k.f (k:Nat) (a0:Ty.D tValue):Option (Sg.Out z1k.sg):=Sg.fn z1k.sg (z1k.cx k) z1k.body z1k.rs a0
theorem z1k.f_eq (k:Nat) (a0:Ty.D tValue):z1k.f k a0=br (ieq a0.1 1) (br (seq a0.2.2 []) (br (ile (-2147483647) a0.2.1) (some (ile a0.2.1 2147483647)) (some false)) (some false)) (br (ieq a0.1 2) (bnd (z0Y.f k a0.2.2) fun r0=>br (ieq a0.2.1 0) (br r0.2 (some (ile (ilen a0.2.2) 64)) (some false)) (some false)) (br (ieq a0.1 3) (br (seq a0.2.2 []) (br (ile 0 a0.2.1) (some (ile a0.2.1 1)) (some false)) (some false)) (some false))):=by kernel_rfl
def z1k.e (k:Nat):Entry:=Sg.entry z1k.sg fun x=>z1k.f k x
theorem z1k.ok (k:Nat):CallOK Tryz.prog 169 (z1k.e k):=fn_ok (c:=z1k.cx k) (code:=z1k.body) (TT.of tt_ok pp_ok mm_ok) (fns_ok ⟨(z0Y.ok k),trivial⟩) mixed Tryz.func169 (by kernel_rfl) (by kernel_rfl) (by kernel_rfl) (by kernel_rfl) (by kernel_rfl) (by kernel_rfl) (fun x=>by kernel_rfl)
def z1F.body:Go.Code:=Tryz.f215.body.getD .skip
def z1F.rs:List Go.ResultVar:=Tryz.f215.results.toList
def z1F.regs:List (Nat × RInfo):=[(0,ri [0,2] [2,1000000]),(1,ri [0,2,3] [2,3,1000000]),(2,ri [0,2,3] [2,3,1000000]),(3,ri [0,2,3,10] [2,3,1000000]),(4,ri [0,2,3] [2,3,1000000]),(5,ri [0,2,3] [2,3,1000000]),(6,ri [0,2,3,27] [2,3,1000000]),(7,ri [0,2,3] [2,3,1000000]),(8,ri [2,3,35] [2,3,1000000]),(9,ri [2] [2,1000000]),(10,ri [2] [2,1000000])]
def z1F.cx (k:Nat):Cx:=⟨tt,pp,[(28,(z0n.e k)),(242,(z0h.e k)),(214,(z0S.e k)),(169,(z1k.e k))],z1F.regs,k,mm⟩
@[reducible] def z1F.sg:Sg:=⟨[.ref],[tref02Reader],.dat tValue,[tref02Reader]⟩
def z1F.f (k:Nat) (o0:Ty.D tref02Reader):Option (Sg.Out z1F.sg):=Sg.fn z1F.sg (z1F.cx k) z1F.body z1F.rs o0
theorem z1F.f_eq (k:Nat) (o0:Ty.D tref02Reader):z1F.f k o0=bnd (z0n.f k o0) fun r0=>br (ieq r0.1 2) (bnd (z0h.f k r0.2) fun r1=>br (ieq r1.2.2.2 0) (bnd (z1k.f k (r0.1,(0,r1.1))) fun r2=>br (bnot r2) (some ((0,(0,[])),(r1.2.1,(r1.2.2.1,2)))) (br (bnot (ieq r1.2.2.2 0)) (some ((0,(0,[])),r1.2)) (some ((r0.1,(0,r1.1)),r1.2)))) (br (bnot (ieq r1.2.2.2 0)) (some ((0,(0,[])),r1.2)) (some ((r0.1,(0,r1.1)),r1.2)))) (bnd (z0n.f k r0.2) fun r3=>bnd (z0S.f k r3.1) fun r4=>br (ieq r3.2.2.2 0) (bnd (z1k.f k (r0.1,(r4,[]))) fun r5=>br (bnot r5) (some ((0,(0,[])),(r3.2.1,(r3.2.2.1,2)))) (br (bnot (ieq r3.2.2.2 0)) (some ((0,(0,[])),r3.2)) (some ((r0.1,(r4,[])),r3.2)))) (br (bnot (ieq r3.2.2.2 0)) (some ((0,(0,[])),r3.2)) (some ((r0.1,(r4,[])),r3.2)))):=by kernel_rfl
def z1F.e (k:Nat):Entry:=Sg.entry z1F.sg fun x=>z1F.f k x
theorem z1F.ok (k:Nat):CallOK Tryz.prog 215 (z1F.e k):=fn_ok (c:=z1F.cx k) (code:=z1F.body) (TT.of tt_ok pp_ok mm_ok) (fns_ok ⟨(z0n.ok k),(z0h.ok k),(z0S.ok k),(z1k.ok k),trivial⟩) mixed Tryz.func215 (by kernel_rfl) (by kernel_rfl) (by kernel_rfl) (by kernel_rfl) (by kernel_rfl) (by kernel_rfl) (fun x=>by kernel_rfl)
def z24.body:Go.Code:=Tryz.f171.body.getD .skip
def z24.rs:List Go.ResultVar:=Tryz.f171.results.toList
def z24.regs:List (Nat × RInfo):=[(0,ri [0,1] []),(1,ri [0,1,7] []),(2,ri [4] []),(3,ri [10] []),(4,ri [4] []),(5,ri [4] [])]
def z24.cx (k:Nat):Cx:=⟨tt,pp,[],z24.regs,k,mm⟩
@[reducible] def z24.sg:Sg:=⟨[.dat (.int .i64),.dat (.int .i64)],[],.dat (.int .i64),[]⟩
def z24.f (k:Nat) (a0:Ty.D (.int .i64)) (a1:Ty.D (.int .i64)):Option (Sg.Out z24.sg):=Sg.fn z24.sg (z24.cx k) z24.body z24.rs (a0,a1)
theorem z24.f_eq (k:Nat) (a0:Ty.D (.int .i64)) (a1:Ty.D (.int .i64)):z24.f k a0 a1=br (ilt a0 a1) (some (-1)) (br (ilt a1 a0) (some 1) (some 0)):=by kernel_rfl
def z24.e (k:Nat):Entry:=Sg.entry z24.sg fun x=>z24.f k x.1 x.2
theorem z24.ok (k:Nat):CallOK Tryz.prog 171 (z24.e k):=fn_ok (c:=z24.cx k) (code:=z24.body) (TT.of tt_ok pp_ok mm_ok) (fns_ok trivial) mixed Tryz.func171 (by kernel_rfl) (by kernel_rfl) (by kernel_rfl) (by kernel_rfl) (by kernel_rfl) (by kernel_rfl) (fun x=>by kernel_rfl)
def z0I.body:Go.Code:=Tryz.f118.body.getD .skip
def z0I.rs:List Go.ResultVar:=Tryz.f118.results.toList
def z0I.regs:List (Nat × RInfo):=[(0,ri [2,3] [2,3]),(1,ri [2,3,9] [2,3]),(2,ri [4] [14,19]),(3,ri [4] [14,19])]
def z0I.cx (k:Nat):Cx:=⟨tt,pp,[(171,(z24.e k))],z0I.regs,k,mm⟩
@[reducible] def z0I.sg:Sg:=⟨[.dat tDot,.dat tDot],[],.dat (.int .i64),[]⟩
def z0I.f (k:Nat) (a0:Ty.D tDot) (a1:Ty.D tDot):Option (Sg.Out z0I.sg):=Sg.fn z0I.sg (z0I.cx k) z0I.body z0I.rs (a0,a1)
theorem z0I.f_eq (k:Nat) (a0:Ty.D tDot) (a1:Ty.D tDot):z0I.f k a0 a1=br (bnot (ieq a0.1 a1.1)) (bnd (z24.f k a0.1 a1.1) fun r0=>some r0) (bnd (z24.f k a0.2 a1.2) fun r1=>some r1):=by kernel_rfl
def z0I.e (k:Nat):Entry:=Sg.entry z0I.sg fun x=>z0I.f k x.1 x.2
theorem z0I.ok (k:Nat):CallOK Tryz.prog 118 (z0I.e k):=fn_ok (c:=z0I.cx k) (code:=z0I.body) (TT.of tt_ok pp_ok mm_ok) (fns_ok ⟨(z24.ok k),trivial⟩) mixed Tryz.func118 (by kernel_rfl) (by kernel_rfl) (by kernel_rfl) (by kernel_rfl) (by kernel_rfl) (by kernel_rfl) (fun x=>by kernel_rfl)
def z1O.body:Go.Code:=Tryz.f220.body.getD .skip
def z1O.rs:List Go.ResultVar:=Tryz.f220.results.toList
def z1O.regs:List (Nat × RInfo):=[(0,ri [2,3] [2,3]),(1,ri [2,3,10] [2,3]),(2,ri [4] [15,20]),(3,ri [4] [15,20])]
def z1O.cx (k:Nat):Cx:=⟨tt,pp,[(118,(z0I.e k)),(171,(z24.e k))],z1O.regs,k,mm⟩
@[reducible] def z1O.sg:Sg:=⟨[.dat tUndo,.dat tUndo],[],.dat (.int .i64),[]⟩
def z1O.f (k:Nat) (a0:Ty.D tUndo) (a1:Ty.D tUndo):Option (Sg.Out z1O.sg):=Sg.fn z1O.sg (z1O.cx k) z1O.body z1O.rs (a0,a1)
theorem z1O.f_eq (k:Nat) (a0:Ty.D tUndo) (a1:Ty.D tUndo):z1O.f k a0 a1=bnd (z0I.f k a0.1 a1.1) fun r0=>br (bnot (ieq r0 0)) (bnd (z0I.f k a0.1 a1.1) fun r1=>some r1) (bnd (z24.f k a0.2 a1.2) fun r2=>some r2):=by kernel_rfl
def z1O.e (k:Nat):Entry:=Sg.entry z1O.sg fun x=>z1O.f k x.1 x.2
theorem z1O.ok (k:Nat):CallOK Tryz.prog 220 (z1O.e k):=fn_ok (c:=z1O.cx k) (code:=z1O.body) (TT.of tt_ok pp_ok mm_ok) (fns_ok ⟨(z0I.ok k),(z24.ok k),trivial⟩) mixed Tryz.func220 (by kernel_rfl) (by kernel_rfl) (by kernel_rfl) (by kernel_rfl) (by kernel_rfl) (by kernel_rfl) (fun x=>by kernel_rfl)
def z1V.body:Go.Code:=Tryz.f170.body.getD .skip
def z1V.rs:List Go.ResultVar:=Tryz.f170.results.toList
def z1V.regs:List (Nat × RInfo):=[(0,ri [0] []),(1,ri [0,3] []),(2,⟨[0,3,7],[],[],[],0,[0,3],[],[],[],[]⟩),(4,ri [0,3,32] []),(5,ri [2] []),(6,rq [0,3,47] [] 15),(7,ri [2] []),(3,ri [0,3] []),(8,ri [2] [])]
def z1V.cx (k:Nat):Cx:=⟨tt,pp,[(77,(z18.e k)),(220,(z1O.e k))],z1V.regs,k,mm⟩
@[reducible] def z1V.sg:Sg:=⟨[.dat (.slc tUndo)],[],.dat .bool,[]⟩
def z1V.f (k:Nat) (a0:Ty.D (.slc tUndo)):Option (Sg.Out z1V.sg):=Sg.fn z1V.sg (z1V.cx k) z1V.body z1V.rs a0
def z1V.l2 (k:Nat) (n:Nat) (x0:Ty.D (.slc tUndo)) (x3:Ty.D (.int .i64)):Option (Sg.Out z1V.sg):=loopAt (z1V.cx k) z1V.body [1,0,1,0] 2 [0,3] [] [] (Sg.K z1V.sg (z1V.cx k) z1V.rs) n ⟨[(0,.dat (.slc tUndo) x0),(3,.dat (.int .i64) x3)],[]⟩
theorem z1V.f_eq (k:Nat) (a0:Ty.D (.slc tUndo)):z1V.f k a0=z1V.l2 k k a0 0:=by kernel_rfl
theorem z1V.l2_eq (k:Nat) (n2:Nat) (x0:Ty.D (.slc tUndo)) (x3:Ty.D (.int .i64)):z1V.l2 k (n2+1) x0 x3=br (ilt x3 (ilen x0)) (br (inL x3 x0) (bnd (z18.f k ((rd tUndo x0 (natOf x3)).1)) fun r0=>br (bnot r0) (some false) (br (inL x3 x0) (br (ilt ((rd tUndo x0 (natOf x3)).2) 0) (some false) (br (inL x3 x0) (br (ilt 15 ((rd tUndo x0 (natOf x3)).2)) (some false) (br (ilt 0 x3) (br (inL (isub .i64 x3 1) x0) (br (inL x3 x0) (bnd (z1O.f k (rd tUndo x0 (natOf (isub .i64 x3 1))) (rd tUndo x0 (natOf x3))) fun r1=>br (bnot (ieq r1 (-1))) (some false) (z1V.l2 k n2 x0 (iadd .i64 x3 1))) none) none) (z1V.l2 k n2 x0 (iadd .i64 x3 1)))) none)) none)) none) (some true):=by kernel_rfl
def z1V.e (k:Nat):Entry:=Sg.entry z1V.sg fun x=>z1V.f k x
theorem z1V.ok (k:Nat):CallOK Tryz.prog 170 (z1V.e k):=fn_ok (c:=z1V.cx k) (code:=z1V.body) (TT.of tt_ok pp_ok mm_ok) (fns_ok ⟨(z18.ok k),(z1O.ok k),trivial⟩) mixed Tryz.func170 (by kernel_rfl) (by kernel_rfl) (by kernel_rfl) (by kernel_rfl) (by kernel_rfl) (by kernel_rfl) (fun x=>by kernel_rfl)
def z13.body:Go.Code:=Tryz.f115.body.getD .skip
def z13.rs:List Go.ResultVar:=Tryz.f115.results.toList
def z13.regs:List (Nat × RInfo):=[(0,⟨[1],[1],[0],[],0,[],[],[],[],[]⟩),(1,ri [1,12] [1]),(2,ri [2] [15]),(3,ri [1,3] [1,15]),(4,ri [1,3,17] [1,15]),(5,ri [2] [15]),(6,ri [1,4] [1,4]),(7,ri [1,33] [1]),(8,ri [2] [15]),(9,ri [1,47] [1]),(10,ri [2] [15]),(11,ri [1,75] [1]),(12,ri [2] [15]),(13,ri [1,89] [1]),(14,ri [2] [15]),(15,ri [1,93] [1]),(16,ri [2] [15]),(17,ri [97] []),(18,ri [2] [15]),(19,ri [2] [15])]
def z13.cx (k:Nat):Cx:=⟨tt,pp,[(168,(z1h.e k)),(169,(z1k.e k)),(170,(z1V.e k))],z13.regs,k,mm⟩
@[reducible] def z13.sg:Sg:=⟨[.dat tOp],[],.dat (.int .i64),[]⟩
def z13.f (k:Nat) (a0:Ty.D tOp):Option (Sg.Out z13.sg):=Sg.fn z13.sg (z13.cx k) z13.body z13.rs a0
theorem z13.f_eq (k:Nat) (a0:Ty.D tOp):z13.f k a0=br (ilt a0.1 1) (some 18) (br (ilt 5 a0.1) (some 18) (bnd (z1h.f k a0.2.1) fun r0=>br (bnot (ieq r0 0)) (some r0) (br (ieq a0.1 3) (br (bnot (deq tValue a0.2.2.1 (0,(0,[])))) (some 2) (br (bnot (ieq a0.1 3)) (br (bnot (ieq a0.1 5)) (bnd (z1k.f k a0.2.2.1) fun r1=>br (bnot r1) (some 2) (br (bnot (ieq a0.1 3)) (br (bnot (ieq a0.2.2.2.1 0)) (some 2) (br (ieq a0.1 3) (br (ieq a0.2.2.2.1 0) (some 2) (br (ilt 2147483647 a0.2.2.2.1) (some 2) (br (ilt a0.2.2.2.1 (-2147483647)) (some 2) (br (ieq a0.1 2) (br (ilt 0 (ilen a0.2.2.2.2)) (some 2) (br (ilt 256 (ilen a0.2.2.2.2)) (some 7) (bnd (z1V.f k a0.2.2.2.2) fun r2=>br (bnot r2) (some 2) (some 0)))) (br (ieq a0.1 3) (br (ilt 0 (ilen a0.2.2.2.2)) (some 2) (br (ilt 256 (ilen a0.2.2.2.2)) (some 7) (bnd (z1V.f k a0.2.2.2.2) fun r3=>br (bnot r3) (some 2) (some 0)))) (br (ilt 256 (ilen a0.2.2.2.2)) (some 7) (bnd (z1V.f k a0.2.2.2.2) fun r4=>br (bnot r4) (some 2) (some 0)))))))) (br (ieq a0.1 2) (br (ilt 0 (ilen a0.2.2.2.2)) (some 2) (br (ilt 256 (ilen a0.2.2.2.2)) (some 7) (bnd (z1V.f k a0.2.2.2.2) fun r5=>br (bnot r5) (some 2) (some 0)))) (br (ieq a0.1 3) (br (ilt 0 (ilen a0.2.2.2.2)) (some 2) (br (ilt 256 (ilen a0.2.2.2.2)) (some 7) (bnd (z1V.f k a0.2.2.2.2) fun r6=>br (bnot r6) (some 2) (some 0)))) (br (ilt 256 (ilen a0.2.2.2.2)) (some 7) (bnd (z1V.f k a0.2.2.2.2) fun r7=>br (bnot r7) (some 2) (some 0))))))) (br (ieq a0.1 3) (br (ieq a0.2.2.2.1 0) (some 2) (br (ilt 2147483647 a0.2.2.2.1) (some 2) (br (ilt a0.2.2.2.1 (-2147483647)) (some 2) (br (ieq a0.1 2) (br (ilt 0 (ilen a0.2.2.2.2)) (some 2) (br (ilt 256 (ilen a0.2.2.2.2)) (some 7) (bnd (z1V.f k a0.2.2.2.2) fun r8=>br (bnot r8) (some 2) (some 0)))) (br (ieq a0.1 3) (br (ilt 0 (ilen a0.2.2.2.2)) (some 2) (br (ilt 256 (ilen a0.2.2.2.2)) (some 7) (bnd (z1V.f k a0.2.2.2.2) fun r9=>br (bnot r9) (some 2) (some 0)))) (br (ilt 256 (ilen a0.2.2.2.2)) (some 7) (bnd (z1V.f k a0.2.2.2.2) fun r10=>br (bnot r10) (some 2) (some 0)))))))) (br (ieq a0.1 2) (br (ilt 0 (ilen a0.2.2.2.2)) (some 2) (br (ilt 256 (ilen a0.2.2.2.2)) (some 7) (bnd (z1V.f k a0.2.2.2.2) fun r11=>br (bnot r11) (some 2) (some 0)))) (br (ieq a0.1 3) (br (ilt 0 (ilen a0.2.2.2.2)) (some 2) (br (ilt 256 (ilen a0.2.2.2.2)) (some 7) (bnd (z1V.f k a0.2.2.2.2) fun r12=>br (bnot r12) (some 2) (some 0)))) (br (ilt 256 (ilen a0.2.2.2.2)) (some 7) (bnd (z1V.f k a0.2.2.2.2) fun r13=>br (bnot r13) (some 2) (some 0)))))))) (br (bnot (ieq a0.1 3)) (br (bnot (ieq a0.2.2.2.1 0)) (some 2) (br (ieq a0.1 3) (br (ieq a0.2.2.2.1 0) (some 2) (br (ilt 2147483647 a0.2.2.2.1) (some 2) (br (ilt a0.2.2.2.1 (-2147483647)) (some 2) (br (ieq a0.1 2) (br (ilt 0 (ilen a0.2.2.2.2)) (some 2) (br (ilt 256 (ilen a0.2.2.2.2)) (some 7) (bnd (z1V.f k a0.2.2.2.2) fun r14=>br (bnot r14) (some 2) (some 0)))) (br (ieq a0.1 3) (br (ilt 0 (ilen a0.2.2.2.2)) (some 2) (br (ilt 256 (ilen a0.2.2.2.2)) (some 7) (bnd (z1V.f k a0.2.2.2.2) fun r15=>br (bnot r15) (some 2) (some 0)))) (br (ilt 256 (ilen a0.2.2.2.2)) (some 7) (bnd (z1V.f k a0.2.2.2.2) fun r16=>br (bnot r16) (some 2) (some 0)))))))) (br (ieq a0.1 2) (br (ilt 0 (ilen a0.2.2.2.2)) (some 2) (br (ilt 256 (ilen a0.2.2.2.2)) (some 7) (bnd (z1V.f k a0.2.2.2.2) fun r17=>br (bnot r17) (some 2) (some 0)))) (br (ieq a0.1 3) (br (ilt 0 (ilen a0.2.2.2.2)) (some 2) (br (ilt 256 (ilen a0.2.2.2.2)) (some 7) (bnd (z1V.f k a0.2.2.2.2) fun r18=>br (bnot r18) (some 2) (some 0)))) (br (ilt 256 (ilen a0.2.2.2.2)) (some 7) (bnd (z1V.f k a0.2.2.2.2) fun r19=>br (bnot r19) (some 2) (some 0))))))) (br (ieq a0.1 3) (br (ieq a0.2.2.2.1 0) (some 2) (br (ilt 2147483647 a0.2.2.2.1) (some 2) (br (ilt a0.2.2.2.1 (-2147483647)) (some 2) (br (ieq a0.1 2) (br (ilt 0 (ilen a0.2.2.2.2)) (some 2) (br (ilt 256 (ilen a0.2.2.2.2)) (some 7) (bnd (z1V.f k a0.2.2.2.2) fun r20=>br (bnot r20) (some 2) (some 0)))) (br (ieq a0.1 3) (br (ilt 0 (ilen a0.2.2.2.2)) (some 2) (br (ilt 256 (ilen a0.2.2.2.2)) (some 7) (bnd (z1V.f k a0.2.2.2.2) fun r21=>br (bnot r21) (some 2) (some 0)))) (br (ilt 256 (ilen a0.2.2.2.2)) (some 7) (bnd (z1V.f k a0.2.2.2.2) fun r22=>br (bnot r22) (some 2) (some 0)))))))) (br (ieq a0.1 2) (br (ilt 0 (ilen a0.2.2.2.2)) (some 2) (br (ilt 256 (ilen a0.2.2.2.2)) (some 7) (bnd (z1V.f k a0.2.2.2.2) fun r23=>br (bnot r23) (some 2) (some 0)))) (br (ieq a0.1 3) (br (ilt 0 (ilen a0.2.2.2.2)) (some 2) (br (ilt 256 (ilen a0.2.2.2.2)) (some 7) (bnd (z1V.f k a0.2.2.2.2) fun r24=>br (bnot r24) (some 2) (some 0)))) (br (ilt 256 (ilen a0.2.2.2.2)) (some 7) (bnd (z1V.f k a0.2.2.2.2) fun r25=>br (bnot r25) (some 2) (some 0)))))))) (br (bnot (ieq a0.1 3)) (br (bnot (ieq a0.2.2.2.1 0)) (some 2) (br (ieq a0.1 3) (br (ieq a0.2.2.2.1 0) (some 2) (br (ilt 2147483647 a0.2.2.2.1) (some 2) (br (ilt a0.2.2.2.1 (-2147483647)) (some 2) (br (ieq a0.1 2) (br (ilt 0 (ilen a0.2.2.2.2)) (some 2) (br (ilt 256 (ilen a0.2.2.2.2)) (some 7) (bnd (z1V.f k a0.2.2.2.2) fun r26=>br (bnot r26) (some 2) (some 0)))) (br (ieq a0.1 3) (br (ilt 0 (ilen a0.2.2.2.2)) (some 2) (br (ilt 256 (ilen a0.2.2.2.2)) (some 7) (bnd (z1V.f k a0.2.2.2.2) fun r27=>br (bnot r27) (some 2) (some 0)))) (br (ilt 256 (ilen a0.2.2.2.2)) (some 7) (bnd (z1V.f k a0.2.2.2.2) fun r28=>br (bnot r28) (some 2) (some 0)))))))) (br (ieq a0.1 2) (br (ilt 0 (ilen a0.2.2.2.2)) (some 2) (br (ilt 256 (ilen a0.2.2.2.2)) (some 7) (bnd (z1V.f k a0.2.2.2.2) fun r29=>br (bnot r29) (some 2) (some 0)))) (br (ieq a0.1 3) (br (ilt 0 (ilen a0.2.2.2.2)) (some 2) (br (ilt 256 (ilen a0.2.2.2.2)) (some 7) (bnd (z1V.f k a0.2.2.2.2) fun r30=>br (bnot r30) (some 2) (some 0)))) (br (ilt 256 (ilen a0.2.2.2.2)) (some 7) (bnd (z1V.f k a0.2.2.2.2) fun r31=>br (bnot r31) (some 2) (some 0))))))) (br (ieq a0.1 3) (br (ieq a0.2.2.2.1 0) (some 2) (br (ilt 2147483647 a0.2.2.2.1) (some 2) (br (ilt a0.2.2.2.1 (-2147483647)) (some 2) (br (ieq a0.1 2) (br (ilt 0 (ilen a0.2.2.2.2)) (some 2) (br (ilt 256 (ilen a0.2.2.2.2)) (some 7) (bnd (z1V.f k a0.2.2.2.2) fun r32=>br (bnot r32) (some 2) (some 0)))) (br (ieq a0.1 3) (br (ilt 0 (ilen a0.2.2.2.2)) (some 2) (br (ilt 256 (ilen a0.2.2.2.2)) (some 7) (bnd (z1V.f k a0.2.2.2.2) fun r33=>br (bnot r33) (some 2) (some 0)))) (br (ilt 256 (ilen a0.2.2.2.2)) (some 7) (bnd (z1V.f k a0.2.2.2.2) fun r34=>br (bnot r34) (some 2) (some 0)))))))) (br (ieq a0.1 2) (br (ilt 0 (ilen a0.2.2.2.2)) (some 2) (br (ilt 256 (ilen a0.2.2.2.2)) (some 7) (bnd (z1V.f k a0.2.2.2.2) fun r35=>br (bnot r35) (some 2) (some 0)))) (br (ieq a0.1 3) (br (ilt 0 (ilen a0.2.2.2.2)) (some 2) (br (ilt 256 (ilen a0.2.2.2.2)) (some 7) (bnd (z1V.f k a0.2.2.2.2) fun r36=>br (bnot r36) (some 2) (some 0)))) (br (ilt 256 (ilen a0.2.2.2.2)) (some 7) (bnd (z1V.f k a0.2.2.2.2) fun r37=>br (bnot r37) (some 2) (some 0))))))))) (br (ieq a0.1 5) (br (bnot (deq tValue a0.2.2.1 (0,(0,[])))) (some 2) (br (bnot (ieq a0.1 3)) (br (bnot (ieq a0.1 5)) (bnd (z1k.f k a0.2.2.1) fun r38=>br (bnot r38) (some 2) (br (bnot (ieq a0.1 3)) (br (bnot (ieq a0.2.2.2.1 0)) (some 2) (br (ieq a0.1 3) (br (ieq a0.2.2.2.1 0) (some 2) (br (ilt 2147483647 a0.2.2.2.1) (some 2) (br (ilt a0.2.2.2.1 (-2147483647)) (some 2) (br (ieq a0.1 2) (br (ilt 0 (ilen a0.2.2.2.2)) (some 2) (br (ilt 256 (ilen a0.2.2.2.2)) (some 7) (bnd (z1V.f k a0.2.2.2.2) fun r39=>br (bnot r39) (some 2) (some 0)))) (br (ieq a0.1 3) (br (ilt 0 (ilen a0.2.2.2.2)) (some 2) (br (ilt 256 (ilen a0.2.2.2.2)) (some 7) (bnd (z1V.f k a0.2.2.2.2) fun r40=>br (bnot r40) (some 2) (some 0)))) (br (ilt 256 (ilen a0.2.2.2.2)) (some 7) (bnd (z1V.f k a0.2.2.2.2) fun r41=>br (bnot r41) (some 2) (some 0)))))))) (br (ieq a0.1 2) (br (ilt 0 (ilen a0.2.2.2.2)) (some 2) (br (ilt 256 (ilen a0.2.2.2.2)) (some 7) (bnd (z1V.f k a0.2.2.2.2) fun r42=>br (bnot r42) (some 2) (some 0)))) (br (ieq a0.1 3) (br (ilt 0 (ilen a0.2.2.2.2)) (some 2) (br (ilt 256 (ilen a0.2.2.2.2)) (some 7) (bnd (z1V.f k a0.2.2.2.2) fun r43=>br (bnot r43) (some 2) (some 0)))) (br (ilt 256 (ilen a0.2.2.2.2)) (some 7) (bnd (z1V.f k a0.2.2.2.2) fun r44=>br (bnot r44) (some 2) (some 0))))))) (br (ieq a0.1 3) (br (ieq a0.2.2.2.1 0) (some 2) (br (ilt 2147483647 a0.2.2.2.1) (some 2) (br (ilt a0.2.2.2.1 (-2147483647)) (some 2) (br (ieq a0.1 2) (br (ilt 0 (ilen a0.2.2.2.2)) (some 2) (br (ilt 256 (ilen a0.2.2.2.2)) (some 7) (bnd (z1V.f k a0.2.2.2.2) fun r45=>br (bnot r45) (some 2) (some 0)))) (br (ieq a0.1 3) (br (ilt 0 (ilen a0.2.2.2.2)) (some 2) (br (ilt 256 (ilen a0.2.2.2.2)) (some 7) (bnd (z1V.f k a0.2.2.2.2) fun r46=>br (bnot r46) (some 2) (some 0)))) (br (ilt 256 (ilen a0.2.2.2.2)) (some 7) (bnd (z1V.f k a0.2.2.2.2) fun r47=>br (bnot r47) (some 2) (some 0)))))))) (br (ieq a0.1 2) (br (ilt 0 (ilen a0.2.2.2.2)) (some 2) (br (ilt 256 (ilen a0.2.2.2.2)) (some 7) (bnd (z1V.f k a0.2.2.2.2) fun r48=>br (bnot r48) (some 2) (some 0)))) (br (ieq a0.1 3) (br (ilt 0 (ilen a0.2.2.2.2)) (some 2) (br (ilt 256 (ilen a0.2.2.2.2)) (some 7) (bnd (z1V.f k a0.2.2.2.2) fun r49=>br (bnot r49) (some 2) (some 0)))) (br (ilt 256 (ilen a0.2.2.2.2)) (some 7) (bnd (z1V.f k a0.2.2.2.2) fun r50=>br (bnot r50) (some 2) (some 0)))))))) (br (bnot (ieq a0.1 3)) (br (bnot (ieq a0.2.2.2.1 0)) (some 2) (br (ieq a0.1 3) (br (ieq a0.2.2.2.1 0) (some 2) (br (ilt 2147483647 a0.2.2.2.1) (some 2) (br (ilt a0.2.2.2.1 (-2147483647)) (some 2) (br (ieq a0.1 2) (br (ilt 0 (ilen a0.2.2.2.2)) (some 2) (br (ilt 256 (ilen a0.2.2.2.2)) (some 7) (bnd (z1V.f k a0.2.2.2.2) fun r51=>br (bnot r51) (some 2) (some 0)))) (br (ieq a0.1 3) (br (ilt 0 (ilen a0.2.2.2.2)) (some 2) (br (ilt 256 (ilen a0.2.2.2.2)) (some 7) (bnd (z1V.f k a0.2.2.2.2) fun r52=>br (bnot r52) (some 2) (some 0)))) (br (ilt 256 (ilen a0.2.2.2.2)) (some 7) (bnd (z1V.f k a0.2.2.2.2) fun r53=>br (bnot r53) (some 2) (some 0)))))))) (br (ieq a0.1 2) (br (ilt 0 (ilen a0.2.2.2.2)) (some 2) (br (ilt 256 (ilen a0.2.2.2.2)) (some 7) (bnd (z1V.f k a0.2.2.2.2) fun r54=>br (bnot r54) (some 2) (some 0)))) (br (ieq a0.1 3) (br (ilt 0 (ilen a0.2.2.2.2)) (some 2) (br (ilt 256 (ilen a0.2.2.2.2)) (some 7) (bnd (z1V.f k a0.2.2.2.2) fun r55=>br (bnot r55) (some 2) (some 0)))) (br (ilt 256 (ilen a0.2.2.2.2)) (some 7) (bnd (z1V.f k a0.2.2.2.2) fun r56=>br (bnot r56) (some 2) (some 0))))))) (br (ieq a0.1 3) (br (ieq a0.2.2.2.1 0) (some 2) (br (ilt 2147483647 a0.2.2.2.1) (some 2) (br (ilt a0.2.2.2.1 (-2147483647)) (some 2) (br (ieq a0.1 2) (br (ilt 0 (ilen a0.2.2.2.2)) (some 2) (br (ilt 256 (ilen a0.2.2.2.2)) (some 7) (bnd (z1V.f k a0.2.2.2.2) fun r57=>br (bnot r57) (some 2) (some 0)))) (br (ieq a0.1 3) (br (ilt 0 (ilen a0.2.2.2.2)) (some 2) (br (ilt 256 (ilen a0.2.2.2.2)) (some 7) (bnd (z1V.f k a0.2.2.2.2) fun r58=>br (bnot r58) (some 2) (some 0)))) (br (ilt 256 (ilen a0.2.2.2.2)) (some 7) (bnd (z1V.f k a0.2.2.2.2) fun r59=>br (bnot r59) (some 2) (some 0)))))))) (br (ieq a0.1 2) (br (ilt 0 (ilen a0.2.2.2.2)) (some 2) (br (ilt 256 (ilen a0.2.2.2.2)) (some 7) (bnd (z1V.f k a0.2.2.2.2) fun r60=>br (bnot r60) (some 2) (some 0)))) (br (ieq a0.1 3) (br (ilt 0 (ilen a0.2.2.2.2)) (some 2) (br (ilt 256 (ilen a0.2.2.2.2)) (some 7) (bnd (z1V.f k a0.2.2.2.2) fun r61=>br (bnot r61) (some 2) (some 0)))) (br (ilt 256 (ilen a0.2.2.2.2)) (some 7) (bnd (z1V.f k a0.2.2.2.2) fun r62=>br (bnot r62) (some 2) (some 0)))))))) (br (bnot (ieq a0.1 3)) (br (bnot (ieq a0.2.2.2.1 0)) (some 2) (br (ieq a0.1 3) (br (ieq a0.2.2.2.1 0) (some 2) (br (ilt 2147483647 a0.2.2.2.1) (some 2) (br (ilt a0.2.2.2.1 (-2147483647)) (some 2) (br (ieq a0.1 2) (br (ilt 0 (ilen a0.2.2.2.2)) (some 2) (br (ilt 256 (ilen a0.2.2.2.2)) (some 7) (bnd (z1V.f k a0.2.2.2.2) fun r63=>br (bnot r63) (some 2) (some 0)))) (br (ieq a0.1 3) (br (ilt 0 (ilen a0.2.2.2.2)) (some 2) (br (ilt 256 (ilen a0.2.2.2.2)) (some 7) (bnd (z1V.f k a0.2.2.2.2) fun r64=>br (bnot r64) (some 2) (some 0)))) (br (ilt 256 (ilen a0.2.2.2.2)) (some 7) (bnd (z1V.f k a0.2.2.2.2) fun r65=>br (bnot r65) (some 2) (some 0)))))))) (br (ieq a0.1 2) (br (ilt 0 (ilen a0.2.2.2.2)) (some 2) (br (ilt 256 (ilen a0.2.2.2.2)) (some 7) (bnd (z1V.f k a0.2.2.2.2) fun r66=>br (bnot r66) (some 2) (some 0)))) (br (ieq a0.1 3) (br (ilt 0 (ilen a0.2.2.2.2)) (some 2) (br (ilt 256 (ilen a0.2.2.2.2)) (some 7) (bnd (z1V.f k a0.2.2.2.2) fun r67=>br (bnot r67) (some 2) (some 0)))) (br (ilt 256 (ilen a0.2.2.2.2)) (some 7) (bnd (z1V.f k a0.2.2.2.2) fun r68=>br (bnot r68) (some 2) (some 0))))))) (br (ieq a0.1 3) (br (ieq a0.2.2.2.1 0) (some 2) (br (ilt 2147483647 a0.2.2.2.1) (some 2) (br (ilt a0.2.2.2.1 (-2147483647)) (some 2) (br (ieq a0.1 2) (br (ilt 0 (ilen a0.2.2.2.2)) (some 2) (br (ilt 256 (ilen a0.2.2.2.2)) (some 7) (bnd (z1V.f k a0.2.2.2.2) fun r69=>br (bnot r69) (some 2) (some 0)))) (br (ieq a0.1 3) (br (ilt 0 (ilen a0.2.2.2.2)) (some 2) (br (ilt 256 (ilen a0.2.2.2.2)) (some 7) (bnd (z1V.f k a0.2.2.2.2) fun r70=>br (bnot r70) (some 2) (some 0)))) (br (ilt 256 (ilen a0.2.2.2.2)) (some 7) (bnd (z1V.f k a0.2.2.2.2) fun r71=>br (bnot r71) (some 2) (some 0)))))))) (br (ieq a0.1 2) (br (ilt 0 (ilen a0.2.2.2.2)) (some 2) (br (ilt 256 (ilen a0.2.2.2.2)) (some 7) (bnd (z1V.f k a0.2.2.2.2) fun r72=>br (bnot r72) (some 2) (some 0)))) (br (ieq a0.1 3) (br (ilt 0 (ilen a0.2.2.2.2)) (some 2) (br (ilt 256 (ilen a0.2.2.2.2)) (some 7) (bnd (z1V.f k a0.2.2.2.2) fun r73=>br (bnot r73) (some 2) (some 0)))) (br (ilt 256 (ilen a0.2.2.2.2)) (some 7) (bnd (z1V.f k a0.2.2.2.2) fun r74=>br (bnot r74) (some 2) (some 0))))))))) (br (bnot (ieq a0.1 3)) (br (bnot (ieq a0.1 5)) (bnd (z1k.f k a0.2.2.1) fun r75=>br (bnot r75) (some 2) (br (bnot (ieq a0.1 3)) (br (bnot (ieq a0.2.2.2.1 0)) (some 2) (br (ieq a0.1 3) (br (ieq a0.2.2.2.1 0) (some 2) (br (ilt 2147483647 a0.2.2.2.1) (some 2) (br (ilt a0.2.2.2.1 (-2147483647)) (some 2) (br (ieq a0.1 2) (br (ilt 0 (ilen a0.2.2.2.2)) (some 2) (br (ilt 256 (ilen a0.2.2.2.2)) (some 7) (bnd (z1V.f k a0.2.2.2.2) fun r76=>br (bnot r76) (some 2) (some 0)))) (br (ieq a0.1 3) (br (ilt 0 (ilen a0.2.2.2.2)) (some 2) (br (ilt 256 (ilen a0.2.2.2.2)) (some 7) (bnd (z1V.f k a0.2.2.2.2) fun r77=>br (bnot r77) (some 2) (some 0)))) (br (ilt 256 (ilen a0.2.2.2.2)) (some 7) (bnd (z1V.f k a0.2.2.2.2) fun r78=>br (bnot r78) (some 2) (some 0)))))))) (br (ieq a0.1 2) (br (ilt 0 (ilen a0.2.2.2.2)) (some 2) (br (ilt 256 (ilen a0.2.2.2.2)) (some 7) (bnd (z1V.f k a0.2.2.2.2) fun r79=>br (bnot r79) (some 2) (some 0)))) (br (ieq a0.1 3) (br (ilt 0 (ilen a0.2.2.2.2)) (some 2) (br (ilt 256 (ilen a0.2.2.2.2)) (some 7) (bnd (z1V.f k a0.2.2.2.2) fun r80=>br (bnot r80) (some 2) (some 0)))) (br (ilt 256 (ilen a0.2.2.2.2)) (some 7) (bnd (z1V.f k a0.2.2.2.2) fun r81=>br (bnot r81) (some 2) (some 0))))))) (br (ieq a0.1 3) (br (ieq a0.2.2.2.1 0) (some 2) (br (ilt 2147483647 a0.2.2.2.1) (some 2) (br (ilt a0.2.2.2.1 (-2147483647)) (some 2) (br (ieq a0.1 2) (br (ilt 0 (ilen a0.2.2.2.2)) (some 2) (br (ilt 256 (ilen a0.2.2.2.2)) (some 7) (bnd (z1V.f k a0.2.2.2.2) fun r82=>br (bnot r82) (some 2) (some 0)))) (br (ieq a0.1 3) (br (ilt 0 (ilen a0.2.2.2.2)) (some 2) (br (ilt 256 (ilen a0.2.2.2.2)) (some 7) (bnd (z1V.f k a0.2.2.2.2) fun r83=>br (bnot r83) (some 2) (some 0)))) (br (ilt 256 (ilen a0.2.2.2.2)) (some 7) (bnd (z1V.f k a0.2.2.2.2) fun r84=>br (bnot r84) (some 2) (some 0)))))))) (br (ieq a0.1 2) (br (ilt 0 (ilen a0.2.2.2.2)) (some 2) (br (ilt 256 (ilen a0.2.2.2.2)) (some 7) (bnd (z1V.f k a0.2.2.2.2) fun r85=>br (bnot r85) (some 2) (some 0)))) (br (ieq a0.1 3) (br (ilt 0 (ilen a0.2.2.2.2)) (some 2) (br (ilt 256 (ilen a0.2.2.2.2)) (some 7) (bnd (z1V.f k a0.2.2.2.2) fun r86=>br (bnot r86) (some 2) (some 0)))) (br (ilt 256 (ilen a0.2.2.2.2)) (some 7) (bnd (z1V.f k a0.2.2.2.2) fun r87=>br (bnot r87) (some 2) (some 0)))))))) (br (bnot (ieq a0.1 3)) (br (bnot (ieq a0.2.2.2.1 0)) (some 2) (br (ieq a0.1 3) (br (ieq a0.2.2.2.1 0) (some 2) (br (ilt 2147483647 a0.2.2.2.1) (some 2) (br (ilt a0.2.2.2.1 (-2147483647)) (some 2) (br (ieq a0.1 2) (br (ilt 0 (ilen a0.2.2.2.2)) (some 2) (br (ilt 256 (ilen a0.2.2.2.2)) (some 7) (bnd (z1V.f k a0.2.2.2.2) fun r88=>br (bnot r88) (some 2) (some 0)))) (br (ieq a0.1 3) (br (ilt 0 (ilen a0.2.2.2.2)) (some 2) (br (ilt 256 (ilen a0.2.2.2.2)) (some 7) (bnd (z1V.f k a0.2.2.2.2) fun r89=>br (bnot r89) (some 2) (some 0)))) (br (ilt 256 (ilen a0.2.2.2.2)) (some 7) (bnd (z1V.f k a0.2.2.2.2) fun r90=>br (bnot r90) (some 2) (some 0)))))))) (br (ieq a0.1 2) (br (ilt 0 (ilen a0.2.2.2.2)) (some 2) (br (ilt 256 (ilen a0.2.2.2.2)) (some 7) (bnd (z1V.f k a0.2.2.2.2) fun r91=>br (bnot r91) (some 2) (some 0)))) (br (ieq a0.1 3) (br (ilt 0 (ilen a0.2.2.2.2)) (some 2) (br (ilt 256 (ilen a0.2.2.2.2)) (some 7) (bnd (z1V.f k a0.2.2.2.2) fun r92=>br (bnot r92) (some 2) (some 0)))) (br (ilt 256 (ilen a0.2.2.2.2)) (some 7) (bnd (z1V.f k a0.2.2.2.2) fun r93=>br (bnot r93) (some 2) (some 0))))))) (br (ieq a0.1 3) (br (ieq a0.2.2.2.1 0) (some 2) (br (ilt 2147483647 a0.2.2.2.1) (some 2) (br (ilt a0.2.2.2.1 (-2147483647)) (some 2) (br (ieq a0.1 2) (br (ilt 0 (ilen a0.2.2.2.2)) (some 2) (br (ilt 256 (ilen a0.2.2.2.2)) (some 7) (bnd (z1V.f k a0.2.2.2.2) fun r94=>br (bnot r94) (some 2) (some 0)))) (br (ieq a0.1 3) (br (ilt 0 (ilen a0.2.2.2.2)) (some 2) (br (ilt 256 (ilen a0.2.2.2.2)) (some 7) (bnd (z1V.f k a0.2.2.2.2) fun r95=>br (bnot r95) (some 2) (some 0)))) (br (ilt 256 (ilen a0.2.2.2.2)) (some 7) (bnd (z1V.f k a0.2.2.2.2) fun r96=>br (bnot r96) (some 2) (some 0)))))))) (br (ieq a0.1 2) (br (ilt 0 (ilen a0.2.2.2.2)) (some 2) (br (ilt 256 (ilen a0.2.2.2.2)) (some 7) (bnd (z1V.f k a0.2.2.2.2) fun r97=>br (bnot r97) (some 2) (some 0)))) (br (ieq a0.1 3) (br (ilt 0 (ilen a0.2.2.2.2)) (some 2) (br (ilt 256 (ilen a0.2.2.2.2)) (some 7) (bnd (z1V.f k a0.2.2.2.2) fun r98=>br (bnot r98) (some 2) (some 0)))) (br (ilt 256 (ilen a0.2.2.2.2)) (some 7) (bnd (z1V.f k a0.2.2.2.2) fun r99=>br (bnot r99) (some 2) (some 0)))))))) (br (bnot (ieq a0.1 3)) (br (bnot (ieq a0.2.2.2.1 0)) (some 2) (br (ieq a0.1 3) (br (ieq a0.2.2.2.1 0) (some 2) (br (ilt 2147483647 a0.2.2.2.1) (some 2) (br (ilt a0.2.2.2.1 (-2147483647)) (some 2) (br (ieq a0.1 2) (br (ilt 0 (ilen a0.2.2.2.2)) (some 2) (br (ilt 256 (ilen a0.2.2.2.2)) (some 7) (bnd (z1V.f k a0.2.2.2.2) fun r100=>br (bnot r100) (some 2) (some 0)))) (br (ieq a0.1 3) (br (ilt 0 (ilen a0.2.2.2.2)) (some 2) (br (ilt 256 (ilen a0.2.2.2.2)) (some 7) (bnd (z1V.f k a0.2.2.2.2) fun r101=>br (bnot r101) (some 2) (some 0)))) (br (ilt 256 (ilen a0.2.2.2.2)) (some 7) (bnd (z1V.f k a0.2.2.2.2) fun r102=>br (bnot r102) (some 2) (some 0)))))))) (br (ieq a0.1 2) (br (ilt 0 (ilen a0.2.2.2.2)) (some 2) (br (ilt 256 (ilen a0.2.2.2.2)) (some 7) (bnd (z1V.f k a0.2.2.2.2) fun r103=>br (bnot r103) (some 2) (some 0)))) (br (ieq a0.1 3) (br (ilt 0 (ilen a0.2.2.2.2)) (some 2) (br (ilt 256 (ilen a0.2.2.2.2)) (some 7) (bnd (z1V.f k a0.2.2.2.2) fun r104=>br (bnot r104) (some 2) (some 0)))) (br (ilt 256 (ilen a0.2.2.2.2)) (some 7) (bnd (z1V.f k a0.2.2.2.2) fun r105=>br (bnot r105) (some 2) (some 0))))))) (br (ieq a0.1 3) (br (ieq a0.2.2.2.1 0) (some 2) (br (ilt 2147483647 a0.2.2.2.1) (some 2) (br (ilt a0.2.2.2.1 (-2147483647)) (some 2) (br (ieq a0.1 2) (br (ilt 0 (ilen a0.2.2.2.2)) (some 2) (br (ilt 256 (ilen a0.2.2.2.2)) (some 7) (bnd (z1V.f k a0.2.2.2.2) fun r106=>br (bnot r106) (some 2) (some 0)))) (br (ieq a0.1 3) (br (ilt 0 (ilen a0.2.2.2.2)) (some 2) (br (ilt 256 (ilen a0.2.2.2.2)) (some 7) (bnd (z1V.f k a0.2.2.2.2) fun r107=>br (bnot r107) (some 2) (some 0)))) (br (ilt 256 (ilen a0.2.2.2.2)) (some 7) (bnd (z1V.f k a0.2.2.2.2) fun r108=>br (bnot r108) (some 2) (some 0)))))))) (br (ieq a0.1 2) (br (ilt 0 (ilen a0.2.2.2.2)) (some 2) (br (ilt 256 (ilen a0.2.2.2.2)) (some 7) (bnd (z1V.f k a0.2.2.2.2) fun r109=>br (bnot r109) (some 2) (some 0)))) (br (ieq a0.1 3) (br (ilt 0 (ilen a0.2.2.2.2)) (some 2) (br (ilt 256 (ilen a0.2.2.2.2)) (some 7) (bnd (z1V.f k a0.2.2.2.2) fun r110=>br (bnot r110) (some 2) (some 0)))) (br (ilt 256 (ilen a0.2.2.2.2)) (some 7) (bnd (z1V.f k a0.2.2.2.2) fun r111=>br (bnot r111) (some 2) (some 0)))))))))))):=by kernel_rfl
def z13.e (k:Nat):Entry:=Sg.entry z13.sg fun x=>z13.f k x
theorem z13.ok (k:Nat):CallOK Tryz.prog 115 (z13.e k):=fn_ok (c:=z13.cx k) (code:=z13.body) (TT.of tt_ok pp_ok mm_ok) (fns_ok ⟨(z1h.ok k),(z1k.ok k),(z1V.ok k),trivial⟩) mixed Tryz.func115 (by kernel_rfl) (by kernel_rfl) (by kernel_rfl) (by kernel_rfl) (by kernel_rfl) (by kernel_rfl) (fun x=>by kernel_rfl)
def z1x.body:Go.Code:=Tryz.f164.body.getD .skip
def z1x.rs:List Go.ResultVar:=Tryz.f164.results.toList
def z1x.regs:List (Nat × RInfo):=[(0,ri [0,2] [2,1000000]),(1,⟨[0,2,3],[2,3,1000000],[2],[],0,[],[],[],[],[]⟩),(2,ri [0,2,3] [2,3,1000000]),(3,ri [0,2,3,13] [2,3,1000000]),(4,⟨[2],[2,1000000],[1],[],0,[],[],[],[],[]⟩),(5,⟨[0,2,3],[2,3,1000000],[3],[],0,[],[],[],[],[]⟩),(6,ri [0,2,3,20] [2,3,1000000]),(7,ri [0,2,3] [2,3,1000000]),(8,ri [0,2,3,37] [2,3,1000000]),(9,ri [0,2,3] [2,3,1000000]),(10,ri [0,2,3,53] [2,3,1000000]),(11,ri [0,2,3,4] [2,3,55,1000000]),(12,ri [0,2,3,4,5] [2,3,55,1000000]),(13,⟨[0,2,3,4,5,58],[2,3,55,1000000],[],[],0,[0,2,3,4,5],[2,3,55,1000000],[],[],[]⟩),(15,ri [0,2,3,4,5,6] [2,3,6,55,1000000]),(16,⟨[0,2,3,4,5],[2,3,55,1000000],[1,7,9],[],8,[],[],[],[[],[],[],[],[],[2,4],[2,4],[1,2,4],[1,2,4],[1,2,4]],[]⟩),(14,ri [0,2,3,4,5] [2,3,55,1000000]),(17,ri [0,2,3,76] [2,3,1000000]),(18,ri [0,2,3] [2,3,1000000]),(19,ri [2,3,85] [2,3,1000000]),(20,⟨[2],[2,1000000],[1],[],0,[],[],[],[],[]⟩),(21,⟨[2],[2,1000000],[1],[],0,[],[],[],[],[]⟩)]
def z1x.cx (k:Nat):Cx:=⟨tt,pp,[(28,(z0n.e k)),(213,(z1A.e k)),(214,(z0S.e k)),(215,(z1F.e k)),(162,(z0j.e k)),(109,(z1Q.e k)),(115,(z13.e k)),(111,(z0k.e k))],z1x.regs,k,mm⟩
@[reducible] def z1x.sg:Sg:=⟨[.ref],[tref02Reader],.dat tOp,[tref02Reader]⟩
def z1x.f (k:Nat) (o0:Ty.D tref02Reader):Option (Sg.Out z1x.sg):=Sg.fn z1x.sg (z1x.cx k) z1x.body z1x.rs o0
def z1x.l13 (k:Nat) (n:Nat) (x4:Ty.D (.int .i64)) (x5:Ty.D (.int .i64)) (m2a:Ty.D (.int .i64)) (m2ba:List (Ty.D .str)) (m2bba:Ty.D tValue) (m2bbba:Ty.D (.int .i64)) (m2bbbb:List (Ty.D tUndo)) (m3a:Ty.D (.int .i64)) (m3ba:List (Ty.D .str)) (m3bba:Ty.D tValue) (m3bbba:Ty.D (.int .i64)) (m3bbbb:List (Ty.D tUndo)) (m1000000:Ty.D tref02Reader):Option (Sg.Out z1x.sg):=loopAt (z1x.cx k) z1x.body [1,1,1,1,1,1,1,0,1,0,1,1,0] 13 [0,2,3,4,5] [2,3,55,1000000] [] (Sg.K z1x.sg (z1x.cx k) z1x.rs) n ⟨[(0,.ref 1000000 []),(2,.ref 2 []),(3,.ref 3 []),(4,.dat (.int .i64) x4),(5,.dat (.int .i64) x5)],[(2,.pr (.dat (.int .i64) m2a) (.pr (.own .str m2ba) (.pr (.dat tValue m2bba) (.pr (.dat (.int .i64) m2bbba) (.own tUndo m2bbbb))))),(3,.pr (.dat (.int .i64) m3a) (.pr (.own .str m3ba) (.pr (.dat tValue m3bba) (.pr (.dat (.int .i64) m3bbba) (.own tUndo m3bbbb))))),(1000000,.dat tref02Reader m1000000)]⟩
theorem z1x.f_eq (k:Nat) (o0:Ty.D tref02Reader):z1x.f k o0=bnd (z0n.f k o0) fun r0=>br (ieq r0.1 0) (some ((r0.1,([],((0,(0,[])),(0,[])))),r0.2)) (bnd (z1A.f k r0.2) fun r1=>br (ieq r0.1 3) (bnd (z0n.f k r1.2) fun r2=>bnd (z0S.f k r2.1) fun r3=>br (ieq r0.1 1) (bnd (z1F.f k r2.2) fun r4=>br (ieq r0.1 1) (bnd (z0j.f k 256 r4.2) fun r5=>z1x.l13 k k r5.1 0 0 [] (0,(0,[])) 0 [] r0.1 r1.1 r4.1 r3 [] r5.2) (br (ieq r0.1 4) (bnd (z0j.f k 256 r4.2) fun r6=>z1x.l13 k k r6.1 0 0 [] (0,(0,[])) 0 [] r0.1 r1.1 r4.1 r3 [] r6.2) (br (ieq r0.1 5) (bnd (z0j.f k 256 r4.2) fun r7=>z1x.l13 k k r7.1 0 0 [] (0,(0,[])) 0 [] r0.1 r1.1 r4.1 r3 [] r7.2) (br (ieq r4.2.2.2 0) (bnd (z13.f k (r0.1,(r1.1,(r4.1,(r3,[]))))) fun r8=>bnd (z0k.f k r8 r4.2) fun r9=>br (bnot (ieq r9.2.2.2 0)) (some ((0,([],((0,(0,[])),(0,[])))),r9.2)) (some ((r0.1,(r1.1,(r4.1,(r3,[])))),r9.2))) (br (bnot (ieq r4.2.2.2 0)) (some ((0,([],((0,(0,[])),(0,[])))),r4.2)) (some ((r0.1,(r1.1,(r4.1,(r3,[])))),r4.2))))))) (br (ieq r0.1 2) (bnd (z1F.f k r2.2) fun r10=>br (ieq r0.1 1) (bnd (z0j.f k 256 r10.2) fun r11=>z1x.l13 k k r11.1 0 0 [] (0,(0,[])) 0 [] r0.1 r1.1 r10.1 r3 [] r11.2) (br (ieq r0.1 4) (bnd (z0j.f k 256 r10.2) fun r12=>z1x.l13 k k r12.1 0 0 [] (0,(0,[])) 0 [] r0.1 r1.1 r10.1 r3 [] r12.2) (br (ieq r0.1 5) (bnd (z0j.f k 256 r10.2) fun r13=>z1x.l13 k k r13.1 0 0 [] (0,(0,[])) 0 [] r0.1 r1.1 r10.1 r3 [] r13.2) (br (ieq r10.2.2.2 0) (bnd (z13.f k (r0.1,(r1.1,(r10.1,(r3,[]))))) fun r14=>bnd (z0k.f k r14 r10.2) fun r15=>br (bnot (ieq r15.2.2.2 0)) (some ((0,([],((0,(0,[])),(0,[])))),r15.2)) (some ((r0.1,(r1.1,(r10.1,(r3,[])))),r15.2))) (br (bnot (ieq r10.2.2.2 0)) (some ((0,([],((0,(0,[])),(0,[])))),r10.2)) (some ((r0.1,(r1.1,(r10.1,(r3,[])))),r10.2))))))) (br (ieq r0.1 4) (bnd (z1F.f k r2.2) fun r16=>br (ieq r0.1 1) (bnd (z0j.f k 256 r16.2) fun r17=>z1x.l13 k k r17.1 0 0 [] (0,(0,[])) 0 [] r0.1 r1.1 r16.1 r3 [] r17.2) (br (ieq r0.1 4) (bnd (z0j.f k 256 r16.2) fun r18=>z1x.l13 k k r18.1 0 0 [] (0,(0,[])) 0 [] r0.1 r1.1 r16.1 r3 [] r18.2) (br (ieq r0.1 5) (bnd (z0j.f k 256 r16.2) fun r19=>z1x.l13 k k r19.1 0 0 [] (0,(0,[])) 0 [] r0.1 r1.1 r16.1 r3 [] r19.2) (br (ieq r16.2.2.2 0) (bnd (z13.f k (r0.1,(r1.1,(r16.1,(r3,[]))))) fun r20=>bnd (z0k.f k r20 r16.2) fun r21=>br (bnot (ieq r21.2.2.2 0)) (some ((0,([],((0,(0,[])),(0,[])))),r21.2)) (some ((r0.1,(r1.1,(r16.1,(r3,[])))),r21.2))) (br (bnot (ieq r16.2.2.2 0)) (some ((0,([],((0,(0,[])),(0,[])))),r16.2)) (some ((r0.1,(r1.1,(r16.1,(r3,[])))),r16.2))))))) (br (ieq r0.1 1) (bnd (z0j.f k 256 r2.2) fun r22=>z1x.l13 k k r22.1 0 0 [] (0,(0,[])) 0 [] r0.1 r1.1 (0,(0,[])) r3 [] r22.2) (br (ieq r0.1 4) (bnd (z0j.f k 256 r2.2) fun r23=>z1x.l13 k k r23.1 0 0 [] (0,(0,[])) 0 [] r0.1 r1.1 (0,(0,[])) r3 [] r23.2) (br (ieq r0.1 5) (bnd (z0j.f k 256 r2.2) fun r24=>z1x.l13 k k r24.1 0 0 [] (0,(0,[])) 0 [] r0.1 r1.1 (0,(0,[])) r3 [] r24.2) (br (ieq r2.2.2.2 0) (bnd (z13.f k (r0.1,(r1.1,((0,(0,[])),(r3,[]))))) fun r25=>bnd (z0k.f k r25 r2.2) fun r26=>br (bnot (ieq r26.2.2.2 0)) (some ((0,([],((0,(0,[])),(0,[])))),r26.2)) (some ((r0.1,(r1.1,((0,(0,[])),(r3,[])))),r26.2))) (br (bnot (ieq r2.2.2.2 0)) (some ((0,([],((0,(0,[])),(0,[])))),r2.2)) (some ((r0.1,(r1.1,((0,(0,[])),(r3,[])))),r2.2)))))))))) (br (ieq r0.1 1) (bnd (z1F.f k r1.2) fun r27=>br (ieq r0.1 1) (bnd (z0j.f k 256 r27.2) fun r28=>z1x.l13 k k r28.1 0 0 [] (0,(0,[])) 0 [] r0.1 r1.1 r27.1 0 [] r28.2) (br (ieq r0.1 4) (bnd (z0j.f k 256 r27.2) fun r29=>z1x.l13 k k r29.1 0 0 [] (0,(0,[])) 0 [] r0.1 r1.1 r27.1 0 [] r29.2) (br (ieq r0.1 5) (bnd (z0j.f k 256 r27.2) fun r30=>z1x.l13 k k r30.1 0 0 [] (0,(0,[])) 0 [] r0.1 r1.1 r27.1 0 [] r30.2) (br (ieq r27.2.2.2 0) (bnd (z13.f k (r0.1,(r1.1,(r27.1,(0,[]))))) fun r31=>bnd (z0k.f k r31 r27.2) fun r32=>br (bnot (ieq r32.2.2.2 0)) (some ((0,([],((0,(0,[])),(0,[])))),r32.2)) (some ((r0.1,(r1.1,(r27.1,(0,[])))),r32.2))) (br (bnot (ieq r27.2.2.2 0)) (some ((0,([],((0,(0,[])),(0,[])))),r27.2)) (some ((r0.1,(r1.1,(r27.1,(0,[])))),r27.2))))))) (br (ieq r0.1 2) (bnd (z1F.f k r1.2) fun r33=>br (ieq r0.1 1) (bnd (z0j.f k 256 r33.2) fun r34=>z1x.l13 k k r34.1 0 0 [] (0,(0,[])) 0 [] r0.1 r1.1 r33.1 0 [] r34.2) (br (ieq r0.1 4) (bnd (z0j.f k 256 r33.2) fun r35=>z1x.l13 k k r35.1 0 0 [] (0,(0,[])) 0 [] r0.1 r1.1 r33.1 0 [] r35.2) (br (ieq r0.1 5) (bnd (z0j.f k 256 r33.2) fun r36=>z1x.l13 k k r36.1 0 0 [] (0,(0,[])) 0 [] r0.1 r1.1 r33.1 0 [] r36.2) (br (ieq r33.2.2.2 0) (bnd (z13.f k (r0.1,(r1.1,(r33.1,(0,[]))))) fun r37=>bnd (z0k.f k r37 r33.2) fun r38=>br (bnot (ieq r38.2.2.2 0)) (some ((0,([],((0,(0,[])),(0,[])))),r38.2)) (some ((r0.1,(r1.1,(r33.1,(0,[])))),r38.2))) (br (bnot (ieq r33.2.2.2 0)) (some ((0,([],((0,(0,[])),(0,[])))),r33.2)) (some ((r0.1,(r1.1,(r33.1,(0,[])))),r33.2))))))) (br (ieq r0.1 4) (bnd (z1F.f k r1.2) fun r39=>br (ieq r0.1 1) (bnd (z0j.f k 256 r39.2) fun r40=>z1x.l13 k k r40.1 0 0 [] (0,(0,[])) 0 [] r0.1 r1.1 r39.1 0 [] r40.2) (br (ieq r0.1 4) (bnd (z0j.f k 256 r39.2) fun r41=>z1x.l13 k k r41.1 0 0 [] (0,(0,[])) 0 [] r0.1 r1.1 r39.1 0 [] r41.2) (br (ieq r0.1 5) (bnd (z0j.f k 256 r39.2) fun r42=>z1x.l13 k k r42.1 0 0 [] (0,(0,[])) 0 [] r0.1 r1.1 r39.1 0 [] r42.2) (br (ieq r39.2.2.2 0) (bnd (z13.f k (r0.1,(r1.1,(r39.1,(0,[]))))) fun r43=>bnd (z0k.f k r43 r39.2) fun r44=>br (bnot (ieq r44.2.2.2 0)) (some ((0,([],((0,(0,[])),(0,[])))),r44.2)) (some ((r0.1,(r1.1,(r39.1,(0,[])))),r44.2))) (br (bnot (ieq r39.2.2.2 0)) (some ((0,([],((0,(0,[])),(0,[])))),r39.2)) (some ((r0.1,(r1.1,(r39.1,(0,[])))),r39.2))))))) (br (ieq r0.1 1) (bnd (z0j.f k 256 r1.2) fun r45=>z1x.l13 k k r45.1 0 0 [] (0,(0,[])) 0 [] r0.1 r1.1 (0,(0,[])) 0 [] r45.2) (br (ieq r0.1 4) (bnd (z0j.f k 256 r1.2) fun r46=>z1x.l13 k k r46.1 0 0 [] (0,(0,[])) 0 [] r0.1 r1.1 (0,(0,[])) 0 [] r46.2) (br (ieq r0.1 5) (bnd (z0j.f k 256 r1.2) fun r47=>z1x.l13 k k r47.1 0 0 [] (0,(0,[])) 0 [] r0.1 r1.1 (0,(0,[])) 0 [] r47.2) (br (ieq r1.2.2.2 0) (bnd (z13.f k (r0.1,(r1.1,((0,(0,[])),(0,[]))))) fun r48=>bnd (z0k.f k r48 r1.2) fun r49=>br (bnot (ieq r49.2.2.2 0)) (some ((0,([],((0,(0,[])),(0,[])))),r49.2)) (some ((r0.1,(r1.1,((0,(0,[])),(0,[])))),r49.2))) (br (bnot (ieq r1.2.2.2 0)) (some ((0,([],((0,(0,[])),(0,[])))),r1.2)) (some ((r0.1,(r1.1,((0,(0,[])),(0,[])))),r1.2))))))))))):=by kernel_rfl
theorem z1x.l13_eq (k:Nat) (n13:Nat) (x4:Ty.D (.int .i64)) (x5:Ty.D (.int .i64)) (m2a:Ty.D (.int .i64)) (m2ba:List (Ty.D .str)) (m2bba:Ty.D tValue) (m2bbba:Ty.D (.int .i64)) (m2bbbb:List (Ty.D tUndo)) (m3a:Ty.D (.int .i64)) (m3ba:List (Ty.D .str)) (m3bba:Ty.D tValue) (m3bbba:Ty.D (.int .i64)) (m3bbbb:List (Ty.D tUndo)) (m1000000:Ty.D tref02Reader):z1x.l13 k (n13+1) x4 x5 m2a m2ba m2bba m2bbba m2bbbb m3a m3ba m3bba m3bbba m3bbbb m1000000=br (ilt x5 x4) (bnd (z1Q.f k m1000000) fun r0=>bnd (z0n.f k r0.2) fun r1=>br (room m3bbbb ((r0.1,r1.1)::[])) (z1x.l13 k n13 x4 (iadd .i64 x5 1) m2a m2ba m2bba m2bbba m2bbbb m3a m3ba m3bba m3bbba (app m3bbbb ((r0.1,r1.1)::[])) r1.2) none) (br (ieq m1000000.2.2 0) (bnd (z13.f k (m3a,(m3ba,(m3bba,(m3bbba,m3bbbb))))) fun r2=>bnd (z0k.f k r2 m1000000) fun r3=>br (bnot (ieq r3.2.2.2 0)) (some ((0,([],((0,(0,[])),(0,[])))),r3.2)) (some ((m3a,(m3ba,(m3bba,(m3bbba,m3bbbb)))),r3.2))) (br (bnot (ieq m1000000.2.2 0)) (some ((0,([],((0,(0,[])),(0,[])))),m1000000)) (some ((m3a,(m3ba,(m3bba,(m3bbba,m3bbbb)))),m1000000)))):=by kernel_rfl
def z1x.e (k:Nat):Entry:=Sg.entry z1x.sg fun x=>z1x.f k x
theorem z1x.ok (k:Nat):CallOK Tryz.prog 164 (z1x.e k):=fn_ok (c:=z1x.cx k) (code:=z1x.body) (TT.of tt_ok pp_ok mm_ok) (fns_ok ⟨(z0n.ok k),(z1A.ok k),(z0S.ok k),(z1F.ok k),(z0j.ok k),(z1Q.ok k),(z13.ok k),(z0k.ok k),trivial⟩) mixed Tryz.func164 (by kernel_rfl) (by kernel_rfl) (by kernel_rfl) (by kernel_rfl) (by kernel_rfl) (by kernel_rfl) (fun x=>by kernel_rfl)
def z1X.body:Go.Code:=Tryz.f116.body.getD .skip
def z1X.rs:List Go.ResultVar:=Tryz.f116.results.toList
def z1X.regs:List (Nat × RInfo):=[(0,⟨[1],[1],[0],[],0,[],[],[],[],[]⟩),(1,ri [1,3] [1,3]),(2,ri [2] [])]
def z1X.cx (k:Nat):Cx:=⟨tt,pp,[],z1X.regs,k,mm⟩
@[reducible] def z1X.sg:Sg:=⟨[.dat tOp],[],.dat .bool,[]⟩
def z1X.f (k:Nat) (a0:Ty.D tOp):Option (Sg.Out z1X.sg):=Sg.fn z1X.sg (z1X.cx k) z1X.body z1X.rs a0
theorem z1X.f_eq (k:Nat) (a0:Ty.D tOp):z1X.f k a0=br (ieq a0.1 0) (br (ieq (ilen a0.2.1) 0) (br (deq tValue a0.2.2.1 (0,(0,[]))) (br (ieq a0.2.2.2.1 0) (some (ieq (ilen a0.2.2.2.2) 0)) (some false)) (some false)) (some false)) (some false):=by kernel_rfl
def z1X.e (k:Nat):Entry:=Sg.entry z1X.sg fun x=>z1X.f k x
theorem z1X.ok (k:Nat):CallOK Tryz.prog 116 (z1X.e k):=fn_ok (c:=z1X.cx k) (code:=z1X.body) (TT.of tt_ok pp_ok mm_ok) (fns_ok trivial) mixed Tryz.func116 (by kernel_rfl) (by kernel_rfl) (by kernel_rfl) (by kernel_rfl) (by kernel_rfl) (by kernel_rfl) (fun x=>by kernel_rfl)
def z1g.body:Go.Code:=Tryz.f48.body.getD .skip
def z1g.rs:List Go.ResultVar:=Tryz.f48.results.toList
def z1g.regs:List (Nat × RInfo):=[(0,⟨[1],[1],[0],[],0,[],[],[],[],[]⟩),(1,ri [1,28] [1]),(2,ri [2] [49]),(3,ri [1,32] [1]),(4,ri [2] [49]),(5,ri [1,36] [1]),(6,ri [2] [49]),(7,ri [1,3] [1]),(8,⟨[1,3,41],[1],[],[],0,[1,3],[1],[],[],[]⟩),(10,ri [1,3,4] [1,49]),(11,ri [1,3,4,64] [1,49]),(12,ri [2] [49]),(9,ri [1,3] [1]),(13,ri [2] [49])]
def z1g.cx (k:Nat):Cx:=⟨tt,pp,[(77,(z18.e k)),(115,(z13.e k)),(116,(z1X.e k))],z1g.regs,k,mm⟩
@[reducible] def z1g.sg:Sg:=⟨[.dat tTxn],[],.dat (.int .i64),[]⟩
def z1g.f (k:Nat) (a0:Ty.D tTxn):Option (Sg.Out z1g.sg):=Sg.fn z1g.sg (z1g.cx k) z1g.body z1g.rs a0
def z1g.l8 (k:Nat) (n:Nat) (x3:Ty.D (.int .i64)) (m1:Ty.D tTxn):Option (Sg.Out z1g.sg):=loopAt (z1g.cx k) z1g.body [1,1,1,1,0,1,0] 8 [1,3] [1] [] (Sg.K z1g.sg (z1g.cx k) z1g.rs) n ⟨[(1,.ref 1 []),(3,.dat (.int .i64) x3)],[(1,.dat tTxn m1)]⟩
theorem z1g.f_eq (k:Nat) (a0:Ty.D tTxn):z1g.f k a0=bnd (z18.f k a0.1) fun r0=>br (bnot r0) (some 2) (br (ilt a0.2.1 0) (some 2) (br (ilt 7 a0.2.1) (some 2) (br (ilt a0.2.2.1 1) (some 2) (br (ilt 1099511627776 a0.2.2.1) (some 2) (br (ieq (ilen a0.2.2.2.2) 0) (some 11) (br (ilt 16 (ilen a0.2.2.2.2)) (some 7) (z1g.l8 k k 0 a0))))))):=by kernel_rfl
theorem z1g.l8_eq (k:Nat) (n8:Nat) (x3:Ty.D (.int .i64)) (m1:Ty.D tTxn):z1g.l8 k (n8+1) x3 m1=br (ilt x3 (ilen m1.2.2.2.2)) (br (inL x3 m1.2.2.2.2) (bnd (z13.f k (rd tOp m1.2.2.2.2 (natOf x3))) fun r0=>br (bnot (ieq r0 0)) (br m1.2.2.2.1 (br (inL x3 m1.2.2.2.2) (bnd (z1X.f k (rd tOp m1.2.2.2.2 (natOf x3))) fun r1=>br (bnot r1) (some r0) (z1g.l8 k n8 (iadd .i64 x3 1) m1)) none) (br (bnot false) (some r0) (z1g.l8 k n8 (iadd .i64 x3 1) m1))) (z1g.l8 k n8 (iadd .i64 x3 1) m1)) none) (some 0):=by kernel_rfl
def z1g.e (k:Nat):Entry:=Sg.entry z1g.sg fun x=>z1g.f k x
theorem z1g.ok (k:Nat):CallOK Tryz.prog 48 (z1g.e k):=fn_ok (c:=z1g.cx k) (code:=z1g.body) (TT.of tt_ok pp_ok mm_ok) (fns_ok ⟨(z18.ok k),(z13.ok k),(z1X.ok k),trivial⟩) mixed Tryz.func48 (by kernel_rfl) (by kernel_rfl) (by kernel_rfl) (by kernel_rfl) (by kernel_rfl) (by kernel_rfl) (fun x=>by kernel_rfl)
def z1y.body:Go.Code:=Tryz.f108.body.getD .skip
def z1y.rs:List Go.ResultVar:=Tryz.f108.results.toList
def z1y.regs:List (Nat × RInfo):=[(0,ri [0,2] [2,1000000]),(1,⟨[0,2,3],[2,3,1000000],[2],[],0,[],[],[],[],[]⟩),(2,ri [0,2,3] [2,3,1000000]),(3,ri [0,2,3] [2,3,1000000]),(4,ri [0,2,3] [2,3,1000000]),(5,ri [0,2,3,4] [2,3,18,1000000]),(6,ri [0,2,3,4,20] [2,3,18,1000000]),(7,ri [0,2,3,4] [2,3,18,1000000]),(8,ri [0,2,3] [2,3,1000000]),(9,ri [0,2,3,5] [2,3,27,1000000]),(10,ri [0,2,3,5,6] [2,3,27,1000000]),(11,⟨[0,2,3,5,6,30],[2,3,27,1000000],[],[],0,[0,2,3,5,6],[2,3,27,1000000],[],[],[]⟩),(13,⟨[0,2,3,5,6],[2,3,27,1000000],[1,5,7],[],6,[],[],[],[[],[],[],[],[3],[1,3],[1,3],[1,3]],[]⟩),(12,ri [0,2,3,5,6] [2,3,27,1000000]),(14,ri [0,2,3,44] [2,3,1000000]),(15,ri [0,2,3] [2,3,1000000]),(16,ri [2,3,53] [2,3,1000000]),(17,⟨[2],[2,1000000],[1],[],0,[],[],[],[],[]⟩),(18,⟨[2],[2,1000000],[1],[],0,[],[],[],[],[]⟩)]
def z1y.cx (k:Nat):Cx:=⟨tt,pp,[(109,(z1Q.e k)),(28,(z0n.e k)),(111,(z0k.e k)),(162,(z0j.e k)),(164,(z1x.e k)),(48,(z1g.e k))],z1y.regs,k,mm⟩
@[reducible] def z1y.sg:Sg:=⟨[.ref],[tref02Reader],.dat tTxn,[tref02Reader]⟩
def z1y.f (k:Nat) (o0:Ty.D tref02Reader):Option (Sg.Out z1y.sg):=Sg.fn z1y.sg (z1y.cx k) z1y.body z1y.rs o0
def z1y.l11 (k:Nat) (n:Nat) (x5:Ty.D (.int .i64)) (x6:Ty.D (.int .i64)) (m2a:Ty.D tDot) (m2ba:Ty.D (.int .i64)) (m2bba:Ty.D (.int .i64)) (m2bbba:Ty.D .bool) (m2bbbb:List (Ty.D tOp)) (m3a:Ty.D tDot) (m3ba:Ty.D (.int .i64)) (m3bba:Ty.D (.int .i64)) (m3bbba:Ty.D .bool) (m3bbbb:List (Ty.D tOp)) (m1000000:Ty.D tref02Reader):Option (Sg.Out z1y.sg):=loopAt (z1y.cx k) z1y.body [1,1,1,1,1,1,1,1,1,0,1,0] 11 [0,2,3,5,6] [2,3,27,1000000] [] (Sg.K z1y.sg (z1y.cx k) z1y.rs) n ⟨[(0,.ref 1000000 []),(2,.ref 2 []),(3,.ref 3 []),(5,.dat (.int .i64) x5),(6,.dat (.int .i64) x6)],[(2,.pr (.dat tDot m2a) (.pr (.dat (.int .i64) m2ba) (.pr (.dat (.int .i64) m2bba) (.pr (.dat .bool m2bbba) (.own tOp m2bbbb))))),(3,.pr (.dat tDot m3a) (.pr (.dat (.int .i64) m3ba) (.pr (.dat (.int .i64) m3bba) (.pr (.dat .bool m3bbba) (.own tOp m3bbbb))))),(1000000,.dat tref02Reader m1000000)]⟩
theorem z1y.f_eq (k:Nat) (o0:Ty.D tref02Reader):z1y.f k o0=bnd (z1Q.f k o0) fun r0=>bnd (z0n.f k r0.2) fun r1=>bnd (z0n.f k r1.2) fun r2=>bnd (z0n.f k r2.2) fun r3=>br (ilt 1 r3.1) (bnd (z0k.f k 3 r3.2) fun r4=>bnd (z0j.f k 16 r4.2) fun r5=>z1y.l11 k k r5.1 0 (0,0) 0 0 false [] r0.1 r1.1 r2.1 (ieq r3.1 1) [] r5.2) (bnd (z0j.f k 16 r3.2) fun r6=>z1y.l11 k k r6.1 0 (0,0) 0 0 false [] r0.1 r1.1 r2.1 (ieq r3.1 1) [] r6.2):=by kernel_rfl
theorem z1y.l11_eq (k:Nat) (n11:Nat) (x5:Ty.D (.int .i64)) (x6:Ty.D (.int .i64)) (m2a:Ty.D tDot) (m2ba:Ty.D (.int .i64)) (m2bba:Ty.D (.int .i64)) (m2bbba:Ty.D .bool) (m2bbbb:List (Ty.D tOp)) (m3a:Ty.D tDot) (m3ba:Ty.D (.int .i64)) (m3bba:Ty.D (.int .i64)) (m3bbba:Ty.D .bool) (m3bbbb:List (Ty.D tOp)) (m1000000:Ty.D tref02Reader):z1y.l11 k (n11+1) x5 x6 m2a m2ba m2bba m2bbba m2bbbb m3a m3ba m3bba m3bbba m3bbbb m1000000=br (ilt x6 x5) (bnd (z1x.f k m1000000) fun r0=>br (room m3bbbb (r0.1::[])) (z1y.l11 k n11 x5 (iadd .i64 x6 1) m2a m2ba m2bba m2bbba m2bbbb m3a m3ba m3bba m3bbba (app m3bbbb (r0.1::[])) r0.2) none) (br (ieq m1000000.2.2 0) (bnd (z1g.f k (m3a,(m3ba,(m3bba,(m3bbba,m3bbbb))))) fun r1=>bnd (z0k.f k r1 m1000000) fun r2=>br (bnot (ieq r2.2.2.2 0)) (some (((0,0),(0,(0,(false,[])))),r2.2)) (some ((m3a,(m3ba,(m3bba,(m3bbba,m3bbbb)))),r2.2))) (br (bnot (ieq m1000000.2.2 0)) (some (((0,0),(0,(0,(false,[])))),m1000000)) (some ((m3a,(m3ba,(m3bba,(m3bbba,m3bbbb)))),m1000000)))):=by kernel_rfl
def z1y.e (k:Nat):Entry:=Sg.entry z1y.sg fun x=>z1y.f k x
theorem z1y.ok (k:Nat):CallOK Tryz.prog 108 (z1y.e k):=fn_ok (c:=z1y.cx k) (code:=z1y.body) (TT.of tt_ok pp_ok mm_ok) (fns_ok ⟨(z1Q.ok k),(z0n.ok k),(z0k.ok k),(z0j.ok k),(z1x.ok k),(z1g.ok k),trivial⟩) mixed Tryz.func108 (by kernel_rfl) (by kernel_rfl) (by kernel_rfl) (by kernel_rfl) (by kernel_rfl) (by kernel_rfl) (fun x=>by kernel_rfl)
def z1o.body:Go.Code:=Tryz.f75.body.getD .skip
def z1o.rs:List Go.ResultVar:=Tryz.f75.results.toList
def z1o.regs:List (Nat × RInfo):=[(0,ri [0] []),(1,ri [0,3] []),(2,⟨[0,3,7],[],[],[],0,[0,3],[],[],[],[]⟩),(4,rq [0,3,22] [] 13),(5,ri [2] []),(3,ri [0,3] []),(6,ri [2] [])]
def z1o.cx (k:Nat):Cx:=⟨tt,pp,[(118,(z0I.e k))],z1o.regs,k,mm⟩
@[reducible] def z1o.sg:Sg:=⟨[.dat (.slc tTxn)],[],.dat .bool,[]⟩
def z1o.f (k:Nat) (a0:Ty.D (.slc tTxn)):Option (Sg.Out z1o.sg):=Sg.fn z1o.sg (z1o.cx k) z1o.body z1o.rs a0
def z1o.l2 (k:Nat) (n:Nat) (x0:Ty.D (.slc tTxn)) (x3:Ty.D (.int .i64)):Option (Sg.Out z1o.sg):=loopAt (z1o.cx k) z1o.body [1,0,1,0] 2 [0,3] [] [] (Sg.K z1o.sg (z1o.cx k) z1o.rs) n ⟨[(0,.dat (.slc tTxn) x0),(3,.dat (.int .i64) x3)],[]⟩
theorem z1o.f_eq (k:Nat) (a0:Ty.D (.slc tTxn)):z1o.f k a0=z1o.l2 k k a0 1:=by kernel_rfl
theorem z1o.l2_eq (k:Nat) (n2:Nat) (x0:Ty.D (.slc tTxn)) (x3:Ty.D (.int .i64)):z1o.l2 k (n2+1) x0 x3=br (ilt x3 (ilen x0)) (br (inL (isub .i64 x3 1) x0) (br (inL x3 x0) (bnd (z0I.f k ((rd tTxn x0 (natOf (isub .i64 x3 1))).1) ((rd tTxn x0 (natOf x3)).1)) fun r0=>br (bnot (ieq r0 (-1))) (some false) (z1o.l2 k n2 x0 (iadd .i64 x3 1))) none) none) (some true):=by kernel_rfl
def z1o.e (k:Nat):Entry:=Sg.entry z1o.sg fun x=>z1o.f k x
theorem z1o.ok (k:Nat):CallOK Tryz.prog 75 (z1o.e k):=fn_ok (c:=z1o.cx k) (code:=z1o.body) (TT.of tt_ok pp_ok mm_ok) (fns_ok ⟨(z0I.ok k),trivial⟩) mixed Tryz.func75 (by kernel_rfl) (by kernel_rfl) (by kernel_rfl) (by kernel_rfl) (by kernel_rfl) (by kernel_rfl) (fun x=>by kernel_rfl)
def z0D.body:Go.Code:=Tryz.f95.body.getD .skip
def z0D.rs:List Go.ResultVar:=Tryz.f95.results.toList
def z0D.regs:List (Nat × RInfo):=[(0,ri [0,1] [1000000]),(1,ri [0,5] [10,1000000]),(2,ri [0,5,6] [10,1000000]),(3,ri [0,5,6,7] [10,1000000]),(4,⟨[0,5,6,7,13],[10,1000000],[],[],0,[0,5,6,7],[10,1000000],[],[],[]⟩),(6,⟨[0,5,6,7],[10,1000000],[0,4,5],[],0,[],[],[],[],[]⟩),(5,ri [0,5,6,7] [10,1000000]),(7,ri [0,6,30] [1000000]),(8,ri [0,6] [1000000]),(9,ri [6,38] [1000000]),(10,ri [4] [1000000]),(11,⟨[4],[1000000],[0,1],[],0,[],[],[],[],[]⟩)]
def z0D.cx (k:Nat):Cx:=⟨tt,pp,[(162,(z0j.e k)),(108,(z1y.e k)),(75,(z1o.e k))],z0D.regs,k,mm⟩
@[reducible] def z0D.sg:Sg:=⟨[.ref,.dat (.int .i64)],[tref02Reader],.own tTxn,[tref02Reader]⟩
def z0D.f (k:Nat) (a1:Ty.D (.int .i64)) (o0:Ty.D tref02Reader):Option (Sg.Out z0D.sg):=Sg.fn z0D.sg (z0D.cx k) z0D.body z0D.rs (a1,o0)
def z0D.l4 (k:Nat) (n:Nat) (x5:Ty.D (.int .i64)) (x6:List (Ty.D tTxn)) (x7:Ty.D (.int .i64)) (m1000000:Ty.D tref02Reader):Option (Sg.Out z0D.sg):=loopAt (z0D.cx k) z0D.body [1,1,1,0,1,0] 4 [0,5,6,7] [10,1000000] [] (Sg.K z0D.sg (z0D.cx k) z0D.rs) n ⟨[(0,.ref 1000000 []),(5,.dat (.int .i64) x5),(6,.own tTxn x6),(7,.dat (.int .i64) x7)],[(1000000,.dat tref02Reader m1000000)]⟩
theorem z0D.f_eq (k:Nat) (a1:Ty.D (.int .i64)) (o0:Ty.D tref02Reader):z0D.f k a1 o0=bnd (z0j.f k a1 o0) fun r0=>z0D.l4 k k r0.1 [] 0 r0.2:=by kernel_rfl
theorem z0D.l4_eq (k:Nat) (n4:Nat) (x5:Ty.D (.int .i64)) (x6:List (Ty.D tTxn)) (x7:Ty.D (.int .i64)) (m1000000:Ty.D tref02Reader):z0D.l4 k (n4+1) x5 x6 x7 m1000000=br (ilt x7 x5) (bnd (z1y.f k m1000000) fun r0=>br (room x6 (r0.1::[])) (z0D.l4 k n4 x5 (app x6 (r0.1::[])) (iadd .i64 x7 1) r0.2) none) (br (ieq m1000000.2.2 0) (bnd (z1o.f k x6) fun r1=>br (bnot r1) (some ([],(m1000000.1,(m1000000.2.1,2)))) (br (bnot (ieq m1000000.2.2 0)) (some ([],m1000000)) (some (x6,m1000000)))) (br (bnot (ieq m1000000.2.2 0)) (some ([],m1000000)) (some (x6,m1000000)))):=by kernel_rfl
def z0D.e (k:Nat):Entry:=Sg.entry z0D.sg fun x=>z0D.f k x.1 x.2
theorem z0D.ok (k:Nat):CallOK Tryz.prog 95 (z0D.e k):=fn_ok (c:=z0D.cx k) (code:=z0D.body) (TT.of tt_ok pp_ok mm_ok) (fns_ok ⟨(z0j.ok k),(z1y.ok k),(z1o.ok k),trivial⟩) mixed Tryz.func95 (by kernel_rfl) (by kernel_rfl) (by kernel_rfl) (by kernel_rfl) (by kernel_rfl) (by kernel_rfl) (fun x=>by kernel_rfl)
def z2w.body:Go.Code:=Tryz.f117.body.getD .skip
def z2w.rs:List Go.ResultVar:=Tryz.f117.results.toList
def z2w.regs:List (Nat × RInfo):=[(0,ri [1] [1]),(1,ri [2] [5])]
def z2w.cx (k:Nat):Cx:=⟨tt,pp,[(77,(z18.e k))],z2w.regs,k,mm⟩
@[reducible] def z2w.sg:Sg:=⟨[.dat tUndo],[],.dat .bool,[]⟩
def z2w.f (k:Nat) (a0:Ty.D tUndo):Option (Sg.Out z2w.sg):=Sg.fn z2w.sg (z2w.cx k) z2w.body z2w.rs a0
theorem z2w.f_eq (k:Nat) (a0:Ty.D tUndo):z2w.f k a0=bnd (z18.f k a0.1) fun r0=>br r0 (br (ile 1 a0.2) (some (ile a0.2 64)) (some false)) (some false):=by kernel_rfl
def z2w.e (k:Nat):Entry:=Sg.entry z2w.sg fun x=>z2w.f k x
theorem z2w.ok (k:Nat):CallOK Tryz.prog 117 (z2w.e k):=fn_ok (c:=z2w.cx k) (code:=z2w.body) (TT.of tt_ok pp_ok mm_ok) (fns_ok ⟨(z18.ok k),trivial⟩) mixed Tryz.func117 (by kernel_rfl) (by kernel_rfl) (by kernel_rfl) (by kernel_rfl) (by kernel_rfl) (by kernel_rfl) (fun x=>by kernel_rfl)
def z1c.body:Go.Code:=Tryz.f49.body.getD .skip
def z1c.rs:List Go.ResultVar:=Tryz.f49.results.toList
def z1c.regs:List (Nat × RInfo):=[(0,ri [0] []),(1,ri [0,3] []),(2,⟨[0,3,7],[],[],[],0,[0,3],[],[],[],[]⟩),(4,rq [0,3,34] [] 25),(5,ri [2] []),(3,ri [0,3] []),(6,ri [2] [])]
def z1c.cx (k:Nat):Cx:=⟨tt,pp,[(117,(z2w.e k)),(118,(z0I.e k))],z1c.regs,k,mm⟩
@[reducible] def z1c.sg:Sg:=⟨[.dat (.slc tUndo)],[],.dat .bool,[]⟩
def z1c.f (k:Nat) (a0:Ty.D (.slc tUndo)):Option (Sg.Out z1c.sg):=Sg.fn z1c.sg (z1c.cx k) z1c.body z1c.rs a0
def z1c.l2 (k:Nat) (n:Nat) (x0:Ty.D (.slc tUndo)) (x3:Ty.D (.int .i64)):Option (Sg.Out z1c.sg):=loopAt (z1c.cx k) z1c.body [1,0,1,0] 2 [0,3] [] [] (Sg.K z1c.sg (z1c.cx k) z1c.rs) n ⟨[(0,.dat (.slc tUndo) x0),(3,.dat (.int .i64) x3)],[]⟩
theorem z1c.f_eq (k:Nat) (a0:Ty.D (.slc tUndo)):z1c.f k a0=z1c.l2 k k a0 0:=by kernel_rfl
theorem z1c.l2_eq (k:Nat) (n2:Nat) (x0:Ty.D (.slc tUndo)) (x3:Ty.D (.int .i64)):z1c.l2 k (n2+1) x0 x3=br (ilt x3 (ilen x0)) (br (inL x3 x0) (bnd (z2w.f k (rd tUndo x0 (natOf x3))) fun r0=>br (bnot r0) (some false) (br (ilt 0 x3) (br (inL (isub .i64 x3 1) x0) (br (inL x3 x0) (bnd (z0I.f k ((rd tUndo x0 (natOf (isub .i64 x3 1))).1) ((rd tUndo x0 (natOf x3)).1)) fun r1=>br (bnot (ieq r1 (-1))) (some false) (z1c.l2 k n2 x0 (iadd .i64 x3 1))) none) none) (z1c.l2 k n2 x0 (iadd .i64 x3 1)))) none) (some true):=by kernel_rfl
def z1c.e (k:Nat):Entry:=Sg.entry z1c.sg fun x=>z1c.f k x
theorem z1c.ok (k:Nat):CallOK Tryz.prog 49 (z1c.e k):=fn_ok (c:=z1c.cx k) (code:=z1c.body) (TT.of tt_ok pp_ok mm_ok) (fns_ok ⟨(z2w.ok k),(z0I.ok k),trivial⟩) mixed Tryz.func49 (by kernel_rfl) (by kernel_rfl) (by kernel_rfl) (by kernel_rfl) (by kernel_rfl) (by kernel_rfl) (fun x=>by kernel_rfl)
def z1C.body:Go.Code:=Tryz.f96.body.getD .skip
def z1C.rs:List Go.ResultVar:=Tryz.f96.results.toList
def z1C.regs:List (Nat × RInfo):=[(0,ri [0,1] [1000000]),(1,ri [0,5] [11,1000000]),(2,ri [0,5,6] [11,1000000]),(3,ri [0,5,6,7] [11,1000000]),(4,⟨[0,5,6,7,14],[11,1000000],[],[],0,[0,5,6,7],[11,1000000],[],[],[]⟩),(6,ri [0,5,6,7,8] [8,11,1000000]),(7,⟨[0,5,6,7],[11,1000000],[0,6,7],[],7,[],[],[],[[],[],[],[],[1,3],[1,3],[1,3],[1,3]],[]⟩),(5,ri [0,5,6,7] [11,1000000]),(8,ri [0,6,35] [1000000]),(9,ri [0,6] [1000000]),(10,ri [6,43] [1000000]),(11,ri [4] [1000000]),(12,⟨[4],[1000000],[0,1],[],0,[],[],[],[],[]⟩)]
def z1C.cx (k:Nat):Cx:=⟨tt,pp,[(162,(z0j.e k)),(109,(z1Q.e k)),(28,(z0n.e k)),(49,(z1c.e k))],z1C.regs,k,mm⟩
@[reducible] def z1C.sg:Sg:=⟨[.ref,.dat (.int .i64)],[tref02Reader],.own tUndo,[tref02Reader]⟩
def z1C.f (k:Nat) (a1:Ty.D (.int .i64)) (o0:Ty.D tref02Reader):Option (Sg.Out z1C.sg):=Sg.fn z1C.sg (z1C.cx k) z1C.body z1C.rs (a1,o0)
def z1C.l4 (k:Nat) (n:Nat) (x5:Ty.D (.int .i64)) (x6:List (Ty.D tUndo)) (x7:Ty.D (.int .i64)) (m1000000:Ty.D tref02Reader):Option (Sg.Out z1C.sg):=loopAt (z1C.cx k) z1C.body [1,1,1,0,1,0] 4 [0,5,6,7] [11,1000000] [] (Sg.K z1C.sg (z1C.cx k) z1C.rs) n ⟨[(0,.ref 1000000 []),(5,.dat (.int .i64) x5),(6,.own tUndo x6),(7,.dat (.int .i64) x7)],[(1000000,.dat tref02Reader m1000000)]⟩
theorem z1C.f_eq (k:Nat) (a1:Ty.D (.int .i64)) (o0:Ty.D tref02Reader):z1C.f k a1 o0=bnd (z0j.f k a1 o0) fun r0=>z1C.l4 k k r0.1 [] 0 r0.2:=by kernel_rfl
theorem z1C.l4_eq (k:Nat) (n4:Nat) (x5:Ty.D (.int .i64)) (x6:List (Ty.D tUndo)) (x7:Ty.D (.int .i64)) (m1000000:Ty.D tref02Reader):z1C.l4 k (n4+1) x5 x6 x7 m1000000=br (ilt x7 x5) (bnd (z1Q.f k m1000000) fun r0=>bnd (z0n.f k r0.2) fun r1=>br (room x6 ((r0.1,r1.1)::[])) (z1C.l4 k n4 x5 (app x6 ((r0.1,r1.1)::[])) (iadd .i64 x7 1) r1.2) none) (br (ieq m1000000.2.2 0) (bnd (z1c.f k x6) fun r2=>br (bnot r2) (some ([],(m1000000.1,(m1000000.2.1,2)))) (br (bnot (ieq m1000000.2.2 0)) (some ([],m1000000)) (some (x6,m1000000)))) (br (bnot (ieq m1000000.2.2 0)) (some ([],m1000000)) (some (x6,m1000000)))):=by kernel_rfl
def z1C.e (k:Nat):Entry:=Sg.entry z1C.sg fun x=>z1C.f k x.1 x.2
theorem z1C.ok (k:Nat):CallOK Tryz.prog 96 (z1C.e k):=fn_ok (c:=z1C.cx k) (code:=z1C.body) (TT.of tt_ok pp_ok mm_ok) (fns_ok ⟨(z0j.ok k),(z1Q.ok k),(z0n.ok k),(z1c.ok k),trivial⟩) mixed Tryz.func96 (by kernel_rfl) (by kernel_rfl) (by kernel_rfl) (by kernel_rfl) (by kernel_rfl) (by kernel_rfl) (fun x=>by kernel_rfl)
def z0C.body:Go.Code:=Tryz.f97.body.getD .skip
def z0C.rs:List Go.ResultVar:=Tryz.f97.results.toList
def z0C.regs:List (Nat × RInfo):=[(0,ri [0,1] [1000000]),(1,ri [0,5] [10,1000000]),(2,ri [0,5,6] [10,1000000]),(3,ri [0,5,6,7] [10,1000000]),(4,⟨[0,5,6,7,13],[10,1000000],[],[],0,[0,5,6,7],[10,1000000],[],[],[]⟩),(6,⟨[0,5,6,7],[10,1000000],[0,4,5],[],0,[],[],[],[],[]⟩),(5,ri [0,5,6,7] [10,1000000]),(7,ri [6,25] [1000000]),(8,ri [4] [1000000]),(9,⟨[4],[1000000],[0,1],[],0,[],[],[],[],[]⟩)]
def z0C.cx (k:Nat):Cx:=⟨tt,pp,[(162,(z0j.e k)),(109,(z1Q.e k))],z0C.regs,k,mm⟩
@[reducible] def z0C.sg:Sg:=⟨[.ref,.dat (.int .i64)],[tref02Reader],.own tDot,[tref02Reader]⟩
def z0C.f (k:Nat) (a1:Ty.D (.int .i64)) (o0:Ty.D tref02Reader):Option (Sg.Out z0C.sg):=Sg.fn z0C.sg (z0C.cx k) z0C.body z0C.rs (a1,o0)
def z0C.l4 (k:Nat) (n:Nat) (x5:Ty.D (.int .i64)) (x6:List (Ty.D tDot)) (x7:Ty.D (.int .i64)) (m1000000:Ty.D tref02Reader):Option (Sg.Out z0C.sg):=loopAt (z0C.cx k) z0C.body [1,1,1,0,1,0] 4 [0,5,6,7] [10,1000000] [] (Sg.K z0C.sg (z0C.cx k) z0C.rs) n ⟨[(0,.ref 1000000 []),(5,.dat (.int .i64) x5),(6,.own tDot x6),(7,.dat (.int .i64) x7)],[(1000000,.dat tref02Reader m1000000)]⟩
theorem z0C.f_eq (k:Nat) (a1:Ty.D (.int .i64)) (o0:Ty.D tref02Reader):z0C.f k a1 o0=bnd (z0j.f k a1 o0) fun r0=>z0C.l4 k k r0.1 [] 0 r0.2:=by kernel_rfl
theorem z0C.l4_eq (k:Nat) (n4:Nat) (x5:Ty.D (.int .i64)) (x6:List (Ty.D tDot)) (x7:Ty.D (.int .i64)) (m1000000:Ty.D tref02Reader):z0C.l4 k (n4+1) x5 x6 x7 m1000000=br (ilt x7 x5) (bnd (z1Q.f k m1000000) fun r0=>br (room x6 (r0.1::[])) (z0C.l4 k n4 x5 (app x6 (r0.1::[])) (iadd .i64 x7 1) r0.2) none) (br (bnot (ieq m1000000.2.2 0)) (some ([],m1000000)) (some (x6,m1000000))):=by kernel_rfl
def z0C.e (k:Nat):Entry:=Sg.entry z0C.sg fun x=>z0C.f k x.1 x.2
theorem z0C.ok (k:Nat):CallOK Tryz.prog 97 (z0C.e k):=fn_ok (c:=z0C.cx k) (code:=z0C.body) (TT.of tt_ok pp_ok mm_ok) (fns_ok ⟨(z0j.ok k),(z1Q.ok k),trivial⟩) mixed Tryz.func97 (by kernel_rfl) (by kernel_rfl) (by kernel_rfl) (by kernel_rfl) (by kernel_rfl) (by kernel_rfl) (fun x=>by kernel_rfl)
def z0x.body:Go.Code:=Tryz.f33.body.getD .skip
def z0x.rs:List Go.ResultVar:=Tryz.f33.results.toList
def z0x.regs:List (Nat × RInfo):=[(0,ri [0,2] [2,1000000]),(1,⟨[0,2,3],[2,3,1000000],[2],[],0,[],[],[],[],[]⟩),(2,⟨[0,2,3],[2,3,1000000],[3],[],0,[],[],[],[],[]⟩),(3,⟨[0,2,3],[2,3,1000000],[3],[],0,[],[],[],[],[]⟩),(4,⟨[0,2,3],[2,3,1000000],[3],[],0,[],[],[],[],[]⟩),(5,ri [2,3,18] [2,3,1000000]),(6,⟨[2],[2,1000000],[1],[],0,[],[],[],[],[]⟩),(7,⟨[2],[2,1000000],[1],[],0,[],[],[],[],[]⟩)]
def z0x.cx (k:Nat):Cx:=⟨tt,pp,[(95,(z0D.e k)),(96,(z1C.e k)),(97,(z0C.e k))],z0x.regs,k,mm⟩
@[reducible] def z0x.sg:Sg:=⟨[.ref],[tref02Reader],.dat tDelta,[tref02Reader]⟩
def z0x.f (k:Nat) (o0:Ty.D tref02Reader):Option (Sg.Out z0x.sg):=Sg.fn z0x.sg (z0x.cx k) z0x.body z0x.rs o0
theorem z0x.f_eq (k:Nat) (o0:Ty.D tref02Reader):z0x.f k o0=bnd (z0D.f k 1000 o0) fun r0=>bnd (z1C.f k 1048576 r0.2) fun r1=>bnd (z0C.f k 1048576 r1.2) fun r2=>br (bnot (ieq r2.2.2.2 0)) (some (([],([],[])),r2.2)) (some ((r0.1,(r1.1,r2.1)),r2.2)):=by kernel_rfl
def z0x.e (k:Nat):Entry:=Sg.entry z0x.sg fun x=>z0x.f k x
theorem z0x.ok (k:Nat):CallOK Tryz.prog 33 (z0x.e k):=fn_ok (c:=z0x.cx k) (code:=z0x.body) (TT.of tt_ok pp_ok mm_ok) (fns_ok ⟨(z0D.ok k),(z1C.ok k),(z0C.ok k),trivial⟩) mixed Tryz.func33 (by kernel_rfl) (by kernel_rfl) (by kernel_rfl) (by kernel_rfl) (by kernel_rfl) (by kernel_rfl) (fun x=>by kernel_rfl)
def z1n.body:Go.Code:=Tryz.f153.body.getD .skip
def z1n.rs:List Go.ResultVar:=Tryz.f153.results.toList
def z1n.regs:List (Nat × RInfo):=[(0,ri [1] [1]),(1,ri [1,3] [1]),(2,⟨[1,3,5],[1],[],[],0,[1,3],[1],[],[],[]⟩),(4,ri [1,3,17] [1]),(5,ri [2] []),(3,ri [1,3] [1]),(6,ri [2] [])]
def z1n.cx (k:Nat):Cx:=⟨tt,pp,[],z1n.regs,k,mm⟩
@[reducible] def z1n.sg:Sg:=⟨[.dat tVec],[],.dat .bool,[]⟩
def z1n.f (k:Nat) (a0:Ty.D tVec):Option (Sg.Out z1n.sg):=Sg.fn z1n.sg (z1n.cx k) z1n.body z1n.rs a0
def z1n.l2 (k:Nat) (n:Nat) (x3:Ty.D (.int .i64)) (m1:Ty.D tVec):Option (Sg.Out z1n.sg):=loopAt (z1n.cx k) z1n.body [1,0,1,0] 2 [1,3] [1] [] (Sg.K z1n.sg (z1n.cx k) z1n.rs) n ⟨[(1,.ref 1 []),(3,.dat (.int .i64) x3)],[(1,.dat tVec m1)]⟩
theorem z1n.f_eq (k:Nat) (a0:Ty.D tVec):z1n.f k a0=z1n.l2 k k 0 a0:=by kernel_rfl
theorem z1n.l2_eq (k:Nat) (n2:Nat) (x3:Ty.D (.int .i64)) (m1:Ty.D tVec):z1n.l2 k (n2+1) x3 m1=br (ilt x3 16) (br (inB x3 16) (br (ilt (rd (.int .i64) m1 (natOf x3)) 0) (some false) (br (inB x3 16) (br (ilt 1048576 (rd (.int .i64) m1 (natOf x3))) (some false) (z1n.l2 k n2 (iadd .i64 x3 1) m1)) none)) none) (some true):=by kernel_rfl
def z1n.e (k:Nat):Entry:=Sg.entry z1n.sg fun x=>z1n.f k x
theorem z1n.ok (k:Nat):CallOK Tryz.prog 153 (z1n.e k):=fn_ok (c:=z1n.cx k) (code:=z1n.body) (TT.of tt_ok pp_ok mm_ok) (fns_ok trivial) mixed Tryz.func153 (by kernel_rfl) (by kernel_rfl) (by kernel_rfl) (by kernel_rfl) (by kernel_rfl) (by kernel_rfl) (fun x=>by kernel_rfl)
def z1u.body:Go.Code:=Tryz.f216.body.getD .skip
def z1u.rs:List Go.ResultVar:=Tryz.f216.results.toList
def z1u.regs:List (Nat × RInfo):=[(0,ri [0,2] [2,1000000]),(1,ri [0,2,3] [2,3,1000000]),(2,ri [0,2,3,4] [2,3,1000000]),(3,⟨[0,2,3,4,7],[2,3,1000000],[],[],0,[0,2,3,4],[2,3,1000000],[],[],[]⟩),(5,ri [0,2,3,4] [2,3,1000000]),(4,ri [0,2,3,4] [2,3,1000000]),(6,ri [0,2,3,23] [2,3,1000000]),(7,ri [0,2,3] [2,3,1000000]),(8,ri [2,3,31] [2,3,1000000]),(9,ri [2] [2,1000000]),(10,ri [2] [2,1000000])]
def z1u.cx (k:Nat):Cx:=⟨tt,pp,[(28,(z0n.e k)),(153,(z1n.e k))],z1u.regs,k,mm⟩
@[reducible] def z1u.sg:Sg:=⟨[.ref],[tref02Reader],.dat tVec,[tref02Reader]⟩
def z1u.f (k:Nat) (o0:Ty.D tref02Reader):Option (Sg.Out z1u.sg):=Sg.fn z1u.sg (z1u.cx k) z1u.body z1u.rs o0
def z1u.l3 (k:Nat) (n:Nat) (x4:Ty.D (.int .i64)) (m2:Ty.D tVec) (m3:Ty.D tVec) (m1000000:Ty.D tref02Reader):Option (Sg.Out z1u.sg):=loopAt (z1u.cx k) z1u.body [1,1,0,1,0] 3 [0,2,3,4] [2,3,1000000] [] (Sg.K z1u.sg (z1u.cx k) z1u.rs) n ⟨[(0,.ref 1000000 []),(2,.ref 2 []),(3,.ref 3 []),(4,.dat (.int .i64) x4)],[(2,.dat tVec m2),(3,.dat tVec m3),(1000000,.dat tref02Reader m1000000)]⟩
theorem z1u.f_eq (k:Nat) (o0:Ty.D tref02Reader):z1u.f k o0=z1u.l3 k k 0 (zarr 16 0) (zarr 16 0) o0:=by kernel_rfl
theorem z1u.l3_eq (k:Nat) (n3:Nat) (x4:Ty.D (.int .i64)) (m2:Ty.D tVec) (m3:Ty.D tVec) (m1000000:Ty.D tref02Reader):z1u.l3 k (n3+1) x4 m2 m3 m1000000=br (ilt x4 16) (bnd (z0n.f k m1000000) fun r0=>br (inB x4 16) (z1u.l3 k n3 (iadd .i64 x4 1) m2 (upd m3 (natOf x4) r0.1) r0.2) none) (br (ieq m1000000.2.2 0) (bnd (z1n.f k m3) fun r1=>br (bnot r1) (some ((zarr 16 0),(m1000000.1,(m1000000.2.1,2)))) (br (bnot (ieq m1000000.2.2 0)) (some ((zarr 16 0),m1000000)) (some (m3,m1000000)))) (br (bnot (ieq m1000000.2.2 0)) (some ((zarr 16 0),m1000000)) (some (m3,m1000000)))):=by kernel_rfl
def z1u.e (k:Nat):Entry:=Sg.entry z1u.sg fun x=>z1u.f k x
theorem z1u.ok (k:Nat):CallOK Tryz.prog 216 (z1u.e k):=fn_ok (c:=z1u.cx k) (code:=z1u.body) (TT.of tt_ok pp_ok mm_ok) (fns_ok ⟨(z0n.ok k),(z1n.ok k),trivial⟩) mixed Tryz.func216 (by kernel_rfl) (by kernel_rfl) (by kernel_rfl) (by kernel_rfl) (by kernel_rfl) (by kernel_rfl) (fun x=>by kernel_rfl)
def z1f.body:Go.Code:=Tryz.f76.body.getD .skip
def z1f.rs:List Go.ResultVar:=Tryz.f76.results.toList
def z1f.regs:List (Nat × RInfo):=[(0,⟨[1],[1],[0],[],0,[],[],[],[],[]⟩),(1,ri [1,14] [1]),(2,ri [2] []),(3,ri [1,3] [1]),(4,⟨[1,3,19],[1],[],[],0,[1,3],[1],[],[],[]⟩),(6,ri [1,3,4] [1,4]),(7,rq [1,3,4,40] [1,4] 14),(8,ri [2] []),(9,rq [1,3,53] [1] 13),(10,ri [2] []),(5,ri [1,3] [1]),(11,ri [2] [])]
def z1f.cx (k:Nat):Cx:=⟨tt,pp,[(153,(z1n.e k)),(77,(z18.e k)),(118,(z0I.e k))],z1f.regs,k,mm⟩
@[reducible] def z1f.sg:Sg:=⟨[.dat tDots],[],.dat .bool,[]⟩
def z1f.f (k:Nat) (a0:Ty.D tDots):Option (Sg.Out z1f.sg):=Sg.fn z1f.sg (z1f.cx k) z1f.body z1f.rs a0
def z1f.l4 (k:Nat) (n:Nat) (x3:Ty.D (.int .i64)) (m1:Ty.D tDots):Option (Sg.Out z1f.sg):=loopAt (z1f.cx k) z1f.body [1,1,0,1,0] 4 [1,3] [1] [] (Sg.K z1f.sg (z1f.cx k) z1f.rs) n ⟨[(1,.ref 1 []),(3,.dat (.int .i64) x3)],[(1,.dat tDots m1)]⟩
theorem z1f.f_eq (k:Nat) (a0:Ty.D tDots):z1f.f k a0=bnd (z1n.f k a0.1) fun r0=>br (bnot r0) (some false) (br (ilt 4096 (ilen a0.2)) (some false) (z1f.l4 k k 0 a0)):=by kernel_rfl
theorem z1f.l4_eq (k:Nat) (n4:Nat) (x3:Ty.D (.int .i64)) (m1:Ty.D tDots):z1f.l4 k (n4+1) x3 m1=br (ilt x3 (ilen m1.2)) (br (inL x3 m1.2) (bnd (z18.f k (rd tDot m1.2 (natOf x3))) fun r0=>br (bnot r0) (some false) (br (inB ((rd tDot m1.2 (natOf x3)).1) 16) (br (ile (isub .i64 ((rd tDot m1.2 (natOf x3)).2) 1) (rd (.int .i64) m1.1 (natOf ((rd tDot m1.2 (natOf x3)).1)))) (some false) (br (ilt 0 x3) (br (inL (isub .i64 x3 1) m1.2) (bnd (z0I.f k (rd tDot m1.2 (natOf (isub .i64 x3 1))) (rd tDot m1.2 (natOf x3))) fun r1=>br (bnot (ieq r1 (-1))) (some false) (z1f.l4 k n4 (iadd .i64 x3 1) m1)) none) (z1f.l4 k n4 (iadd .i64 x3 1) m1))) none)) none) (some true):=by kernel_rfl
def z1f.e (k:Nat):Entry:=Sg.entry z1f.sg fun x=>z1f.f k x
theorem z1f.ok (k:Nat):CallOK Tryz.prog 76 (z1f.e k):=fn_ok (c:=z1f.cx k) (code:=z1f.body) (TT.of tt_ok pp_ok mm_ok) (fns_ok ⟨(z1n.ok k),(z18.ok k),(z0I.ok k),trivial⟩) mixed Tryz.func76 (by kernel_rfl) (by kernel_rfl) (by kernel_rfl) (by kernel_rfl) (by kernel_rfl) (by kernel_rfl) (fun x=>by kernel_rfl)
def z1R.body:Go.Code:=Tryz.f165.body.getD .skip
def z1R.rs:List Go.ResultVar:=Tryz.f165.results.toList
def z1R.regs:List (Nat × RInfo):=[(0,ri [0,2] [2,1000000]),(1,⟨[0,2,3],[2,3,1000000],[2],[],0,[],[],[],[],[]⟩),(2,ri [0,2,3] [2,3,1000000]),(3,⟨[0,2,3],[2,3,1000000],[3],[],0,[],[],[],[],[]⟩),(4,ri [0,2,3,20] [2,3,1000000]),(5,ri [0,2,3] [2,3,1000000]),(6,ri [2,3,28] [2,3,1000000]),(7,⟨[2],[2,1000000],[1],[],0,[],[],[],[],[]⟩),(8,⟨[2],[2,1000000],[1],[],0,[],[],[],[],[]⟩)]
def z1R.cx (k:Nat):Cx:=⟨tt,pp,[(216,(z1u.e k)),(97,(z0C.e k)),(76,(z1f.e k))],z1R.regs,k,mm⟩
@[reducible] def z1R.sg:Sg:=⟨[.ref],[tref02Reader],.dat tDots,[tref02Reader]⟩
def z1R.f (k:Nat) (o0:Ty.D tref02Reader):Option (Sg.Out z1R.sg):=Sg.fn z1R.sg (z1R.cx k) z1R.body z1R.rs o0
theorem z1R.f_eq (k:Nat) (o0:Ty.D tref02Reader):z1R.f k o0=bnd (z1u.f k o0) fun r0=>bnd (z0C.f k 4096 r0.2) fun r1=>br (ieq r1.2.2.2 0) (bnd (z1f.f k (r0.1,r1.1)) fun r2=>br (bnot r2) (some (((zarr 16 0),[]),(r1.2.1,(r1.2.2.1,2)))) (br (bnot (ieq r1.2.2.2 0)) (some (((zarr 16 0),[]),r1.2)) (some ((r0.1,r1.1),r1.2)))) (br (bnot (ieq r1.2.2.2 0)) (some (((zarr 16 0),[]),r1.2)) (some ((r0.1,r1.1),r1.2))):=by kernel_rfl
def z1R.e (k:Nat):Entry:=Sg.entry z1R.sg fun x=>z1R.f k x
theorem z1R.ok (k:Nat):CallOK Tryz.prog 165 (z1R.e k):=fn_ok (c:=z1R.cx k) (code:=z1R.body) (TT.of tt_ok pp_ok mm_ok) (fns_ok ⟨(z1u.ok k),(z0C.ok k),(z1f.ok k),trivial⟩) mixed Tryz.func165 (by kernel_rfl) (by kernel_rfl) (by kernel_rfl) (by kernel_rfl) (by kernel_rfl) (by kernel_rfl) (fun x=>by kernel_rfl)
def z2u.body:Go.Code:=Tryz.f238.body.getD .skip
def z2u.rs:List Go.ResultVar:=Tryz.f238.results.toList
def z2u.regs:List (Nat × RInfo):=[(0,ri [2,3] [2,3]),(1,rq [4] [6] 11)]
def z2u.cx (k:Nat):Cx:=⟨tt,pp,[(77,(z18.e k))],z2u.regs,k,mm⟩
@[reducible] def z2u.sg:Sg:=⟨[.dat tVec,.dat tDot],[],.dat .bool,[]⟩
def z2u.f (k:Nat) (a0:Ty.D tVec) (a1:Ty.D tDot):Option (Sg.Out z2u.sg):=Sg.fn z2u.sg (z2u.cx k) z2u.body z2u.rs (a0,a1)
theorem z2u.f_eq (k:Nat) (a0:Ty.D tVec) (a1:Ty.D tDot):z2u.f k a0 a1=bnd (z18.f k a1) fun r0=>br r0 (br (inB a1.1 16) (some (ile a1.2 (rd (.int .i64) a0 (natOf a1.1)))) none) (some false):=by kernel_rfl
def z2u.e (k:Nat):Entry:=Sg.entry z2u.sg fun x=>z2u.f k x.1 x.2
theorem z2u.ok (k:Nat):CallOK Tryz.prog 238 (z2u.e k):=fn_ok (c:=z2u.cx k) (code:=z2u.body) (TT.of tt_ok pp_ok mm_ok) (fns_ok ⟨(z18.ok k),trivial⟩) mixed Tryz.func238 (by kernel_rfl) (by kernel_rfl) (by kernel_rfl) (by kernel_rfl) (by kernel_rfl) (by kernel_rfl) (fun x=>by kernel_rfl)
def z2n.body:Go.Code:=Tryz.f202.body.getD .skip
def z2n.rs:List Go.ResultVar:=Tryz.f202.results.toList
def z2n.regs:List (Nat × RInfo):=[(0,⟨[2,3],[2,3],[0],[],0,[],[],[],[],[]⟩),(1,ri [2,3,9] [2,3,9]),(2,ri [4] []),(3,ri [2,3,5] [2,3]),(4,⟨[2,3,5,14],[2,3],[],[],0,[2,3,5],[2,3],[],[],[]⟩),(6,rq [2,3,5,23] [2,3] 7),(7,ri [4] []),(5,ri [2,3,5] [2,3]),(8,ri [4] [])]
def z2n.cx (k:Nat):Cx:=⟨tt,pp,[(238,(z2u.e k))],z2n.regs,k,mm⟩
@[reducible] def z2n.sg:Sg:=⟨[.dat tDots,.dat tDot],[],.dat .bool,[]⟩
def z2n.f (k:Nat) (a0:Ty.D tDots) (a1:Ty.D tDot):Option (Sg.Out z2n.sg):=Sg.fn z2n.sg (z2n.cx k) z2n.body z2n.rs (a0,a1)
def z2n.l4 (k:Nat) (n:Nat) (x5:Ty.D (.int .i64)) (m2:Ty.D tDots) (m3:Ty.D tDot):Option (Sg.Out z2n.sg):=loopAt (z2n.cx k) z2n.body [1,1,0,1,0] 4 [2,3,5] [2,3] [] (Sg.K z2n.sg (z2n.cx k) z2n.rs) n ⟨[(2,.ref 2 []),(3,.ref 3 []),(5,.dat (.int .i64) x5)],[(2,.dat tDots m2),(3,.dat tDot m3)]⟩
theorem z2n.f_eq (k:Nat) (a0:Ty.D tDots) (a1:Ty.D tDot):z2n.f k a0 a1=bnd (z2u.f k a0.1 a1) fun r0=>br r0 (some true) (z2n.l4 k k 0 a0 a1):=by kernel_rfl
theorem z2n.l4_eq (k:Nat) (n4:Nat) (x5:Ty.D (.int .i64)) (m2:Ty.D tDots) (m3:Ty.D tDot):z2n.l4 k (n4+1) x5 m2 m3=br (ilt x5 (ilen m2.2)) (br (inL x5 m2.2) (br (deq tDot (rd tDot m2.2 (natOf x5)) m3) (some true) (z2n.l4 k n4 (iadd .i64 x5 1) m2 m3)) none) (some false):=by kernel_rfl
def z2n.e (k:Nat):Entry:=Sg.entry z2n.sg fun x=>z2n.f k x.1 x.2
theorem z2n.ok (k:Nat):CallOK Tryz.prog 202 (z2n.e k):=fn_ok (c:=z2n.cx k) (code:=z2n.body) (TT.of tt_ok pp_ok mm_ok) (fns_ok ⟨(z2u.ok k),trivial⟩) mixed Tryz.func202 (by kernel_rfl) (by kernel_rfl) (by kernel_rfl) (by kernel_rfl) (by kernel_rfl) (by kernel_rfl) (fun x=>by kernel_rfl)
def z0R.body:Go.Code:=Tryz.f203.body.getD .skip
def z0R.rs:List Go.ResultVar:=Tryz.f203.results.toList
def z0R.regs:List (Nat × RInfo):=[(0,⟨[1,2],[1,2],[0],[],0,[],[],[],[],[]⟩),(1,⟨[1,2,3],[1,2,3],[4],[],0,[],[],[],[],[]⟩),(2,ri [1,2,3,4] [1,2,3]),(3,⟨[1,2,3,4,13],[1,2,3],[],[],0,[1,2,3,4],[1,2,3],[],[],[]⟩),(5,ri [1,2,3,4,5] [1,2,3,5]),(6,rq [1,2,3,4,5,29] [1,2,3,5] 9),(7,ri [1,2,3,4] [1,2,3]),(8,rq [1,2,3,4,5,43] [1,2,3,5] 8),(9,⟨[1,2,3,4],[1,2,3],[1,4,6],[],0,[],[],[],[],[]⟩),(4,ri [1,2,3,4] [1,2,3]),(10,⟨[2],[2],[1],[],0,[],[],[],[],[]⟩)]
def z0R.cx (k:Nat):Cx:=⟨tt,pp,[],z0R.regs,k,mm⟩
@[reducible] def z0R.sg:Sg:=⟨[.dat tDots],[],.dat tDots,[]⟩
def z0R.f (k:Nat) (a0:Ty.D tDots):Option (Sg.Out z0R.sg):=Sg.fn z0R.sg (z0R.cx k) z0R.body z0R.rs a0
def z0R.l3 (k:Nat) (n:Nat) (x4:Ty.D (.int .i64)) (m1:Ty.D tDots) (m2a:Ty.D tVec) (m2b:List (Ty.D tDot)) (m3a:Ty.D tVec) (m3b:List (Ty.D tDot)):Option (Sg.Out z0R.sg):=loopAt (z0R.cx k) z0R.body [1,1,0,1,0] 3 [1,2,3,4] [1,2,3] [] (Sg.K z0R.sg (z0R.cx k) z0R.rs) n ⟨[(1,.ref 1 []),(2,.ref 2 []),(3,.ref 3 []),(4,.dat (.int .i64) x4)],[(1,.dat tDots m1),(2,.pr (.dat tVec m2a) (.own tDot m2b)),(3,.pr (.dat tVec m3a) (.own tDot m3b))]⟩
theorem z0R.f_eq (k:Nat) (a0:Ty.D tDots):z0R.f k a0=z0R.l3 k k 0 a0 (zarr 16 0) [] a0.1 []:=by kernel_rfl
theorem z0R.l3_eq (k:Nat) (n3:Nat) (x4:Ty.D (.int .i64)) (m1:Ty.D tDots) (m2a:Ty.D tVec) (m2b:List (Ty.D tDot)) (m3a:Ty.D tVec) (m3b:List (Ty.D tDot)):z0R.l3 k (n3+1) x4 m1 m2a m2b m3a m3b=br (ilt x4 (ilen m1.2)) (br (inL x4 m1.2) (br (inB ((rd tDot m1.2 (natOf x4)).1) 16) (br (ieq ((rd tDot m1.2 (natOf x4)).2) (iadd .i64 (rd (.int .i64) m3a (natOf ((rd tDot m1.2 (natOf x4)).1))) 1)) (br (inB ((rd tDot m1.2 (natOf x4)).1) 16) (z0R.l3 k n3 (iadd .i64 x4 1) m1 m2a m2b (upd m3a (natOf ((rd tDot m1.2 (natOf x4)).1)) ((rd tDot m1.2 (natOf x4)).2)) m3b) none) (br (inB ((rd tDot m1.2 (natOf x4)).1) 16) (br (ilt (rd (.int .i64) m3a (natOf ((rd tDot m1.2 (natOf x4)).1))) ((rd tDot m1.2 (natOf x4)).2)) (br (room m3b ((rd tDot m1.2 (natOf x4))::[])) (z0R.l3 k n3 (iadd .i64 x4 1) m1 m2a m2b m3a (app m3b ((rd tDot m1.2 (natOf x4))::[]))) none) (z0R.l3 k n3 (iadd .i64 x4 1) m1 m2a m2b m3a m3b)) none)) none) none) (some (m3a,m3b)):=by kernel_rfl
def z0R.e (k:Nat):Entry:=Sg.entry z0R.sg fun x=>z0R.f k x
theorem z0R.ok (k:Nat):CallOK Tryz.prog 203 (z0R.e k):=fn_ok (c:=z0R.cx k) (code:=z0R.body) (TT.of tt_ok pp_ok mm_ok) (fns_ok trivial) mixed Tryz.func203 (by kernel_rfl) (by kernel_rfl) (by kernel_rfl) (by kernel_rfl) (by kernel_rfl) (by kernel_rfl) (fun x=>by kernel_rfl)
def z29.body:Go.Code:=Tryz.f150.body.getD .skip
def z29.rs:List Go.ResultVar:=Tryz.f150.results.toList
def z29.regs:List (Nat × RInfo):=[(0,⟨[2,3,4],[2,3,4],[0],[],0,[],[],[],[],[]⟩),(1,ri [2,3,4,15] [2,3,4,14]),(2,⟨[4],[4],[1],[],0,[],[],[],[],[]⟩),(3,ri [2,3,4,5] [2,3,4]),(4,ri [2,3,4,5,6] [2,3,4]),(5,ri [2,3,4,5,6,7] [2,3,4]),(6,⟨[2,3,4,5,6,7,21],[2,3,4],[],[],0,[2,3,4,5,6,7],[2,3,4],[],[],[]⟩),(8,rq [2,3,4,5,6,7,35] [2,3,4] 12),(9,⟨[2,3,4,5,7],[2,3,4],[0,3,4],[],0,[],[],[],[],[]⟩),(10,ri [2,3,4,5,6,7] [2,3,4]),(11,⟨[2,3,4,5,6,7],[2,3,4],[0,7,8],[],0,[],[],[],[],[]⟩),(7,ri [2,3,4,5,6,7] [2,3,4]),(12,ri [2,3,4,5,49] [2,3,4]),(13,⟨[2,4,5],[2,4],[0,3,4],[],0,[],[],[],[],[]⟩),(14,⟨[4],[4],[5],[],0,[],[],[],[],[]⟩)]
def z29.cx (k:Nat):Cx:=⟨tt,pp,[(77,(z18.e k)),(202,(z2n.e k)),(118,(z0I.e k)),(203,(z0R.e k))],z29.regs,k,mm⟩
@[reducible] def z29.sg:Sg:=⟨[.dat tDots,.dat tDot],[],.dat tDots,[]⟩
def z29.f (k:Nat) (a0:Ty.D tDots) (a1:Ty.D tDot):Option (Sg.Out z29.sg):=Sg.fn z29.sg (z29.cx k) z29.body z29.rs (a0,a1)
def z29.l6 (k:Nat) (n:Nat) (x5:List (Ty.D tDot)) (x6:Ty.D .bool) (x7:Ty.D (.int .i64)) (m2:Ty.D tDots) (m3:Ty.D tDot) (m4a:Ty.D tVec) (m4b:List (Ty.D tDot)):Option (Sg.Out z29.sg):=loopAt (z29.cx k) z29.body [1,1,1,1,0,1,0] 6 [2,3,4,5,6,7] [2,3,4] [] (Sg.K z29.sg (z29.cx k) z29.rs) n ⟨[(2,.ref 2 []),(3,.ref 3 []),(4,.ref 4 []),(5,.own tDot x5),(6,.dat .bool x6),(7,.dat (.int .i64) x7)],[(2,.dat tDots m2),(3,.dat tDot m3),(4,.pr (.dat tVec m4a) (.own tDot m4b))]⟩
theorem z29.f_eq (k:Nat) (a0:Ty.D tDots) (a1:Ty.D tDot):z29.f k a0 a1=bnd (z18.f k a1) fun r0=>br (bnot r0) (some a0) (bnd (z2n.f k a0 a1) fun r1=>br r1 (some a0) (z29.l6 k k [] false 0 a0 a1 (zarr 16 0) [])):=by kernel_rfl
theorem z29.l6_eq (k:Nat) (n6:Nat) (x5:List (Ty.D tDot)) (x6:Ty.D .bool) (x7:Ty.D (.int .i64)) (m2:Ty.D tDots) (m3:Ty.D tDot) (m4a:Ty.D tVec) (m4b:List (Ty.D tDot)):z29.l6 k (n6+1) x5 x6 x7 m2 m3 m4a m4b=br (ilt x7 (ilen m2.2)) (br (bnot x6) (br (inL x7 m2.2) (bnd (z0I.f k m3 (rd tDot m2.2 (natOf x7))) fun r0=>br (ilt r0 0) (br (room x5 (m3::[])) (br (inL x7 m2.2) (br (room (app x5 (m3::[])) ((rd tDot m2.2 (natOf x7))::[])) (z29.l6 k n6 (app (app x5 (m3::[])) ((rd tDot m2.2 (natOf x7))::[])) true (iadd .i64 x7 1) m2 m3 m4a m4b) none) none) none) (br (inL x7 m2.2) (br (room x5 ((rd tDot m2.2 (natOf x7))::[])) (z29.l6 k n6 (app x5 ((rd tDot m2.2 (natOf x7))::[])) x6 (iadd .i64 x7 1) m2 m3 m4a m4b) none) none)) none) (br (inL x7 m2.2) (br (room x5 ((rd tDot m2.2 (natOf x7))::[])) (z29.l6 k n6 (app x5 ((rd tDot m2.2 (natOf x7))::[])) x6 (iadd .i64 x7 1) m2 m3 m4a m4b) none) none)) (br (bnot x6) (br (room x5 (m3::[])) (bnd (z0R.f k (m2.1,(app x5 (m3::[])))) fun r1=>some r1) none) (bnd (z0R.f k (m2.1,x5)) fun r2=>some r2)):=by kernel_rfl
def z29.e (k:Nat):Entry:=Sg.entry z29.sg fun x=>z29.f k x.1 x.2
theorem z29.ok (k:Nat):CallOK Tryz.prog 150 (z29.e k):=fn_ok (c:=z29.cx k) (code:=z29.body) (TT.of tt_ok pp_ok mm_ok) (fns_ok ⟨(z18.ok k),(z2n.ok k),(z0I.ok k),(z0R.ok k),trivial⟩) mixed Tryz.func150 (by kernel_rfl) (by kernel_rfl) (by kernel_rfl) (by kernel_rfl) (by kernel_rfl) (by kernel_rfl) (fun x=>by kernel_rfl)
def z10.body:Go.Code:=Tryz.f78.body.getD .skip
def z10.rs:List Go.ResultVar:=Tryz.f78.results.toList
def z10.regs:List (Nat × RInfo):=[(0,ri [0,2] [2]),(1,⟨[0,2,3],[2,3],[2],[],0,[],[],[],[],[]⟩),(2,ri [0,2,3,4] [2,3]),(3,⟨[0,2,3,4,9],[2,3],[],[],0,[0,2,10000003,4],[2,10000003],[],[],[]⟩),(5,⟨[0,2,3,4],[2,3],[7],[],7,[],[],[],[[],[],[],[],[],[],[0,5],[0,5]],[]⟩),(4,ri [0,2,3,4] [2,3]),(6,⟨[2],[2],[1],[],0,[],[],[],[],[]⟩)]
def z10.cx (k:Nat):Cx:=⟨tt,pp,[(150,(z29.e k))],z10.regs,k,mm⟩
@[reducible] def z10.sg:Sg:=⟨[.dat (.slc tTxn)],[],.dat tDots,[]⟩
def z10.f (k:Nat) (a0:Ty.D (.slc tTxn)):Option (Sg.Out z10.sg):=Sg.fn z10.sg (z10.cx k) z10.body z10.rs a0
def z10.l3 (k:Nat) (n:Nat) (x0:Ty.D (.slc tTxn)) (x4:Ty.D (.int .i64)) (m2a:Ty.D tVec) (m2b:List (Ty.D tDot)) (m3:Ty.D tDots):Option (Sg.Out z10.sg):=loopAt (z10.cx k) z10.body [1,1,0,1,0] 3 [0,2,10000003,4] [2,10000003] [] (Sg.K z10.sg (z10.cx k) z10.rs) n ⟨[(0,.dat (.slc tTxn) x0),(2,.ref 2 []),(3,.ref 3 []),(4,.dat (.int .i64) x4)],[(2,.pr (.dat tVec m2a) (.own tDot m2b)),(3,.dat tDots m3)]⟩
theorem z10.f_eq (k:Nat) (a0:Ty.D (.slc tTxn)):z10.f k a0=z10.l3 k k a0 0 (zarr 16 0) [] ((zarr 16 0),[]):=by kernel_rfl
theorem z10.l3_eq (k:Nat) (n3:Nat) (x0:Ty.D (.slc tTxn)) (x4:Ty.D (.int .i64)) (m2a:Ty.D tVec) (m2b:List (Ty.D tDot)) (m3:Ty.D tDots):z10.l3 k (n3+1) x0 x4 m2a m2b m3=br (ilt x4 (ilen x0)) (br (inL x4 x0) (bnd (z29.f k m3 ((rd tTxn x0 (natOf x4)).1)) fun r0=>z10.l3 k n3 x0 (iadd .i64 x4 1) m2a m2b r0) none) (some m3):=by kernel_rfl
def z10.e (k:Nat):Entry:=Sg.entry z10.sg fun x=>z10.f k x
theorem z10.ok (k:Nat):CallOK Tryz.prog 78 (z10.e k):=fn_ok (c:=z10.cx k) (code:=z10.body) (TT.of tt_ok pp_ok mm_ok) (fns_ok ⟨(z29.ok k),trivial⟩) mixed Tryz.func78 (by kernel_rfl) (by kernel_rfl) (by kernel_rfl) (by kernel_rfl) (by kernel_rfl) (by kernel_rfl) (fun x=>by kernel_rfl)
def z1Y.body:Go.Code:=Tryz.f68.body.getD .skip
def z1Y.rs:List Go.ResultVar:=Tryz.f68.results.toList
def z1Y.regs:List (Nat × RInfo):=[(0,ri [0,1] []),(1,ri [0,1,10] []),(2,ri [4] []),(3,ri [0,1,5] []),(4,⟨[0,1,5,14],[],[],[],0,[0,1,5],[],[],[],[]⟩),(6,rq [0,1,5,25] [] 9),(7,ri [4] []),(5,ri [0,1,5] []),(8,ri [4] [])]
def z1Y.cx (k:Nat):Cx:=⟨tt,pp,[],z1Y.regs,k,mm⟩
@[reducible] def z1Y.sg:Sg:=⟨[.dat (.slc tDot),.dat (.slc tDot)],[],.dat .bool,[]⟩
def z1Y.f (k:Nat) (a0:Ty.D (.slc tDot)) (a1:Ty.D (.slc tDot)):Option (Sg.Out z1Y.sg):=Sg.fn z1Y.sg (z1Y.cx k) z1Y.body z1Y.rs (a0,a1)
def z1Y.l4 (k:Nat) (n:Nat) (x0:Ty.D (.slc tDot)) (x1:Ty.D (.slc tDot)) (x5:Ty.D (.int .i64)):Option (Sg.Out z1Y.sg):=loopAt (z1Y.cx k) z1Y.body [1,1,0,1,0] 4 [0,1,5] [] [] (Sg.K z1Y.sg (z1Y.cx k) z1Y.rs) n ⟨[(0,.dat (.slc tDot) x0),(1,.dat (.slc tDot) x1),(5,.dat (.int .i64) x5)],[]⟩
theorem z1Y.f_eq (k:Nat) (a0:Ty.D (.slc tDot)) (a1:Ty.D (.slc tDot)):z1Y.f k a0 a1=br (bnot (ieq (ilen a0) (ilen a1))) (some false) (z1Y.l4 k k a0 a1 0):=by kernel_rfl
theorem z1Y.l4_eq (k:Nat) (n4:Nat) (x0:Ty.D (.slc tDot)) (x1:Ty.D (.slc tDot)) (x5:Ty.D (.int .i64)):z1Y.l4 k (n4+1) x0 x1 x5=br (ilt x5 (ilen x0)) (br (inL x5 x0) (br (inL x5 x1) (br (bnot (deq tDot (rd tDot x0 (natOf x5)) (rd tDot x1 (natOf x5)))) (some false) (z1Y.l4 k n4 x0 x1 (iadd .i64 x5 1))) none) none) (some true):=by kernel_rfl
def z1Y.e (k:Nat):Entry:=Sg.entry z1Y.sg fun x=>z1Y.f k x.1 x.2
theorem z1Y.ok (k:Nat):CallOK Tryz.prog 68 (z1Y.e k):=fn_ok (c:=z1Y.cx k) (code:=z1Y.body) (TT.of tt_ok pp_ok mm_ok) (fns_ok trivial) mixed Tryz.func68 (by kernel_rfl) (by kernel_rfl) (by kernel_rfl) (by kernel_rfl) (by kernel_rfl) (by kernel_rfl) (fun x=>by kernel_rfl)
def z1t.body:Go.Code:=Tryz.f71.body.getD .skip
def z1t.rs:List Go.ResultVar:=Tryz.f71.results.toList
def z1t.regs:List (Nat × RInfo):=[(0,⟨[2,3],[2,3],[0,1],[],0,[],[],[],[],[]⟩),(1,ri [4] [15])]
def z1t.cx (k:Nat):Cx:=⟨tt,pp,[(68,(z1Y.e k))],z1t.regs,k,mm⟩
@[reducible] def z1t.sg:Sg:=⟨[.dat tDots,.dat tDots],[],.dat .bool,[]⟩
def z1t.f (k:Nat) (a0:Ty.D tDots) (a1:Ty.D tDots):Option (Sg.Out z1t.sg):=Sg.fn z1t.sg (z1t.cx k) z1t.body z1t.rs (a0,a1)
theorem z1t.f_eq (k:Nat) (a0:Ty.D tDots) (a1:Ty.D tDots):z1t.f k a0 a1=br (deq tVec a0.1 a1.1) (bnd (z1Y.f k a0.2 a1.2) fun r0=>some r0) (some false):=by kernel_rfl
def z1t.e (k:Nat):Entry:=Sg.entry z1t.sg fun x=>z1t.f k x.1 x.2
theorem z1t.ok (k:Nat):CallOK Tryz.prog 71 (z1t.e k):=fn_ok (c:=z1t.cx k) (code:=z1t.body) (TT.of tt_ok pp_ok mm_ok) (fns_ok ⟨(z1Y.ok k),trivial⟩) mixed Tryz.func71 (by kernel_rfl) (by kernel_rfl) (by kernel_rfl) (by kernel_rfl) (by kernel_rfl) (by kernel_rfl) (fun x=>by kernel_rfl)
def z0X.body:Go.Code:=Tryz.f19.body.getD .skip
def z0X.rs:List Go.ResultVar:=Tryz.f19.results.toList
def z0X.regs:List (Nat × RInfo):=[(0,⟨[1],[1],[0],[],0,[],[],[],[],[]⟩),(1,ri [1,27] [1]),(2,ri [2] [72,79]),(3,ri [1,3] [1]),(4,⟨[1,3,32],[1],[],[],0,[1,3],[1],[],[],[]⟩),(6,ri [1,3,41] [1]),(7,ri [2] [72,79]),(5,ri [1,3] [1]),(8,ri [1,4] [1]),(9,⟨[1,4,43],[1],[],[],0,[1,4],[1],[],[],[]⟩),(11,ri [1,4,51] [1]),(12,ri [2] [72,79]),(13,ri [1,4,5] [1]),(14,⟨[1,4,5,58],[1],[],[],0,[1,4,5],[1],[],[],[]⟩),(16,ri [1,4,5,69] [1]),(17,ri [2] [72,79]),(15,ri [1,4,5] [1]),(10,ri [1,4] [1]),(18,rq [2] [72,79] 11)]
def z0X.cx (k:Nat):Cx:=⟨tt,pp,[(75,(z1o.e k)),(49,(z1c.e k)),(76,(z1f.e k)),(48,(z1g.e k)),(77,(z18.e k)),(78,(z10.e k)),(71,(z1t.e k))],z0X.regs,k,mm⟩
@[reducible] def z0X.sg:Sg:=⟨[.dat tState],[],.dat .bool,[]⟩
def z0X.f (k:Nat) (a0:Ty.D tState):Option (Sg.Out z0X.sg):=Sg.fn z0X.sg (z0X.cx k) z0X.body z0X.rs a0
def z0X.l4 (k:Nat) (n:Nat) (x3:Ty.D (.int .i64)) (m1:Ty.D tState):Option (Sg.Out z0X.sg):=loopAt (z0X.cx k) z0X.body [1,1,0,1,0] 4 [1,3] [1] [] (Sg.K z0X.sg (z0X.cx k) z0X.rs) n ⟨[(1,.ref 1 []),(3,.dat (.int .i64) x3)],[(1,.dat tState m1)]⟩
def z0X.l9 (k:Nat) (n:Nat) (x4:Ty.D (.int .i64)) (m1:Ty.D tState):Option (Sg.Out z0X.sg):=loopAt (z0X.cx k) z0X.body [1,1,1,0,1,0] 9 [1,4] [1] [] (Sg.K z0X.sg (z0X.cx k) z0X.rs) n ⟨[(1,.ref 1 []),(4,.dat (.int .i64) x4)],[(1,.dat tState m1)]⟩
def z0X.l14 (k:Nat) (n9:Nat) (n:Nat) (x4:Ty.D (.int .i64)) (x5:Ty.D (.int .i64)) (m1:Ty.D tState):Option (Sg.Out z0X.sg):=loopAt (z0X.cx k) z0X.body [1,1,1,0,1,0,0,1,0,0,1,1,0] 14 [1,4,5] [1] [n9] (Sg.K z0X.sg (z0X.cx k) z0X.rs) n ⟨[(1,.ref 1 []),(4,.dat (.int .i64) x4),(5,.dat (.int .i64) x5)],[(1,.dat tState m1)]⟩
theorem z0X.f_eq (k:Nat) (a0:Ty.D tState):z0X.f k a0=br (ilt 1000 (ilen a0.1)) (some false) (bnd (z1o.f k a0.1) fun r0=>br (bnot r0) (some false) (bnd (z1c.f k a0.2.1) fun r1=>br (bnot r1) (some false) (bnd (z1f.f k a0.2.2.2.1) fun r2=>br (bnot r2) (some false) (z0X.l4 k k 0 a0)))):=by kernel_rfl
theorem z0X.l4_eq (k:Nat) (n4:Nat) (x3:Ty.D (.int .i64)) (m1:Ty.D tState):z0X.l4 k (n4+1) x3 m1=br (ilt x3 (ilen m1.1)) (br (inL x3 m1.1) (bnd (z1g.f k (rd tTxn m1.1 (natOf x3))) fun r0=>br (bnot (ieq r0 0)) (some false) (z0X.l4 k n4 (iadd .i64 x3 1) m1)) none) (z0X.l9 k k 0 m1):=by kernel_rfl
theorem z0X.l9_eq (k:Nat) (n9:Nat) (x4:Ty.D (.int .i64)) (m1:Ty.D tState):z0X.l9 k (n9+1) x4 m1=br (ilt x4 8) (br (inB x4 8) (br (ilt 1000 (ilen (rd (.slc tDot) m1.2.2.2.2 (natOf x4)))) (some false) (z0X.l14 k n9 k x4 0 m1)) none) (bnd (z1f.f k m1.2.2.1) fun r0=>br r0 (bnd (z10.f k m1.1) fun r1=>bnd (z1t.f k m1.2.2.1 r1) fun r2=>some r2) (some false)):=by kernel_rfl
theorem z0X.l14_eq (k:Nat) (n9:Nat) (n14:Nat) (x4:Ty.D (.int .i64)) (x5:Ty.D (.int .i64)) (m1:Ty.D tState):z0X.l14 k n9 (n14+1) x4 x5 m1=br (inB x4 8) (br (ilt x5 (ilen (rd (.slc tDot) m1.2.2.2.2 (natOf x4)))) (br (inB x4 8) (br (inL x5 (rd (.slc tDot) m1.2.2.2.2 (natOf x4))) (bnd (z18.f k (rd tDot (rd (.slc tDot) m1.2.2.2.2 (natOf x4)) (natOf x5))) fun r0=>br (bnot r0) (some false) (z0X.l14 k n9 n14 x4 (iadd .i64 x5 1) m1)) none) none) (z0X.l9 k n9 (iadd .i64 x4 1) m1)) none:=by kernel_rfl
def z0X.e (k:Nat):Entry:=Sg.entry z0X.sg fun x=>z0X.f k x
theorem z0X.ok (k:Nat):CallOK Tryz.prog 19 (z0X.e k):=fn_ok (c:=z0X.cx k) (code:=z0X.body) (TT.of tt_ok pp_ok mm_ok) (fns_ok ⟨(z1o.ok k),(z1c.ok k),(z1f.ok k),(z1g.ok k),(z18.ok k),(z10.ok k),(z1t.ok k),trivial⟩) mixed Tryz.func19 (by kernel_rfl) (by kernel_rfl) (by kernel_rfl) (by kernel_rfl) (by kernel_rfl) (by kernel_rfl) (fun x=>by kernel_rfl)
end Go.Proofs.YtggcagclpkhlhaaGreatDoor
end
noncomputable section
/- The program's functions, as plain equations. -/
namespace Go.Proofs.YtggcagclpkhlhaaGreatDoor
open Pal
set_option maxRecDepth 100000
def z1L.body:Go.Code:=Tryz.f110.body.getD .skip
def z1L.rs:List Go.ResultVar:=Tryz.f110.results.toList
def z1L.regs:List (Nat × RInfo):=[(0,ri [0,2] [2,1000000]),(1,⟨[0,2,3],[2,3,1000000],[2],[],0,[],[],[],[],[]⟩),(2,⟨[0,2,3],[2,3,1000000],[3],[],0,[],[],[],[],[]⟩),(3,⟨[0,2,3],[2,3,1000000],[3],[],0,[],[],[],[],[]⟩),(4,⟨[0,2,3],[2,3,1000000],[3],[],0,[],[],[],[],[]⟩),(5,ri [0,2,3,4] [2,3,1000000]),(6,⟨[0,2,3,4,16],[2,3,1000000],[],[],0,[0,2,3,4],[2,3,1000000],[],[],[]⟩),(8,⟨[0,2,3,4],[2,3,1000000],[5],[],0,[],[],[],[],[]⟩),(7,ri [0,2,3,4] [2,3,1000000]),(9,⟨[0,2,3],[2,3,1000000],[4],[],0,[],[],[],[],[]⟩),(10,ri [0,2,3,37] [2,3,1000000]),(11,ri [0,2,3] [2,3,1000000]),(12,ri [2,3,45] [2,3,1000000]),(13,⟨[2],[2,1000000],[1],[],0,[],[],[],[],[]⟩),(14,⟨[2],[2,1000000],[1],[],0,[],[],[],[],[]⟩)]
def z1L.cx (k:Nat):Cx:=⟨tt,pp,[(95,(z0D.e k)),(96,(z1C.e k)),(165,(z1R.e k)),(97,(z0C.e k)),(78,(z10.e k)),(19,(z0X.e k))],z1L.regs,k,mm⟩
@[reducible] def z1L.sg:Sg:=⟨[.ref],[tref02Reader],.dat tState,[tref02Reader]⟩
def z1L.f (k:Nat) (o0:Ty.D tref02Reader):Option (Sg.Out z1L.sg):=Sg.fn z1L.sg (z1L.cx k) z1L.body z1L.rs o0
def z1L.l6 (k:Nat) (n:Nat) (x4:Ty.D (.int .i64)) (m2a:List (Ty.D tTxn)) (m2ba:List (Ty.D tUndo)) (m2bbaa:Ty.D tVec) (m2bbab:List (Ty.D tDot)) (m2bbbaa:Ty.D tVec) (m2bbbab:List (Ty.D tDot)) (m2bbbb:Ty.D (.arr 8 (.slc tDot))) (m3a:List (Ty.D tTxn)) (m3ba:List (Ty.D tUndo)) (m3bbaa:Ty.D tVec) (m3bbab:List (Ty.D tDot)) (m3bbb:Ty.D (.pair tDots (.arr 8 (.slc tDot)))) (m1000000:Ty.D tref02Reader):Option (Sg.Out z1L.sg):=loopAt (z1L.cx k) z1L.body [1,1,1,1,1,0,1,0] 6 [0,2,3,4] [2,3,1000000] [] (Sg.K z1L.sg (z1L.cx k) z1L.rs) n ⟨[(0,.ref 1000000 []),(2,.ref 2 []),(3,.ref 3 []),(4,.dat (.int .i64) x4)],[(2,.pr (.own tTxn m2a) (.pr (.own tUndo m2ba) (.pr (.pr (.dat tVec m2bbaa) (.own tDot m2bbab)) (.pr (.pr (.dat tVec m2bbbaa) (.own tDot m2bbbab)) (.dat (.arr 8 (.slc tDot)) m2bbbb))))),(3,.pr (.own tTxn m3a) (.pr (.own tUndo m3ba) (.pr (.pr (.dat tVec m3bbaa) (.own tDot m3bbab)) (.dat (.pair tDots (.arr 8 (.slc tDot))) m3bbb)))),(1000000,.dat tref02Reader m1000000)]⟩
theorem z1L.f_eq (k:Nat) (o0:Ty.D tref02Reader):z1L.f k o0=bnd (z0D.f k 1000 o0) fun r0=>bnd (z1C.f k 1048576 r0.2) fun r1=>bnd (z1R.f k r1.2) fun r2=>z1L.l6 k k 0 [] [] (zarr 16 0) [] (zarr 16 0) [] (zarr 8 []) r0.1 r1.1 (zarr 16 0) [] (r2.1,(zarr 8 [])) r2.2:=by kernel_rfl
theorem z1L.l6_eq (k:Nat) (n6:Nat) (x4:Ty.D (.int .i64)) (m2a:List (Ty.D tTxn)) (m2ba:List (Ty.D tUndo)) (m2bbaa:Ty.D tVec) (m2bbab:List (Ty.D tDot)) (m2bbbaa:Ty.D tVec) (m2bbbab:List (Ty.D tDot)) (m2bbbb:Ty.D (.arr 8 (.slc tDot))) (m3a:List (Ty.D tTxn)) (m3ba:List (Ty.D tUndo)) (m3bbaa:Ty.D tVec) (m3bbab:List (Ty.D tDot)) (m3bbb:Ty.D (.pair tDots (.arr 8 (.slc tDot)))) (m1000000:Ty.D tref02Reader):z1L.l6 k (n6+1) x4 m2a m2ba m2bbaa m2bbab m2bbbaa m2bbbab m2bbbb m3a m3ba m3bbaa m3bbab m3bbb m1000000=br (ilt x4 8) (bnd (z0C.f k 1000 m1000000) fun r0=>br (inB x4 8) (z1L.l6 k n6 (iadd .i64 x4 1) m2a m2ba m2bbaa m2bbab m2bbbaa m2bbbab m2bbbb m3a m3ba m3bbaa m3bbab (m3bbb.1,(upd m3bbb.2 (natOf x4) r0.1)) r0.2) none) (bnd (z10.f k m3a) fun r1=>br (ieq m1000000.2.2 0) (bnd (z0X.f k (m3a,(m3ba,(r1,m3bbb)))) fun r2=>br (bnot r2) (some (([],([],(((zarr 16 0),[]),(((zarr 16 0),[]),(zarr 8 []))))),(m1000000.1,(m1000000.2.1,2)))) (br (bnot (ieq m1000000.2.2 0)) (some (([],([],(((zarr 16 0),[]),(((zarr 16 0),[]),(zarr 8 []))))),m1000000)) (some ((m3a,(m3ba,(r1,m3bbb))),m1000000)))) (br (bnot (ieq m1000000.2.2 0)) (some (([],([],(((zarr 16 0),[]),(((zarr 16 0),[]),(zarr 8 []))))),m1000000)) (some ((m3a,(m3ba,(r1,m3bbb))),m1000000)))):=by kernel_rfl
def z1L.e (k:Nat):Entry:=Sg.entry z1L.sg fun x=>z1L.f k x
theorem z1L.ok (k:Nat):CallOK Tryz.prog 110 (z1L.e k):=fn_ok (c:=z1L.cx k) (code:=z1L.body) (TT.of tt_ok pp_ok mm_ok) (fns_ok ⟨(z0D.ok k),(z1C.ok k),(z1R.ok k),(z0C.ok k),(z10.ok k),(z0X.ok k),trivial⟩) mixed Tryz.func110 (by kernel_rfl) (by kernel_rfl) (by kernel_rfl) (by kernel_rfl) (by kernel_rfl) (by kernel_rfl) (fun x=>by kernel_rfl)
def z0l.body:Go.Code:=Tryz.f36.body.getD .skip
def z0l.rs:List Go.ResultVar:=Tryz.f36.results.toList
def z0l.regs:List (Nat × RInfo):=[(0,ri [0] [1000000]),(1,ri [0,7] [1000000]),(2,ri [2] [1000000]),(3,rq [2] [1000000] 10)]
def z0l.cx (k:Nat):Cx:=⟨tt,pp,[],z0l.regs,k,mm⟩
@[reducible] def z0l.sg:Sg:=⟨[.ref],[tref02Reader],.dat (.int .i64),[tref02Reader]⟩
def z0l.f (k:Nat) (o0:Ty.D tref02Reader):Option (Sg.Out z0l.sg):=Sg.fn z0l.sg (z0l.cx k) z0l.body z0l.rs o0
theorem z0l.f_eq (k:Nat) (o0:Ty.D tref02Reader):z0l.f k o0=br (bnot (ieq o0.2.2 0)) (some (0,o0)) (some ((isub .i64 (ilen o0.1) o0.2.1),o0)):=by kernel_rfl
def z0l.e (k:Nat):Entry:=Sg.entry z0l.sg fun x=>z0l.f k x
theorem z0l.ok (k:Nat):CallOK Tryz.prog 36 (z0l.e k):=fn_ok (c:=z0l.cx k) (code:=z0l.body) (TT.of tt_ok pp_ok mm_ok) (fns_ok trivial) mixed Tryz.func36 (by kernel_rfl) (by kernel_rfl) (by kernel_rfl) (by kernel_rfl) (by kernel_rfl) (by kernel_rfl) (fun x=>by kernel_rfl)
def z0t.body:Go.Code:=Tryz.f112.body.getD .skip
def z0t.rs:List Go.ResultVar:=Tryz.f112.results.toList
def z0t.regs:List (Nat × RInfo):=[(0,ri [0] [1000000]),(1,ri [0,5] [1000000]),(2,ri [0] [1000000]),(3,ri [2] [1000000])]
def z0t.cx (k:Nat):Cx:=⟨tt,pp,[(36,(z0l.e k))],z0t.regs,k,mm⟩
@[reducible] def z0t.sg:Sg:=⟨[.ref],[tref02Reader],.dat (.int .i64),[tref02Reader]⟩
def z0t.f (k:Nat) (o0:Ty.D tref02Reader):Option (Sg.Out z0t.sg):=Sg.fn z0t.sg (z0t.cx k) z0t.body z0t.rs o0
theorem z0t.f_eq (k:Nat) (o0:Ty.D tref02Reader):z0t.f k o0=bnd (z0l.f k o0) fun r0=>br (ilt 0 r0.1) (some (3,(r0.2.1,(r0.2.2.1,3)))) (some (r0.2.2.2,r0.2)):=by kernel_rfl
def z0t.e (k:Nat):Entry:=Sg.entry z0t.sg fun x=>z0t.f k x
theorem z0t.ok (k:Nat):CallOK Tryz.prog 112 (z0t.e k):=fn_ok (c:=z0t.cx k) (code:=z0t.body) (TT.of tt_ok pp_ok mm_ok) (fns_ok ⟨(z0l.ok k),trivial⟩) mixed Tryz.func112 (by kernel_rfl) (by kernel_rfl) (by kernel_rfl) (by kernel_rfl) (by kernel_rfl) (by kernel_rfl) (fun x=>by kernel_rfl)
def z0r.body:Go.Code:=Tryz.f38.body.getD .skip
def z0r.rs:List Go.ResultVar:=Tryz.f38.results.toList
def z0r.regs:List (Nat × RInfo):=[(0,⟨[1],[1],[0],[],0,[],[],[],[],[]⟩),(1,ri [1,20] [1]),(2,ri [2] []),(3,ri [1,3] [1]),(4,⟨[1,3,25],[1],[],[],0,[1,3],[1],[],[],[]⟩),(6,ri [1,3,34] [1]),(7,ri [2] []),(5,ri [1,3] [1]),(8,ri [1,4] [1]),(9,⟨[1,4,39],[1],[],[],0,[1,4],[1],[],[],[]⟩),(11,ri [1,4,48] [1]),(12,ri [2] []),(10,ri [1,4] [1]),(13,ri [2] [])]
def z0r.cx (k:Nat):Cx:=⟨tt,pp,[(75,(z1o.e k)),(49,(z1c.e k)),(48,(z1g.e k)),(77,(z18.e k))],z0r.regs,k,mm⟩
@[reducible] def z0r.sg:Sg:=⟨[.dat tDelta],[],.dat .bool,[]⟩
def z0r.f (k:Nat) (a0:Ty.D tDelta):Option (Sg.Out z0r.sg):=Sg.fn z0r.sg (z0r.cx k) z0r.body z0r.rs a0
def z0r.l4 (k:Nat) (n:Nat) (x3:Ty.D (.int .i64)) (m1:Ty.D tDelta):Option (Sg.Out z0r.sg):=loopAt (z0r.cx k) z0r.body [1,1,0,1,0] 4 [1,3] [1] [] (Sg.K z0r.sg (z0r.cx k) z0r.rs) n ⟨[(1,.ref 1 []),(3,.dat (.int .i64) x3)],[(1,.dat tDelta m1)]⟩
def z0r.l9 (k:Nat) (n:Nat) (x4:Ty.D (.int .i64)) (m1:Ty.D tDelta):Option (Sg.Out z0r.sg):=loopAt (z0r.cx k) z0r.body [1,1,1,0,1,0] 9 [1,4] [1] [] (Sg.K z0r.sg (z0r.cx k) z0r.rs) n ⟨[(1,.ref 1 []),(4,.dat (.int .i64) x4)],[(1,.dat tDelta m1)]⟩
theorem z0r.f_eq (k:Nat) (a0:Ty.D tDelta):z0r.f k a0=br (ilt 1000 (ilen a0.1)) (some false) (bnd (z1o.f k a0.1) fun r0=>br (bnot r0) (some false) (bnd (z1c.f k a0.2.1) fun r1=>br (bnot r1) (some false) (z0r.l4 k k 0 a0))):=by kernel_rfl
theorem z0r.l4_eq (k:Nat) (n4:Nat) (x3:Ty.D (.int .i64)) (m1:Ty.D tDelta):z0r.l4 k (n4+1) x3 m1=br (ilt x3 (ilen m1.1)) (br (inL x3 m1.1) (bnd (z1g.f k (rd tTxn m1.1 (natOf x3))) fun r0=>br (bnot (ieq r0 0)) (some false) (z0r.l4 k n4 (iadd .i64 x3 1) m1)) none) (z0r.l9 k k 0 m1):=by kernel_rfl
theorem z0r.l9_eq (k:Nat) (n9:Nat) (x4:Ty.D (.int .i64)) (m1:Ty.D tDelta):z0r.l9 k (n9+1) x4 m1=br (ilt x4 (ilen m1.2.2)) (br (inL x4 m1.2.2) (bnd (z18.f k (rd tDot m1.2.2 (natOf x4))) fun r0=>br (bnot r0) (some false) (z0r.l9 k n9 (iadd .i64 x4 1) m1)) none) (some true):=by kernel_rfl
def z0r.e (k:Nat):Entry:=Sg.entry z0r.sg fun x=>z0r.f k x
theorem z0r.ok (k:Nat):CallOK Tryz.prog 38 (z0r.e k):=fn_ok (c:=z0r.cx k) (code:=z0r.body) (TT.of tt_ok pp_ok mm_ok) (fns_ok ⟨(z1o.ok k),(z1c.ok k),(z1g.ok k),(z18.ok k),trivial⟩) mixed Tryz.func38 (by kernel_rfl) (by kernel_rfl) (by kernel_rfl) (by kernel_rfl) (by kernel_rfl) (by kernel_rfl) (fun x=>by kernel_rfl)
def z11.body:Go.Code:=Tryz.f12.body.getD .skip
def z11.rs:List Go.ResultVar:=Tryz.f12.results.toList
def z11.regs:List (Nat × RInfo):=[(0,⟨[1],[1],[0],[],0,[],[],[],[],[]⟩),(1,ri [1,4] [1]),(2,ri [1,4,5] [1]),(3,ri [2] [25,41,46]),(4,ri [1,4,11] [1]),(5,ri [2] [25,41,46]),(6,ri [1,4,37] [1]),(7,ri [2] [25,41,46]),(8,ri [1,42] [1]),(9,ri [2] [25,41,46]),(10,ri [2] [25,41,46])]
def z11.cx (k:Nat):Cx:=⟨tt,pp,[(48,(z1g.e k)),(49,(z1c.e k)),(38,(z0r.e k)),(19,(z0X.e k))],z11.regs,k,mm⟩
@[reducible] def z11.sg:Sg:=⟨[.dat tRecord],[],.dat .bool,[]⟩
def z11.f (k:Nat) (a0:Ty.D tRecord):Option (Sg.Out z11.sg):=Sg.fn z11.sg (z11.cx k) z11.body z11.rs a0
theorem z11.f_eq (k:Nat) (a0:Ty.D tRecord):z11.f k a0=br (ieq a0.1 1) (bnd (z1g.f k a0.2.1) fun r0=>some (ieq r0 0)) (br (ieq a0.1 2) (br (ile 0 a0.2.2.1) (br (ile a0.2.2.1 7) (bnd (z1c.f k (a0.2.2.2.1::[])) fun r1=>br r1 (br (ile 0 a0.2.2.2.2.1) (some (ile a0.2.2.2.2.1 2)) (some false)) (some false)) (some false)) (some false)) (br (ieq a0.1 3) (bnd (z0r.f k a0.2.2.2.2.2.1) fun r2=>some r2) (br (ieq a0.1 4) (bnd (z0X.f k a0.2.2.2.2.2.2) fun r3=>some r3) (some false)))):=by kernel_rfl
def z11.e (k:Nat):Entry:=Sg.entry z11.sg fun x=>z11.f k x
theorem z11.ok (k:Nat):CallOK Tryz.prog 12 (z11.e k):=fn_ok (c:=z11.cx k) (code:=z11.body) (TT.of tt_ok pp_ok mm_ok) (fns_ok ⟨(z1g.ok k),(z1c.ok k),(z0r.ok k),(z0X.ok k),trivial⟩) mixed Tryz.func12 (by kernel_rfl) (by kernel_rfl) (by kernel_rfl) (by kernel_rfl) (by kernel_rfl) (by kernel_rfl) (fun x=>by kernel_rfl)
def z14.body:Go.Code:=Tryz.f43.body.getD .skip
def z14.rs:List Go.ResultVar:=Tryz.f43.results.toList
def z14.regs:List (Nat × RInfo):=[(0,ri [0,2] [2]),(1,ri [2,4] [2,9]),(2,⟨[2,4,5],[2,5,9],[2],[],0,[],[],[],[],[]⟩),(3,ri [2,4,5] [2,5,9]),(4,ri [2,4,5,15] [2,5,9]),(6,ri [2,4,5,15,18] [2,5,9]),(7,⟨[2,4,5],[2,5,9],[3],[],0,[],[],[],[],[]⟩),(8,ri [2,4,5,15,23] [2,5,9]),(9,ri [2,4,5] [2,5,9]),(10,ri [2,4,5] [2,5,9]),(11,ri [2,4,5] [2,5,9]),(12,ri [2,4,5] [2,5,9]),(13,ri [2,4,5,15,39] [2,5,9]),(14,⟨[2,4,5],[2,5,9],[3],[],0,[],[],[],[],[]⟩),(15,ri [2,4,5,44] [2,5,9]),(16,⟨[2,4,5],[2,5,9],[3],[],0,[],[],[],[],[]⟩),(5,ri [2,4,5] [2,5,9]),(17,ri [2,5,6] [2,5,50]),(18,ri [2,5,6,52] [2,5,50]),(19,⟨[2,3],[2,50],[2],[],0,[],[],[],[],[]⟩),(20,ri [2,5,57] [2,5]),(21,⟨[2,3],[2,50],[1],[],0,[],[],[],[],[]⟩),(22,⟨[2,3],[2,50],[1],[],0,[],[],[],[],[]⟩)]
def z14.cx (k:Nat):Cx:=⟨tt,pp,[(28,(z0n.e k)),(108,(z1y.e k)),(109,(z1Q.e k)),(33,(z0x.e k)),(110,(z1L.e k)),(111,(z0k.e k)),(112,(z0t.e k)),(12,(z11.e k))],z14.regs,k,mm⟩
@[reducible] def z14.sg:Sg:=⟨[.dat .str],[],.t2 (.dat tRecord) (.dat (.int .i64)),[]⟩
def z14.f (k:Nat) (a0:Ty.D .str):Option (Sg.Out z14.sg):=Sg.fn z14.sg (z14.cx k) z14.body z14.rs a0
theorem z14.f_eq (k:Nat) (a0:Ty.D .str):z14.f k a0=bnd (z0n.f k (a0,(0,0))) fun r0=>br (ieq r0.1 1) (bnd (z1y.f k r0.2) fun r1=>bnd (z0t.f k r1.2) fun r2=>br (bnot (ieq r2.1 0)) (some ((0,(((0,0),(0,(0,(false,[])))),(0,(((0,0),0),(0,(([],([],[])),([],([],(((zarr 16 0),[]),(((zarr 16 0),[]),(zarr 8 []))))))))))),r2.1)) (bnd (z11.f k (r0.1,(r1.1,(0,(((0,0),0),(0,(([],([],[])),([],([],(((zarr 16 0),[]),(((zarr 16 0),[]),(zarr 8 [])))))))))))) fun r3=>br (bnot r3) (some ((0,(((0,0),(0,(0,(false,[])))),(0,(((0,0),0),(0,(([],([],[])),([],([],(((zarr 16 0),[]),(((zarr 16 0),[]),(zarr 8 []))))))))))),2)) (some ((r0.1,(r1.1,(0,(((0,0),0),(0,(([],([],[])),([],([],(((zarr 16 0),[]),(((zarr 16 0),[]),(zarr 8 []))))))))))),0)))) (br (ieq r0.1 2) (bnd (z0n.f k r0.2) fun r4=>bnd (z1Q.f k r4.2) fun r5=>bnd (z0n.f k r5.2) fun r6=>bnd (z0n.f k r6.2) fun r7=>bnd (z0t.f k r7.2) fun r8=>br (bnot (ieq r8.1 0)) (some ((0,(((0,0),(0,(0,(false,[])))),(0,(((0,0),0),(0,(([],([],[])),([],([],(((zarr 16 0),[]),(((zarr 16 0),[]),(zarr 8 []))))))))))),r8.1)) (bnd (z11.f k (r0.1,(((0,0),(0,(0,(false,[])))),(r4.1,((r5.1,r6.1),(r7.1,(([],([],[])),([],([],(((zarr 16 0),[]),(((zarr 16 0),[]),(zarr 8 [])))))))))))) fun r9=>br (bnot r9) (some ((0,(((0,0),(0,(0,(false,[])))),(0,(((0,0),0),(0,(([],([],[])),([],([],(((zarr 16 0),[]),(((zarr 16 0),[]),(zarr 8 []))))))))))),2)) (some ((r0.1,(((0,0),(0,(0,(false,[])))),(r4.1,((r5.1,r6.1),(r7.1,(([],([],[])),([],([],(((zarr 16 0),[]),(((zarr 16 0),[]),(zarr 8 []))))))))))),0)))) (br (ieq r0.1 3) (bnd (z0x.f k r0.2) fun r10=>bnd (z0t.f k r10.2) fun r11=>br (bnot (ieq r11.1 0)) (some ((0,(((0,0),(0,(0,(false,[])))),(0,(((0,0),0),(0,(([],([],[])),([],([],(((zarr 16 0),[]),(((zarr 16 0),[]),(zarr 8 []))))))))))),r11.1)) (bnd (z11.f k (r0.1,(((0,0),(0,(0,(false,[])))),(0,(((0,0),0),(0,(r10.1,([],([],(((zarr 16 0),[]),(((zarr 16 0),[]),(zarr 8 [])))))))))))) fun r12=>br (bnot r12) (some ((0,(((0,0),(0,(0,(false,[])))),(0,(((0,0),0),(0,(([],([],[])),([],([],(((zarr 16 0),[]),(((zarr 16 0),[]),(zarr 8 []))))))))))),2)) (some ((r0.1,(((0,0),(0,(0,(false,[])))),(0,(((0,0),0),(0,(r10.1,([],([],(((zarr 16 0),[]),(((zarr 16 0),[]),(zarr 8 []))))))))))),0)))) (br (ieq r0.1 4) (bnd (z1L.f k r0.2) fun r13=>bnd (z0t.f k r13.2) fun r14=>br (bnot (ieq r14.1 0)) (some ((0,(((0,0),(0,(0,(false,[])))),(0,(((0,0),0),(0,(([],([],[])),([],([],(((zarr 16 0),[]),(((zarr 16 0),[]),(zarr 8 []))))))))))),r14.1)) (bnd (z11.f k (r0.1,(((0,0),(0,(0,(false,[])))),(0,(((0,0),0),(0,(([],([],[])),r13.1))))))) fun r15=>br (bnot r15) (some ((0,(((0,0),(0,(0,(false,[])))),(0,(((0,0),0),(0,(([],([],[])),([],([],(((zarr 16 0),[]),(((zarr 16 0),[]),(zarr 8 []))))))))))),2)) (some ((r0.1,(((0,0),(0,(0,(false,[])))),(0,(((0,0),0),(0,(([],([],[])),r13.1)))))),0)))) (bnd (z0k.f k 18 r0.2) fun r16=>bnd (z0t.f k r16.2) fun r17=>br (bnot (ieq r17.1 0)) (some ((0,(((0,0),(0,(0,(false,[])))),(0,(((0,0),0),(0,(([],([],[])),([],([],(((zarr 16 0),[]),(((zarr 16 0),[]),(zarr 8 []))))))))))),r17.1)) (bnd (z11.f k (r0.1,(((0,0),(0,(0,(false,[])))),(0,(((0,0),0),(0,(([],([],[])),([],([],(((zarr 16 0),[]),(((zarr 16 0),[]),(zarr 8 [])))))))))))) fun r18=>br (bnot r18) (some ((0,(((0,0),(0,(0,(false,[])))),(0,(((0,0),0),(0,(([],([],[])),([],([],(((zarr 16 0),[]),(((zarr 16 0),[]),(zarr 8 []))))))))))),2)) (some ((r0.1,(((0,0),(0,(0,(false,[])))),(0,(((0,0),0),(0,(([],([],[])),([],([],(((zarr 16 0),[]),(((zarr 16 0),[]),(zarr 8 []))))))))))),0))))))):=by kernel_rfl
def z14.e (k:Nat):Entry:=Sg.entry z14.sg fun x=>z14.f k x
theorem z14.ok (k:Nat):CallOK Tryz.prog 43 (z14.e k):=fn_ok (c:=z14.cx k) (code:=z14.body) (TT.of tt_ok pp_ok mm_ok) (fns_ok ⟨(z0n.ok k),(z1y.ok k),(z1Q.ok k),(z0x.ok k),(z1L.ok k),(z0k.ok k),(z0t.ok k),(z11.ok k),trivial⟩) mixed Tryz.func43 (by kernel_rfl) (by kernel_rfl) (by kernel_rfl) (by kernel_rfl) (by kernel_rfl) (by kernel_rfl) (fun x=>by kernel_rfl)
def z1s.body:Go.Code:=Tryz.f217.body.getD .skip
def z1s.rs:List Go.ResultVar:=Tryz.f217.results.toList
def z1s.regs:List (Nat × RInfo):=[(0,ri [0,1] []),(1,ri [0,1,10] []),(2,ri [4] []),(3,ri [0,1,5] []),(4,⟨[0,1,5,14],[],[],[],0,[0,1,5],[],[],[],[]⟩),(6,rq [0,1,5,25] [] 9),(7,ri [4] []),(5,ri [0,1,5] []),(8,ri [4] [])]
def z1s.cx (k:Nat):Cx:=⟨tt,pp,[],z1s.regs,k,mm⟩
@[reducible] def z1s.sg:Sg:=⟨[.dat (.slc .str),.dat (.slc .str)],[],.dat .bool,[]⟩
def z1s.f (k:Nat) (a0:Ty.D (.slc .str)) (a1:Ty.D (.slc .str)):Option (Sg.Out z1s.sg):=Sg.fn z1s.sg (z1s.cx k) z1s.body z1s.rs (a0,a1)
def z1s.l4 (k:Nat) (n:Nat) (x0:Ty.D (.slc .str)) (x1:Ty.D (.slc .str)) (x5:Ty.D (.int .i64)):Option (Sg.Out z1s.sg):=loopAt (z1s.cx k) z1s.body [1,1,0,1,0] 4 [0,1,5] [] [] (Sg.K z1s.sg (z1s.cx k) z1s.rs) n ⟨[(0,.dat (.slc .str) x0),(1,.dat (.slc .str) x1),(5,.dat (.int .i64) x5)],[]⟩
theorem z1s.f_eq (k:Nat) (a0:Ty.D (.slc .str)) (a1:Ty.D (.slc .str)):z1s.f k a0 a1=br (bnot (ieq (ilen a0) (ilen a1))) (some false) (z1s.l4 k k a0 a1 0):=by kernel_rfl
theorem z1s.l4_eq (k:Nat) (n4:Nat) (x0:Ty.D (.slc .str)) (x1:Ty.D (.slc .str)) (x5:Ty.D (.int .i64)):z1s.l4 k (n4+1) x0 x1 x5=br (ilt x5 (ilen x0)) (br (inL x5 x0) (br (inL x5 x1) (br (bnot (seq (rd .str x0 (natOf x5)) (rd .str x1 (natOf x5)))) (some false) (z1s.l4 k n4 x0 x1 (iadd .i64 x5 1))) none) none) (some true):=by kernel_rfl
def z1s.e (k:Nat):Entry:=Sg.entry z1s.sg fun x=>z1s.f k x.1 x.2
theorem z1s.ok (k:Nat):CallOK Tryz.prog 217 (z1s.e k):=fn_ok (c:=z1s.cx k) (code:=z1s.body) (TT.of tt_ok pp_ok mm_ok) (fns_ok trivial) mixed Tryz.func217 (by kernel_rfl) (by kernel_rfl) (by kernel_rfl) (by kernel_rfl) (by kernel_rfl) (by kernel_rfl) (fun x=>by kernel_rfl)
def z1z.body:Go.Code:=Tryz.f166.body.getD .skip
def z1z.rs:List Go.ResultVar:=Tryz.f166.results.toList
def z1z.regs:List (Nat × RInfo):=[(0,⟨[2,3],[2,3],[0,1],[],0,[],[],[],[],[]⟩),(1,ri [2,3,41] [2,3]),(2,ri [4] []),(3,ri [2,3,5] [2,3]),(4,⟨[2,3,5,46],[2,3],[],[],0,[2,3,5],[2,3],[],[],[]⟩),(6,rq [2,3,5,59] [2,3] 11),(7,ri [4] []),(5,ri [2,3,5] [2,3]),(8,ri [4] [])]
def z1z.cx (k:Nat):Cx:=⟨tt,pp,[(217,(z1s.e k))],z1z.regs,k,mm⟩
@[reducible] def z1z.sg:Sg:=⟨[.dat tOp,.dat tOp],[],.dat .bool,[]⟩
def z1z.f (k:Nat) (a0:Ty.D tOp) (a1:Ty.D tOp):Option (Sg.Out z1z.sg):=Sg.fn z1z.sg (z1z.cx k) z1z.body z1z.rs (a0,a1)
def z1z.l4 (k:Nat) (n:Nat) (x5:Ty.D (.int .i64)) (m2:Ty.D tOp) (m3:Ty.D tOp):Option (Sg.Out z1z.sg):=loopAt (z1z.cx k) z1z.body [1,1,0,1,0] 4 [2,3,5] [2,3] [] (Sg.K z1z.sg (z1z.cx k) z1z.rs) n ⟨[(2,.ref 2 []),(3,.ref 3 []),(5,.dat (.int .i64) x5)],[(2,.dat tOp m2),(3,.dat tOp m3)]⟩
theorem z1z.f_eq (k:Nat) (a0:Ty.D tOp) (a1:Ty.D tOp):z1z.f k a0 a1=br (bnot (ieq a0.1 a1.1)) (some false) (br (bnot (deq tValue a0.2.2.1 a1.2.2.1)) (some false) (br (bnot (ieq a0.2.2.2.1 a1.2.2.2.1)) (some false) (bnd (z1s.f k a0.2.1 a1.2.1) fun r0=>br (bnot r0) (some false) (br (bnot (ieq (ilen a0.2.2.2.2) (ilen a1.2.2.2.2))) (some false) (z1z.l4 k k 0 a0 a1))))):=by kernel_rfl
theorem z1z.l4_eq (k:Nat) (n4:Nat) (x5:Ty.D (.int .i64)) (m2:Ty.D tOp) (m3:Ty.D tOp):z1z.l4 k (n4+1) x5 m2 m3=br (ilt x5 (ilen m2.2.2.2.2)) (br (inL x5 m2.2.2.2.2) (br (inL x5 m3.2.2.2.2) (br (bnot (deq tUndo (rd tUndo m2.2.2.2.2 (natOf x5)) (rd tUndo m3.2.2.2.2 (natOf x5)))) (some false) (z1z.l4 k n4 (iadd .i64 x5 1) m2 m3)) none) none) (some true):=by kernel_rfl
def z1z.e (k:Nat):Entry:=Sg.entry z1z.sg fun x=>z1z.f k x.1 x.2
theorem z1z.ok (k:Nat):CallOK Tryz.prog 166 (z1z.e k):=fn_ok (c:=z1z.cx k) (code:=z1z.body) (TT.of tt_ok pp_ok mm_ok) (fns_ok ⟨(z1s.ok k),trivial⟩) mixed Tryz.func166 (by kernel_rfl) (by kernel_rfl) (by kernel_rfl) (by kernel_rfl) (by kernel_rfl) (by kernel_rfl) (fun x=>by kernel_rfl)
def z1S.body:Go.Code:=Tryz.f113.body.getD .skip
def z1S.rs:List Go.ResultVar:=Tryz.f113.results.toList
def z1S.regs:List (Nat × RInfo):=[(0,⟨[2,3],[2,3],[0,1],[],0,[],[],[],[],[]⟩),(1,ri [2,3,40] [2,3]),(2,ri [4] []),(3,ri [2,3,5] [2,3]),(4,⟨[2,3,5,45],[2,3],[],[],0,[2,3,5],[2,3],[],[],[]⟩),(6,rq [2,3,5,59] [2,3] 12),(7,ri [4] []),(5,ri [2,3,5] [2,3]),(8,ri [4] [])]
def z1S.cx (k:Nat):Cx:=⟨tt,pp,[(166,(z1z.e k))],z1S.regs,k,mm⟩
@[reducible] def z1S.sg:Sg:=⟨[.dat tTxn,.dat tTxn],[],.dat .bool,[]⟩
def z1S.f (k:Nat) (a0:Ty.D tTxn) (a1:Ty.D tTxn):Option (Sg.Out z1S.sg):=Sg.fn z1S.sg (z1S.cx k) z1S.body z1S.rs (a0,a1)
def z1S.l4 (k:Nat) (n:Nat) (x5:Ty.D (.int .i64)) (m2:Ty.D tTxn) (m3:Ty.D tTxn):Option (Sg.Out z1S.sg):=loopAt (z1S.cx k) z1S.body [1,1,0,1,0] 4 [2,3,5] [2,3] [] (Sg.K z1S.sg (z1S.cx k) z1S.rs) n ⟨[(2,.ref 2 []),(3,.ref 3 []),(5,.dat (.int .i64) x5)],[(2,.dat tTxn m2),(3,.dat tTxn m3)]⟩
theorem z1S.f_eq (k:Nat) (a0:Ty.D tTxn) (a1:Ty.D tTxn):z1S.f k a0 a1=br (bnot (deq tDot a0.1 a1.1)) (some false) (br (bnot (ieq a0.2.1 a1.2.1)) (some false) (br (bnot (ieq a0.2.2.1 a1.2.2.1)) (some false) (br (bnot (deq .bool a0.2.2.2.1 a1.2.2.2.1)) (some false) (br (bnot (ieq (ilen a0.2.2.2.2) (ilen a1.2.2.2.2))) (some false) (z1S.l4 k k 0 a0 a1))))):=by kernel_rfl
theorem z1S.l4_eq (k:Nat) (n4:Nat) (x5:Ty.D (.int .i64)) (m2:Ty.D tTxn) (m3:Ty.D tTxn):z1S.l4 k (n4+1) x5 m2 m3=br (ilt x5 (ilen m2.2.2.2.2)) (br (inL x5 m2.2.2.2.2) (br (inL x5 m3.2.2.2.2) (bnd (z1z.f k (rd tOp m2.2.2.2.2 (natOf x5)) (rd tOp m3.2.2.2.2 (natOf x5))) fun r0=>br (bnot r0) (some false) (z1S.l4 k n4 (iadd .i64 x5 1) m2 m3)) none) none) (some true):=by kernel_rfl
def z1S.e (k:Nat):Entry:=Sg.entry z1S.sg fun x=>z1S.f k x.1 x.2
theorem z1S.ok (k:Nat):CallOK Tryz.prog 113 (z1S.e k):=fn_ok (c:=z1S.cx k) (code:=z1S.body) (TT.of tt_ok pp_ok mm_ok) (fns_ok ⟨(z1z.ok k),trivial⟩) mixed Tryz.func113 (by kernel_rfl) (by kernel_rfl) (by kernel_rfl) (by kernel_rfl) (by kernel_rfl) (by kernel_rfl) (fun x=>by kernel_rfl)
def z2j.body:Go.Code:=Tryz.f69.body.getD .skip
def z2j.rs:List Go.ResultVar:=Tryz.f69.results.toList
def z2j.regs:List (Nat × RInfo):=[(0,ri [0,1] []),(1,ri [0,1,10] []),(2,ri [4] []),(3,ri [0,1,5] []),(4,⟨[0,1,5,14],[],[],[],0,[0,1,5],[],[],[],[]⟩),(6,rq [0,1,5,26] [] 10),(7,ri [4] []),(5,ri [0,1,5] []),(8,ri [4] [])]
def z2j.cx (k:Nat):Cx:=⟨tt,pp,[(113,(z1S.e k))],z2j.regs,k,mm⟩
@[reducible] def z2j.sg:Sg:=⟨[.dat (.slc tTxn),.dat (.slc tTxn)],[],.dat .bool,[]⟩
def z2j.f (k:Nat) (a0:Ty.D (.slc tTxn)) (a1:Ty.D (.slc tTxn)):Option (Sg.Out z2j.sg):=Sg.fn z2j.sg (z2j.cx k) z2j.body z2j.rs (a0,a1)
def z2j.l4 (k:Nat) (n:Nat) (x0:Ty.D (.slc tTxn)) (x1:Ty.D (.slc tTxn)) (x5:Ty.D (.int .i64)):Option (Sg.Out z2j.sg):=loopAt (z2j.cx k) z2j.body [1,1,0,1,0] 4 [0,1,5] [] [] (Sg.K z2j.sg (z2j.cx k) z2j.rs) n ⟨[(0,.dat (.slc tTxn) x0),(1,.dat (.slc tTxn) x1),(5,.dat (.int .i64) x5)],[]⟩
theorem z2j.f_eq (k:Nat) (a0:Ty.D (.slc tTxn)) (a1:Ty.D (.slc tTxn)):z2j.f k a0 a1=br (bnot (ieq (ilen a0) (ilen a1))) (some false) (z2j.l4 k k a0 a1 0):=by kernel_rfl
theorem z2j.l4_eq (k:Nat) (n4:Nat) (x0:Ty.D (.slc tTxn)) (x1:Ty.D (.slc tTxn)) (x5:Ty.D (.int .i64)):z2j.l4 k (n4+1) x0 x1 x5=br (ilt x5 (ilen x0)) (br (inL x5 x0) (br (inL x5 x1) (bnd (z1S.f k (rd tTxn x0 (natOf x5)) (rd tTxn x1 (natOf x5))) fun r0=>br (bnot r0) (some false) (z2j.l4 k n4 x0 x1 (iadd .i64 x5 1))) none) none) (some true):=by kernel_rfl
def z2j.e (k:Nat):Entry:=Sg.entry z2j.sg fun x=>z2j.f k x.1 x.2
theorem z2j.ok (k:Nat):CallOK Tryz.prog 69 (z2j.e k):=fn_ok (c:=z2j.cx k) (code:=z2j.body) (TT.of tt_ok pp_ok mm_ok) (fns_ok ⟨(z1S.ok k),trivial⟩) mixed Tryz.func69 (by kernel_rfl) (by kernel_rfl) (by kernel_rfl) (by kernel_rfl) (by kernel_rfl) (by kernel_rfl) (fun x=>by kernel_rfl)
def z1U.body:Go.Code:=Tryz.f70.body.getD .skip
def z1U.rs:List Go.ResultVar:=Tryz.f70.results.toList
def z1U.regs:List (Nat × RInfo):=[(0,ri [0,1] []),(1,ri [0,1,10] []),(2,ri [4] []),(3,ri [0,1,5] []),(4,⟨[0,1,5,14],[],[],[],0,[0,1,5],[],[],[],[]⟩),(6,rq [0,1,5,25] [] 9),(7,ri [4] []),(5,ri [0,1,5] []),(8,ri [4] [])]
def z1U.cx (k:Nat):Cx:=⟨tt,pp,[],z1U.regs,k,mm⟩
@[reducible] def z1U.sg:Sg:=⟨[.dat (.slc tUndo),.dat (.slc tUndo)],[],.dat .bool,[]⟩
def z1U.f (k:Nat) (a0:Ty.D (.slc tUndo)) (a1:Ty.D (.slc tUndo)):Option (Sg.Out z1U.sg):=Sg.fn z1U.sg (z1U.cx k) z1U.body z1U.rs (a0,a1)
def z1U.l4 (k:Nat) (n:Nat) (x0:Ty.D (.slc tUndo)) (x1:Ty.D (.slc tUndo)) (x5:Ty.D (.int .i64)):Option (Sg.Out z1U.sg):=loopAt (z1U.cx k) z1U.body [1,1,0,1,0] 4 [0,1,5] [] [] (Sg.K z1U.sg (z1U.cx k) z1U.rs) n ⟨[(0,.dat (.slc tUndo) x0),(1,.dat (.slc tUndo) x1),(5,.dat (.int .i64) x5)],[]⟩
theorem z1U.f_eq (k:Nat) (a0:Ty.D (.slc tUndo)) (a1:Ty.D (.slc tUndo)):z1U.f k a0 a1=br (bnot (ieq (ilen a0) (ilen a1))) (some false) (z1U.l4 k k a0 a1 0):=by kernel_rfl
theorem z1U.l4_eq (k:Nat) (n4:Nat) (x0:Ty.D (.slc tUndo)) (x1:Ty.D (.slc tUndo)) (x5:Ty.D (.int .i64)):z1U.l4 k (n4+1) x0 x1 x5=br (ilt x5 (ilen x0)) (br (inL x5 x0) (br (inL x5 x1) (br (bnot (deq tUndo (rd tUndo x0 (natOf x5)) (rd tUndo x1 (natOf x5)))) (some false) (z1U.l4 k n4 x0 x1 (iadd .i64 x5 1))) none) none) (some true):=by kernel_rfl
def z1U.e (k:Nat):Entry:=Sg.entry z1U.sg fun x=>z1U.f k x.1 x.2
theorem z1U.ok (k:Nat):CallOK Tryz.prog 70 (z1U.e k):=fn_ok (c:=z1U.cx k) (code:=z1U.body) (TT.of tt_ok pp_ok mm_ok) (fns_ok trivial) mixed Tryz.func70 (by kernel_rfl) (by kernel_rfl) (by kernel_rfl) (by kernel_rfl) (by kernel_rfl) (by kernel_rfl) (fun x=>by kernel_rfl)
def z0z.body:Go.Code:=Tryz.f31.body.getD .skip
def z0z.rs:List Go.ResultVar:=Tryz.f31.results.toList
def z0z.regs:List (Nat × RInfo):=[(0,⟨[2,3],[2,3],[0,1],[],0,[],[],[],[],[]⟩),(1,ri [4] [9,15,22])]
def z0z.cx (k:Nat):Cx:=⟨tt,pp,[(69,(z2j.e k)),(70,(z1U.e k)),(68,(z1Y.e k))],z0z.regs,k,mm⟩
@[reducible] def z0z.sg:Sg:=⟨[.dat tDelta,.dat tDelta],[],.dat .bool,[]⟩
def z0z.f (k:Nat) (a0:Ty.D tDelta) (a1:Ty.D tDelta):Option (Sg.Out z0z.sg):=Sg.fn z0z.sg (z0z.cx k) z0z.body z0z.rs (a0,a1)
theorem z0z.f_eq (k:Nat) (a0:Ty.D tDelta) (a1:Ty.D tDelta):z0z.f k a0 a1=bnd (z2j.f k a0.1 a1.1) fun r0=>br r0 (bnd (z1U.f k a0.2.1 a1.2.1) fun r1=>br r1 (bnd (z1Y.f k a0.2.2 a1.2.2) fun r2=>some r2) (some false)) (some false):=by kernel_rfl
def z0z.e (k:Nat):Entry:=Sg.entry z0z.sg fun x=>z0z.f k x.1 x.2
theorem z0z.ok (k:Nat):CallOK Tryz.prog 31 (z0z.e k):=fn_ok (c:=z0z.cx k) (code:=z0z.body) (TT.of tt_ok pp_ok mm_ok) (fns_ok ⟨(z2j.ok k),(z1U.ok k),(z1Y.ok k),trivial⟩) mixed Tryz.func31 (by kernel_rfl) (by kernel_rfl) (by kernel_rfl) (by kernel_rfl) (by kernel_rfl) (by kernel_rfl) (fun x=>by kernel_rfl)
def z1H.body:Go.Code:=Tryz.f17.body.getD .skip
def z1H.rs:List Go.ResultVar:=Tryz.f17.results.toList
def z1H.regs:List (Nat × RInfo):=[(0,⟨[2,3],[2,3],[0,1],[],0,[],[],[],[],[]⟩),(1,ri [2,3,5] [2,3]),(2,⟨[2,3,5,7],[2,3],[],[],0,[2,3,5],[2,3],[],[],[]⟩),(4,rq [2,3,5,19] [2,3] 10),(5,ri [4] [24,30,37,44]),(3,ri [2,3,5] [2,3]),(6,ri [4] [24,30,37,44])]
def z1H.cx (k:Nat):Cx:=⟨tt,pp,[(68,(z1Y.e k)),(69,(z2j.e k)),(70,(z1U.e k)),(71,(z1t.e k))],z1H.regs,k,mm⟩
@[reducible] def z1H.sg:Sg:=⟨[.dat tState,.dat tState],[],.dat .bool,[]⟩
def z1H.f (k:Nat) (a0:Ty.D tState) (a1:Ty.D tState):Option (Sg.Out z1H.sg):=Sg.fn z1H.sg (z1H.cx k) z1H.body z1H.rs (a0,a1)
def z1H.l2 (k:Nat) (n:Nat) (x5:Ty.D (.int .i64)) (m2:Ty.D tState) (m3:Ty.D tState):Option (Sg.Out z1H.sg):=loopAt (z1H.cx k) z1H.body [1,0,1,0] 2 [2,3,5] [2,3] [] (Sg.K z1H.sg (z1H.cx k) z1H.rs) n ⟨[(2,.ref 2 []),(3,.ref 3 []),(5,.dat (.int .i64) x5)],[(2,.dat tState m2),(3,.dat tState m3)]⟩
theorem z1H.f_eq (k:Nat) (a0:Ty.D tState) (a1:Ty.D tState):z1H.f k a0 a1=z1H.l2 k k 0 a0 a1:=by kernel_rfl
theorem z1H.l2_eq (k:Nat) (n2:Nat) (x5:Ty.D (.int .i64)) (m2:Ty.D tState) (m3:Ty.D tState):z1H.l2 k (n2+1) x5 m2 m3=br (ilt x5 8) (br (inB x5 8) (br (inB x5 8) (bnd (z1Y.f k (rd (.slc tDot) m2.2.2.2.2 (natOf x5)) (rd (.slc tDot) m3.2.2.2.2 (natOf x5))) fun r0=>br (bnot r0) (some false) (z1H.l2 k n2 (iadd .i64 x5 1) m2 m3)) none) none) (bnd (z2j.f k m2.1 m3.1) fun r1=>br r1 (bnd (z1U.f k m2.2.1 m3.2.1) fun r2=>br r2 (bnd (z1t.f k m2.2.2.1 m3.2.2.1) fun r3=>br r3 (bnd (z1t.f k m2.2.2.2.1 m3.2.2.2.1) fun r4=>some r4) (some false)) (some false)) (some false)):=by kernel_rfl
def z1H.e (k:Nat):Entry:=Sg.entry z1H.sg fun x=>z1H.f k x.1 x.2
theorem z1H.ok (k:Nat):CallOK Tryz.prog 17 (z1H.e k):=fn_ok (c:=z1H.cx k) (code:=z1H.body) (TT.of tt_ok pp_ok mm_ok) (fns_ok ⟨(z1Y.ok k),(z2j.ok k),(z1U.ok k),(z1t.ok k),trivial⟩) mixed Tryz.func17 (by kernel_rfl) (by kernel_rfl) (by kernel_rfl) (by kernel_rfl) (by kernel_rfl) (by kernel_rfl) (fun x=>by kernel_rfl)
def z1Z.body:Go.Code:=Tryz.f44.body.getD .skip
def z1Z.rs:List Go.ResultVar:=Tryz.f44.results.toList
def z1Z.regs:List (Nat × RInfo):=[(0,⟨[2,3],[2,3],[0,1],[],0,[],[],[],[],[]⟩),(1,ri [4] [15,43,50])]
def z1Z.cx (k:Nat):Cx:=⟨tt,pp,[(113,(z1S.e k)),(31,(z0z.e k)),(17,(z1H.e k))],z1Z.regs,k,mm⟩
@[reducible] def z1Z.sg:Sg:=⟨[.dat tRecord,.dat tRecord],[],.dat .bool,[]⟩
def z1Z.f (k:Nat) (a0:Ty.D tRecord) (a1:Ty.D tRecord):Option (Sg.Out z1Z.sg):=Sg.fn z1Z.sg (z1Z.cx k) z1Z.body z1Z.rs (a0,a1)
theorem z1Z.f_eq (k:Nat) (a0:Ty.D tRecord) (a1:Ty.D tRecord):z1Z.f k a0 a1=br (ieq a0.1 a1.1) (bnd (z1S.f k a0.2.1 a1.2.1) fun r0=>br r0 (br (ieq a0.2.2.1 a1.2.2.1) (br (deq tUndo a0.2.2.2.1 a1.2.2.2.1) (br (ieq a0.2.2.2.2.1 a1.2.2.2.2.1) (bnd (z0z.f k a0.2.2.2.2.2.1 a1.2.2.2.2.2.1) fun r1=>br r1 (bnd (z1H.f k a0.2.2.2.2.2.2 a1.2.2.2.2.2.2) fun r2=>some r2) (some false)) (some false)) (some false)) (some false)) (some false)) (some false):=by kernel_rfl
def z1Z.e (k:Nat):Entry:=Sg.entry z1Z.sg fun x=>z1Z.f k x.1 x.2
theorem z1Z.ok (k:Nat):CallOK Tryz.prog 44 (z1Z.e k):=fn_ok (c:=z1Z.cx k) (code:=z1Z.body) (TT.of tt_ok pp_ok mm_ok) (fns_ok ⟨(z1S.ok k),(z0z.ok k),(z1H.ok k),trivial⟩) mixed Tryz.func44 (by kernel_rfl) (by kernel_rfl) (by kernel_rfl) (by kernel_rfl) (by kernel_rfl) (by kernel_rfl) (fun x=>by kernel_rfl)
def z1E.body:Go.Code:=Tryz.f186.body.getD .skip
def z1E.rs:List Go.ResultVar:=Tryz.f186.results.toList
def z1E.regs:List (Nat × RInfo):=[(0,⟨[2,3],[2,3],[0],[],0,[],[],[],[],[]⟩),(1,ri [4] [8])]
def z1E.cx (k:Nat):Cx:=⟨tt,pp,[(176,(z12.e k))],z1E.regs,k,mm⟩
@[reducible] def z1E.sg:Sg:=⟨[.dat tTxn,.dat tDot],[],.dat (.int .i64),[]⟩
def z1E.f (k:Nat) (a0:Ty.D tTxn) (a1:Ty.D tDot):Option (Sg.Out z1E.sg):=Sg.fn z1E.sg (z1E.cx k) z1E.body z1E.rs (a0,a1)
def z1E.e (k:Nat):Entry:=Sg.entry z1E.sg fun x=>z1E.f k x.1 x.2
theorem z1E.ok (k:Nat):CallOK Tryz.prog 186 (z1E.e k):=fn_ok (c:=z1E.cx k) (code:=z1E.body) (TT.of tt_ok pp_ok mm_ok) (fns_ok ⟨(z12.ok k),trivial⟩) mixed Tryz.func186 (by kernel_rfl) (by kernel_rfl) (by kernel_rfl) (by kernel_rfl) (by kernel_rfl) (by kernel_rfl) (fun x=>by kernel_rfl)
def z01.body:Go.Code:=Tryz.f185.body.getD .skip
def z01.rs:List Go.ResultVar:=Tryz.f185.results.toList
def z01.regs:List (Nat × RInfo):=[(0,ri [0,2,4] [4]),(1,ri [0,2,4,8] [4]),(2,ri [0,2,4,8,9,10] [4]),(3,⟨[0,2,4,8,9,10,17],[4],[],[],0,[0,2,4,8,9,10],[4],[],[],[]⟩),(4,ri [0,2,4,8,9,10,11] [4]),(5,⟨[0,2,4,8,9,10,11,31],[4],[],[],8,[],[],[],[[],[],[],[],[],[],[4,5],[6,4,5]],[]⟩),(6,ri [0,2,4,8,9,10] [4]),(7,ri [0,2,4,8,9,10] [4]),(8,⟨[6,7],[],[],[],15,[],[],[],[[],[],[],[],[],[],[],[],[],[],[],[9,10],[11,9,10],[11,9,10],[11,9,10],[11,9,10]],[]⟩)]
def z01.cx (k:Nat):Cx:=⟨tt,pp,[(186,(z1E.e k))],z01.regs,k,mm⟩
@[reducible] def z01.sg:Sg:=⟨[.dat (.slc tTxn),.dat tDot,.fn 186 0],[],.t2 (.dat (.int .i64)) (.dat .bool),[]⟩
def z01.f (k:Nat) (a0:Ty.D (.slc tTxn)) (a1:Ty.D tDot):Option (Sg.Out z01.sg):=Sg.fn z01.sg (z01.cx k) z01.body z01.rs (a0,a1)
def z01.e (k:Nat):Entry:=Sg.entry z01.sg fun x=>z01.f k x.1 x.2
theorem z01.ok (k:Nat):CallOK Tryz.prog 185 (z01.e k):=fn_ok (c:=z01.cx k) (code:=z01.body) (TT.of tt_ok pp_ok mm_ok) (fns_ok ⟨(z1E.ok k),trivial⟩) mixed Tryz.func185 (by kernel_rfl) (by kernel_rfl) (by kernel_rfl) (by kernel_rfl) (by kernel_rfl) (by kernel_rfl) (fun x=>by kernel_rfl)
def z2H.body:Go.Code:=Tryz.f134.body.getD .skip
def z2H.rs:List Go.ResultVar:=Tryz.f134.results.toList
def z2H.regs:List (Nat × RInfo):=[(0,ri [0,3] [3]),(1,ri [5,6] [10]),(2,ri [5,14] [10]),(3,ri [4] [10]),(4,ri [4] [10])]
def z2H.cx (k:Nat):Cx:=⟨tt,pp,[(185,(z01.e k)),(186,(z1E.e k))],z2H.regs,k,mm⟩
@[reducible] def z2H.sg:Sg:=⟨[.dat (.slc tTxn),.dat tDot],[],.dat (.int .i64),[]⟩
def z2H.f (k:Nat) (a0:Ty.D (.slc tTxn)) (a1:Ty.D tDot):Option (Sg.Out z2H.sg):=Sg.fn z2H.sg (z2H.cx k) z2H.body z2H.rs (a0,a1)
def z2H.e (k:Nat):Entry:=Sg.entry z2H.sg fun x=>z2H.f k x.1 x.2
theorem z2H.ok (k:Nat):CallOK Tryz.prog 134 (z2H.e k):=fn_ok (c:=z2H.cx k) (code:=z2H.body) (TT.of tt_ok pp_ok mm_ok) (fns_ok ⟨(z01.ok k),(z1E.ok k),trivial⟩) mixed Tryz.func134 (by kernel_rfl) (by kernel_rfl) (by kernel_rfl) (by kernel_rfl) (by kernel_rfl) (by kernel_rfl) (fun x=>by kernel_rfl)
def z2v.body:Go.Code:=Tryz.f187.body.getD .skip
def z2v.rs:List Go.ResultVar:=Tryz.f187.results.toList
def z2v.regs:List (Nat × RInfo):=[(0,⟨[2,3],[2,3],[0],[],0,[],[],[],[],[]⟩),(1,ri [4] [8])]
def z2v.cx (k:Nat):Cx:=⟨tt,pp,[(176,(z12.e k))],z2v.regs,k,mm⟩
@[reducible] def z2v.sg:Sg:=⟨[.dat tTxn,.dat tDot],[],.dat (.int .i64),[]⟩
def z2v.f (k:Nat) (a0:Ty.D tTxn) (a1:Ty.D tDot):Option (Sg.Out z2v.sg):=Sg.fn z2v.sg (z2v.cx k) z2v.body z2v.rs (a0,a1)
def z2v.e (k:Nat):Entry:=Sg.entry z2v.sg fun x=>z2v.f k x.1 x.2
theorem z2v.ok (k:Nat):CallOK Tryz.prog 187 (z2v.e k):=fn_ok (c:=z2v.cx k) (code:=z2v.body) (TT.of tt_ok pp_ok mm_ok) (fns_ok ⟨(z12.ok k),trivial⟩) mixed Tryz.func187 (by kernel_rfl) (by kernel_rfl) (by kernel_rfl) (by kernel_rfl) (by kernel_rfl) (by kernel_rfl) (fun x=>by kernel_rfl)
def z02.body:Go.Code:=Tryz.f185.body.getD .skip
def z02.rs:List Go.ResultVar:=Tryz.f185.results.toList
def z02.regs:List (Nat × RInfo):=[(0,ri [0,2,4] [4]),(1,ri [0,2,4,8] [4]),(2,ri [0,2,4,8,9,10] [4]),(3,⟨[0,2,4,8,9,10,17],[4],[],[],0,[0,2,4,8,9,10],[4],[],[],[]⟩),(4,ri [0,2,4,8,9,10,11] [4]),(5,⟨[0,2,4,8,9,10,11,31],[4],[],[],8,[],[],[],[[],[],[],[],[],[],[4,5],[6,4,5]],[]⟩),(6,ri [0,2,4,8,9,10] [4]),(7,ri [0,2,4,8,9,10] [4]),(8,⟨[6,7],[],[],[],15,[],[],[],[[],[],[],[],[],[],[],[],[],[],[],[9,10],[11,9,10],[11,9,10],[11,9,10],[11,9,10]],[]⟩)]
def z02.cx (k:Nat):Cx:=⟨tt,pp,[(187,(z2v.e k))],z02.regs,k,mm⟩
@[reducible] def z02.sg:Sg:=⟨[.dat (.slc tTxn),.dat tDot,.fn 187 0],[],.t2 (.dat (.int .i64)) (.dat .bool),[]⟩
def z02.f (k:Nat) (a0:Ty.D (.slc tTxn)) (a1:Ty.D tDot):Option (Sg.Out z02.sg):=Sg.fn z02.sg (z02.cx k) z02.body z02.rs (a0,a1)
def z02.e (k:Nat):Entry:=Sg.entry z02.sg fun x=>z02.f k x.1 x.2
theorem z02.ok (k:Nat):CallOK Tryz.prog 185 (z02.e k):=fn_ok (c:=z02.cx k) (code:=z02.body) (TT.of tt_ok pp_ok mm_ok) (fns_ok ⟨(z2v.ok k),trivial⟩) mixed Tryz.func185 (by kernel_rfl) (by kernel_rfl) (by kernel_rfl) (by kernel_rfl) (by kernel_rfl) (by kernel_rfl) (fun x=>by kernel_rfl)
def z2N.body:Go.Code:=Tryz.f135.body.getD .skip
def z2N.rs:List Go.ResultVar:=Tryz.f135.results.toList
def z2N.regs:List (Nat × RInfo):=[(0,⟨[0,3],[3],[0],[],0,[],[],[1],[],[]⟩),(1,⟨[0,3,5,6],[3,11],[],[],0,[],[],[0,3],[],[]⟩),(2,⟨[0,3,5,14],[3,11],[],[],0,[],[],[6],[],[]⟩),(3,⟨[4],[21],[0,1],[],0,[],[],[],[],[]⟩),(4,⟨[4],[21],[5,6],[],6,[],[],[0,5,3],[],[]⟩)]
def z2N.cx (k:Nat):Cx:=⟨tt,pp,[(185,(Entry.alt z01.sg (z01.e k) (z02.e k))),(187,(z2v.e k)),(140,(cloneE tTxn)),(188,(insE tTxn))],z2N.regs,k,mm⟩
@[reducible] def z2N.sg:Sg:=⟨[.dat (.slc tTxn),.dat tTxn],[],.dat (.slc tTxn),[]⟩
def z2N.f (k:Nat) (a0:Ty.D (.slc tTxn)) (a1:Ty.D tTxn):Option (Sg.Out z2N.sg):=Sg.fn z2N.sg (z2N.cx k) z2N.body z2N.rs (a0,a1)
def z2N.e (k:Nat):Entry:=Sg.entry z2N.sg fun x=>z2N.f k x.1 x.2
theorem z2N.ok (k:Nat):CallOK Tryz.prog 135 (z2N.e k):=fn_ok (c:=z2N.cx k) (code:=z2N.body) (TT.of tt_ok pp_ok mm_ok) (fns_ok ⟨(alt_ok (z01.ok k) (z02.ok k)),(z2v.ok k),cloneTxn_ok,insTxn_ok,trivial⟩) mixed Tryz.func135 (by kernel_rfl) (by kernel_rfl) (by kernel_rfl) (by kernel_rfl) (by kernel_rfl) (by kernel_rfl) (fun x=>by kernel_rfl)
def z2P.body:Go.Code:=Tryz.f232.body.getD .skip
def z2P.rs:List Go.ResultVar:=Tryz.f232.results.toList
def z2P.regs:List (Nat × RInfo):=[(0,ri [2,3] [2,3]),(1,rq [4] [6] 11)]
def z2P.cx (k:Nat):Cx:=⟨tt,pp,[(119,(z2t.e k))],z2P.regs,k,mm⟩
@[reducible] def z2P.sg:Sg:=⟨[.dat tVec,.dat tDot],[],.dat .bool,[]⟩
def z2P.f (k:Nat) (a0:Ty.D tVec) (a1:Ty.D tDot):Option (Sg.Out z2P.sg):=Sg.fn z2P.sg (z2P.cx k) z2P.body z2P.rs (a0,a1)
def z2P.e (k:Nat):Entry:=Sg.entry z2P.sg fun x=>z2P.f k x.1 x.2
theorem z2P.ok (k:Nat):CallOK Tryz.prog 232 (z2P.e k):=fn_ok (c:=z2P.cx k) (code:=z2P.body) (TT.of tt_ok pp_ok mm_ok) (fns_ok ⟨(z2t.ok k),trivial⟩) mixed Tryz.func232 (by kernel_rfl) (by kernel_rfl) (by kernel_rfl) (by kernel_rfl) (by kernel_rfl) (by kernel_rfl) (fun x=>by kernel_rfl)
def z00.body:Go.Code:=Tryz.f190.body.getD .skip
def z00.rs:List Go.ResultVar:=Tryz.f190.results.toList
def z00.regs:List (Nat × RInfo):=[(0,ri [0,2,4] [4]),(1,ri [0,2,4,8] [4]),(2,ri [0,2,4,8,9,10] [4]),(3,⟨[0,2,4,8,9,10,17],[4],[],[],0,[0,2,4,8,9,10],[4],[],[],[]⟩),(4,ri [0,2,4,8,9,10,11] [4]),(5,⟨[0,2,4,8,9,10,11,31],[4],[],[],8,[],[],[],[[],[],[],[],[],[],[4,5],[6,4,5]],[]⟩),(6,ri [0,2,4,8,9,10] [4]),(7,ri [0,2,4,8,9,10] [4]),(8,⟨[6,7],[],[],[],15,[],[],[],[[],[],[],[],[],[],[],[],[],[],[],[9,10],[11,9,10],[11,9,10],[11,9,10],[11,9,10]],[]⟩)]
def z00.cx (k:Nat):Cx:=⟨tt,pp,[(176,(z12.e k))],z00.regs,k,mm⟩
@[reducible] def z00.sg:Sg:=⟨[.dat (.slc tDot),.dat tDot,.fn 176 0],[],.t2 (.dat (.int .i64)) (.dat .bool),[]⟩
def z00.f (k:Nat) (a0:Ty.D (.slc tDot)) (a1:Ty.D tDot):Option (Sg.Out z00.sg):=Sg.fn z00.sg (z00.cx k) z00.body z00.rs (a0,a1)
def z00.e (k:Nat):Entry:=Sg.entry z00.sg fun x=>z00.f k x.1 x.2
theorem z00.ok (k:Nat):CallOK Tryz.prog 190 (z00.e k):=fn_ok (c:=z00.cx k) (code:=z00.body) (TT.of tt_ok pp_ok mm_ok) (fns_ok ⟨(z12.ok k),trivial⟩) mixed Tryz.func190 (by kernel_rfl) (by kernel_rfl) (by kernel_rfl) (by kernel_rfl) (by kernel_rfl) (by kernel_rfl) (fun x=>by kernel_rfl)
def z2J.body:Go.Code:=Tryz.f189.body.getD .skip
def z2J.rs:List Go.ResultVar:=Tryz.f189.results.toList
def z2J.regs:List (Nat × RInfo):=[(0,⟨[2,3],[2,3],[0],[],0,[],[],[],[],[]⟩),(1,ri [2,3,10] [2,3,10]),(2,ri [4] [15]),(3,ri [6] [15]),(4,ri [4] [15])]
def z2J.cx (k:Nat):Cx:=⟨tt,pp,[(232,(z2P.e k)),(190,(z00.e k)),(176,(z12.e k))],z2J.regs,k,mm⟩
@[reducible] def z2J.sg:Sg:=⟨[.dat tDots,.dat tDot],[],.dat .bool,[]⟩
def z2J.f (k:Nat) (a0:Ty.D tDots) (a1:Ty.D tDot):Option (Sg.Out z2J.sg):=Sg.fn z2J.sg (z2J.cx k) z2J.body z2J.rs (a0,a1)
def z2J.e (k:Nat):Entry:=Sg.entry z2J.sg fun x=>z2J.f k x.1 x.2
theorem z2J.ok (k:Nat):CallOK Tryz.prog 189 (z2J.e k):=fn_ok (c:=z2J.cx k) (code:=z2J.body) (TT.of tt_ok pp_ok mm_ok) (fns_ok ⟨(z2P.ok k),(z00.ok k),(z12.ok k),trivial⟩) mixed Tryz.func189 (by kernel_rfl) (by kernel_rfl) (by kernel_rfl) (by kernel_rfl) (by kernel_rfl) (by kernel_rfl) (fun x=>by kernel_rfl)
def z2I.body:Go.Code:=Tryz.f136.body.getD .skip
def z2I.rs:List Go.ResultVar:=Tryz.f136.results.toList
def z2I.regs:List (Nat × RInfo):=[(0,⟨[2,3,4],[2,3,4],[0],[],0,[],[],[0,1],[],[]⟩),(1,⟨[2,3,4,14],[2,3,4,13],[],[],0,[],[],[3,2],[],[]⟩),(2,⟨[4],[4],[1],[],0,[],[],[2,4],[],[]⟩),(3,⟨[2,3,4,5],[2,3,4,20],[],[],0,[],[],[2,3],[],[]⟩),(4,⟨[4],[4],[8,10],[],10,[],[],[2,5,3,4],[[],[],[],[],[3],[],[],[6],[3,6],[1,3,6],[1,3,6]],[]⟩)]
def z2I.cx (k:Nat):Cx:=⟨tt,pp,[(119,(z2t.e k)),(189,(z2J.e k)),(190,(z00.e k)),(176,(z12.e k)),(138,(cloneE tDot)),(191,(insE tDot)),(183,(z2c.e k))],z2I.regs,k,mm⟩
@[reducible] def z2I.sg:Sg:=⟨[.dat tDots,.dat tDot],[],.dat tDots,[]⟩
def z2I.f (k:Nat) (a0:Ty.D tDots) (a1:Ty.D tDot):Option (Sg.Out z2I.sg):=Sg.fn z2I.sg (z2I.cx k) z2I.body z2I.rs (a0,a1)
def z2I.e (k:Nat):Entry:=Sg.entry z2I.sg fun x=>z2I.f k x.1 x.2
theorem z2I.ok (k:Nat):CallOK Tryz.prog 136 (z2I.e k):=fn_ok (c:=z2I.cx k) (code:=z2I.body) (TT.of tt_ok pp_ok mm_ok) (fns_ok ⟨(z2t.ok k),(z2J.ok k),(z00.ok k),(z12.ok k),cloneDot_ok,insDot_ok,(z2c.ok k),trivial⟩) mixed Tryz.func136 (by kernel_rfl) (by kernel_rfl) (by kernel_rfl) (by kernel_rfl) (by kernel_rfl) (by kernel_rfl) (fun x=>by kernel_rfl)
def z2l.body:Go.Code:=Tryz.f55.body.getD .skip
def z2l.rs:List Go.ResultVar:=Tryz.f55.results.toList
def z2l.regs:List (Nat × RInfo):=[(0,⟨[2,3,4],[2,3,4],[0,1],[],0,[],[],[],[],[]⟩),(1,ri [2,3,4,10] [2,3,4]),(2,⟨[4],[4],[1],[],0,[],[],[],[],[]⟩),(3,⟨[2,3,4],[2,3,4],[5],[],0,[],[],[],[],[]⟩),(4,⟨[2,4],[2,4],[6],[],0,[],[],[],[],[]⟩),(5,⟨[4],[4],[1],[],0,[],[],[],[],[]⟩)]
def z2l.cx (k:Nat):Cx:=⟨tt,pp,[(134,(z2H.e k)),(135,(z2N.e k)),(136,(z2I.e k))],z2l.regs,k,mm⟩
@[reducible] def z2l.sg:Sg:=⟨[.dat tState,.dat tTxn],[],.dat tState,[]⟩
def z2l.f (k:Nat) (a0:Ty.D tState) (a1:Ty.D tTxn):Option (Sg.Out z2l.sg):=Sg.fn z2l.sg (z2l.cx k) z2l.body z2l.rs (a0,a1)
def z2l.e (k:Nat):Entry:=Sg.entry z2l.sg fun x=>z2l.f k x.1 x.2
theorem z2l.ok (k:Nat):CallOK Tryz.prog 55 (z2l.e k):=fn_ok (c:=z2l.cx k) (code:=z2l.body) (TT.of tt_ok pp_ok mm_ok) (fns_ok ⟨(z2H.ok k),(z2N.ok k),(z2I.ok k),trivial⟩) mixed Tryz.func55 (by kernel_rfl) (by kernel_rfl) (by kernel_rfl) (by kernel_rfl) (by kernel_rfl) (by kernel_rfl) (fun x=>by kernel_rfl)
def z1K.body:Go.Code:=Tryz.f137.body.getD .skip
def z1K.rs:List Go.ResultVar:=Tryz.f137.results.toList
def z1K.regs:List (Nat × RInfo):=[(0,ri [0,1] []),(1,ri [0,1,5] []),(2,⟨[0,1,5,14],[],[],[],0,[0,1,5],[],[],[],[]⟩),(3,ri [0,1,5,6] [29]),(4,ri [0,1,5,6,15] [29]),(5,ri [0,1,5,6] [29]),(6,ri [0,1,5,6,19] [29]),(7,rq [0,1,5,6] [29] 7),(10,ri [0,1,5,6,51] [29]),(11,⟨[0,1,5],[],[0,5,8,9],[],9,[],[],[],[],[]⟩),(12,ri [0,1,5,62] []),(13,⟨[0,1,5],[],[0,5,8,9],[],9,[],[],[],[],[]⟩),(8,⟨[0,1,5],[],[0,16,17],[],17,[],[],[],[],[]⟩),(9,⟨[0,1,5],[],[4,5],[],5,[],[],[],[],[]⟩),(14,⟨[4],[],[0,1],[],0,[],[],[],[],[]⟩)]
def z1K.cx (k:Nat):Cx:=⟨tt,pp,[(122,(z0J.e k))],z1K.regs,k,mm⟩
@[reducible] def z1K.sg:Sg:=⟨[.dat (.slc tUndo),.dat (.slc tUndo)],[],.own tUndo,[]⟩
def z1K.f (k:Nat) (a0:Ty.D (.slc tUndo)) (a1:Ty.D (.slc tUndo)):Option (Sg.Out z1K.sg):=Sg.fn z1K.sg (z1K.cx k) z1K.body z1K.rs (a0,a1)
def z1K.e (k:Nat):Entry:=Sg.entry z1K.sg fun x=>z1K.f k x.1 x.2
theorem z1K.ok (k:Nat):CallOK Tryz.prog 137 (z1K.e k):=fn_ok (c:=z1K.cx k) (code:=z1K.body) (TT.of tt_ok pp_ok mm_ok) (fns_ok ⟨(z0J.ok k),trivial⟩) mixed Tryz.func137 (by kernel_rfl) (by kernel_rfl) (by kernel_rfl) (by kernel_rfl) (by kernel_rfl) (by kernel_rfl) (fun x=>by kernel_rfl)
def z1r.body:Go.Code:=Tryz.f56.body.getD .skip
def z1r.rs:List Go.ResultVar:=Tryz.f56.results.toList
def z1r.regs:List (Nat × RInfo):=[(0,⟨[1,2,4],[2,4],[0],[],0,[],[],[],[],[]⟩),(1,⟨[2,4],[2,4],[5],[],0,[],[],[],[],[]⟩),(2,⟨[4],[4],[1],[],0,[],[],[],[],[]⟩)]
def z1r.cx (k:Nat):Cx:=⟨tt,pp,[(137,(z1K.e k))],z1r.regs,k,mm⟩
@[reducible] def z1r.sg:Sg:=⟨[.dat tState,.dat (.slc tUndo)],[],.dat tState,[]⟩
def z1r.f (k:Nat) (a0:Ty.D tState) (a1:Ty.D (.slc tUndo)):Option (Sg.Out z1r.sg):=Sg.fn z1r.sg (z1r.cx k) z1r.body z1r.rs (a0,a1)
def z1r.e (k:Nat):Entry:=Sg.entry z1r.sg fun x=>z1r.f k x.1 x.2
theorem z1r.ok (k:Nat):CallOK Tryz.prog 56 (z1r.e k):=fn_ok (c:=z1r.cx k) (code:=z1r.body) (TT.of tt_ok pp_ok mm_ok) (fns_ok ⟨(z1K.ok k),trivial⟩) mixed Tryz.func56 (by kernel_rfl) (by kernel_rfl) (by kernel_rfl) (by kernel_rfl) (by kernel_rfl) (by kernel_rfl) (fun x=>by kernel_rfl)
def z1j.body:Go.Code:=Tryz.f57.body.getD .skip
def z1j.rs:List Go.ResultVar:=Tryz.f57.results.toList
def z1j.regs:List (Nat × RInfo):=[(0,⟨[0,3],[3],[0],[],0,[],[],[],[],[]⟩),(1,ri [0,3,7] [3]),(2,ri [0,3,7,8] [3]),(3,⟨[4],[37],[6,7],[],7,[],[],[],[],[]⟩),(4,ri [0,3,17] [3]),(5,ri [0,3,5] [3]),(6,⟨[0,3,5,23],[3],[],[],0,[0,3,5],[3],[],[],[]⟩),(8,rq [0,3,5,33] [3] 8),(9,⟨[4],[37],[4],[],0,[],[],[],[],[]⟩),(7,ri [0,3,5] [3]),(10,⟨[4],[37],[0,1],[],0,[],[],[],[],[]⟩)]
def z1j.cx (k:Nat):Cx:=⟨tt,pp,[(138,(cloneO tDot))],z1j.regs,k,mm⟩
@[reducible] def z1j.sg:Sg:=⟨[.dat (.slc tDot),.dat tRecord],[],.dat (.slc tDot),[]⟩
def z1j.f (k:Nat) (a0:Ty.D (.slc tDot)) (a1:Ty.D tRecord):Option (Sg.Out z1j.sg):=Sg.fn z1j.sg (z1j.cx k) z1j.body z1j.rs (a0,a1)
def z1j.e (k:Nat):Entry:=Sg.entry z1j.sg fun x=>z1j.f k x.1 x.2
theorem z1j.ok (k:Nat):CallOK Tryz.prog 57 (z1j.e k):=fn_ok (c:=z1j.cx k) (code:=z1j.body) (TT.of tt_ok pp_ok mm_ok) (fns_ok ⟨cloneODot_ok,trivial⟩) mixed Tryz.func57 (by kernel_rfl) (by kernel_rfl) (by kernel_rfl) (by kernel_rfl) (by kernel_rfl) (by kernel_rfl) (fun x=>by kernel_rfl)
def z0d.body:Go.Code:=Tryz.f235.body.getD .skip
def z0d.rs:List Go.ResultVar:=Tryz.f235.results.toList
def z0d.regs:List (Nat × RInfo):=[(0,ri [0] []),(1,ri [0,3] []),(2,ri [0,3,9,10,11] []),(3,⟨[0,3,9,10,11,12],[],[],[],0,[0,3,9,10,11],[],[],[],[]⟩),(4,⟨[0,3,5,9,10,11],[],[2],[],0,[],[],[],[],[]⟩),(5,ri [0,3,9,10,11] []),(6,ri [0,3,9,10,11,20] []),(7,ri [0,3,9,10,11] []),(8,ri [0,3,9,10,11] []),(9,⟨[0,6],[24],[2],[],0,[],[],[],[],[]⟩),(10,ri [6,25,26,27] [24]),(11,⟨[6,25,26,27,28],[24],[],[],0,[6,25,26,27],[24],[],[],[]⟩),(12,⟨[6,8,25,26,27],[24],[2],[],0,[],[],[],[],[]⟩),(13,⟨[6,25,26,27],[24],[0,2,3],[],0,[],[],[],[],[]⟩),(14,ri [6,25,26,27] [24]),(15,⟨[2],[24],[0,1],[],0,[],[],[],[],[]⟩)]
def z0d.cx (k:Nat):Cx:=⟨tt,pp,[(261,(growE tDot))],z0d.regs,k,mm⟩
@[reducible] def z0d.sg:Sg:=⟨[.dat (.slc (.slc tDot))],[],.raw tDot,[]⟩
def z0d.f (k:Nat) (a0:Ty.D (.slc (.slc tDot))):Option (Sg.Out z0d.sg):=Sg.fn z0d.sg (z0d.cx k) z0d.body z0d.rs a0
def z0d.e (k:Nat):Entry:=Sg.entry z0d.sg fun x=>z0d.f k x
theorem z0d.ok (k:Nat):CallOK Tryz.prog 235 (z0d.e k):=fn_ok (c:=z0d.cx k) (code:=z0d.body) (TT.of tt_ok pp_ok mm_ok) (fns_ok ⟨growDot_ok,trivial⟩) mixed Tryz.func235 (by kernel_rfl) (by kernel_rfl) (by kernel_rfl) (by kernel_rfl) (by kernel_rfl) (by kernel_rfl) (fun x=>by kernel_rfl)
def z1M.body:Go.Code:=Tryz.f263.body.getD .skip
def z1M.rs:List Go.ResultVar:=Tryz.f263.results.toList
def z1M.regs:List (Nat × RInfo):=[(0,ri [0,1] []),(1,ri [4] [])]
def z1M.cx (k:Nat):Cx:=⟨tt,pp,[],z1M.regs,k,mm⟩
@[reducible] def z1M.sg:Sg:=⟨[.dat (.int .i64),.dat (.int .i64)],[],.dat (.int .i64),[]⟩
def z1M.f (k:Nat) (a0:Ty.D (.int .i64)) (a1:Ty.D (.int .i64)):Option (Sg.Out z1M.sg):=Sg.fn z1M.sg (z1M.cx k) z1M.body z1M.rs (a0,a1)
def z1M.e (k:Nat):Entry:=Sg.entry z1M.sg fun x=>z1M.f k x.1 x.2
theorem z1M.ok (k:Nat):CallOK Tryz.prog 263 (z1M.e k):=fn_ok (c:=z1M.cx k) (code:=z1M.body) (TT.of tt_ok pp_ok mm_ok) (fns_ok trivial) mixed Tryz.func263 (by kernel_rfl) (by kernel_rfl) (by kernel_rfl) (by kernel_rfl) (by kernel_rfl) (by kernel_rfl) (fun x=>by kernel_rfl)
def z0f.body:Go.Code:=Tryz.f262.body.getD .skip
def z0f.rs:List Go.ResultVar:=Tryz.f262.results.toList
def z0f.regs:List (Nat × RInfo):=[(0,ri [2,3,4,6] [3,4,6]),(1,ri [2,3,4,6,8] [3,4,6]),(2,⟨[2,3,4,6,8,9],[3,4,6],[],[],0,[2,3,4,6,8],[3,4,6],[],[],[]⟩),(3,ri [2,3,4,6,7,8] [3,4,6]),(4,⟨[2,3,4,6,8],[3,4,6],[],[],9,[],[],[],[[],[],[],[],[],[],[],[],[4,7],[4,7,8],[4,7,8]],[]⟩),(5,ri [2,3,4,6,8] [3,4,6]),(6,ri [6] [6])]
def z0f.cx (k:Nat):Cx:=⟨tt,pp,[(263,(z1M.e k))],z0f.regs,k,mm⟩
@[reducible] def z0f.sg:Sg:=⟨[.dat tVec,.dat tVec,.fn 263 0],[],.dat tVec,[]⟩
def z0f.f (k:Nat) (a0:Ty.D tVec) (a1:Ty.D tVec):Option (Sg.Out z0f.sg):=Sg.fn z0f.sg (z0f.cx k) z0f.body z0f.rs (a0,a1)
def z0f.e (k:Nat):Entry:=Sg.entry z0f.sg fun x=>z0f.f k x.1 x.2
theorem z0f.ok (k:Nat):CallOK Tryz.prog 262 (z0f.e k):=fn_ok (c:=z0f.cx k) (code:=z0f.body) (TT.of tt_ok pp_ok mm_ok) (fns_ok ⟨(z1M.ok k),trivial⟩) mixed Tryz.func262 (by kernel_rfl) (by kernel_rfl) (by kernel_rfl) (by kernel_rfl) (by kernel_rfl) (by kernel_rfl) (fun x=>by kernel_rfl)
def z2K.body:Go.Code:=Tryz.f236.body.getD .skip
def z2K.rs:List Go.ResultVar:=Tryz.f236.results.toList
def z2K.regs:List (Nat × RInfo):=[(0,ri [2,3,4] [2,3,4]),(1,ri [4] [4])]
def z2K.cx (k:Nat):Cx:=⟨tt,pp,[(262,(z0f.e k)),(263,(z1M.e k))],z2K.regs,k,mm⟩
@[reducible] def z2K.sg:Sg:=⟨[.dat tVec,.dat tVec],[],.dat tVec,[]⟩
def z2K.f (k:Nat) (a0:Ty.D tVec) (a1:Ty.D tVec):Option (Sg.Out z2K.sg):=Sg.fn z2K.sg (z2K.cx k) z2K.body z2K.rs (a0,a1)
def z2K.e (k:Nat):Entry:=Sg.entry z2K.sg fun x=>z2K.f k x.1 x.2
theorem z2K.ok (k:Nat):CallOK Tryz.prog 236 (z2K.e k):=fn_ok (c:=z2K.cx k) (code:=z2K.body) (TT.of tt_ok pp_ok mm_ok) (fns_ok ⟨(z0f.ok k),(z1M.ok k),trivial⟩) mixed Tryz.func236 (by kernel_rfl) (by kernel_rfl) (by kernel_rfl) (by kernel_rfl) (by kernel_rfl) (by kernel_rfl) (fun x=>by kernel_rfl)
def z23.body:Go.Code:=Tryz.f192.body.getD .skip
def z23.rs:List Go.ResultVar:=Tryz.f192.results.toList
def z23.regs:List (Nat × RInfo):=[(0,⟨[2,3,4],[2,3,4],[0,1],[],0,[],[],[0,1],[],[]⟩),(1,⟨[2,3,4,5],[2,3,4,11],[6],[],0,[],[],[2,3],[],[]⟩),(2,⟨[2,3,4,5],[2,3,4,11],[0,1],[0],0,[],[],[],[],[]⟩),(3,⟨[4],[4],[7],[],0,[],[],[2,3,5,4],[],[]⟩)]
def z23.cx (k:Nat):Cx:=⟨tt,pp,[(235,(z0d.e k)),(182,(sortE tDot 176 dotLt)),(176,(z12.e k)),(236,(z2K.e k)),(183,(z2c.e k))],z23.regs,k,mm⟩
@[reducible] def z23.sg:Sg:=⟨[.dat tDots,.dat tDots],[],.dat tDots,[]⟩
def z23.f (k:Nat) (a0:Ty.D tDots) (a1:Ty.D tDots):Option (Sg.Out z23.sg):=Sg.fn z23.sg (z23.cx k) z23.body z23.rs (a0,a1)
def z23.e (k:Nat):Entry:=Sg.entry z23.sg fun x=>z23.f k x.1 x.2
theorem z23.ok (k:Nat):CallOK Tryz.prog 192 (z23.e k):=fn_ok (c:=z23.cx k) (code:=z23.body) (TT.of tt_ok pp_ok mm_ok) (fns_ok ⟨(z0d.ok k),sortDot_ok,(z12.ok k),(z2K.ok k),(z2c.ok k),trivial⟩) mixed Tryz.func192 (by kernel_rfl) (by kernel_rfl) (by kernel_rfl) (by kernel_rfl) (by kernel_rfl) (by kernel_rfl) (fun x=>by kernel_rfl)
def z1D.body:Go.Code:=Tryz.f139.body.getD .skip
def z1D.rs:List Go.ResultVar:=Tryz.f139.results.toList
def z1D.regs:List (Nat × RInfo):=[(0,⟨[1,2,4],[2,4],[0],[],0,[],[],[],[],[]⟩),(1,⟨[2,4],[2,4],[6],[],5,[],[],[],[[],[],[],[],[1],[1],[1]],[]⟩),(2,⟨[4],[4],[1],[],0,[],[],[],[],[]⟩)]
def z1D.cx (k:Nat):Cx:=⟨tt,pp,[(129,(z2S.e k)),(192,(z23.e k))],z1D.regs,k,mm⟩
@[reducible] def z1D.sg:Sg:=⟨[.dat tState,.dat (.slc tDot)],[],.dat tState,[]⟩
def z1D.f (k:Nat) (a0:Ty.D tState) (a1:Ty.D (.slc tDot)):Option (Sg.Out z1D.sg):=Sg.fn z1D.sg (z1D.cx k) z1D.body z1D.rs (a0,a1)
def z1D.e (k:Nat):Entry:=Sg.entry z1D.sg fun x=>z1D.f k x.1 x.2
theorem z1D.ok (k:Nat):CallOK Tryz.prog 139 (z1D.e k):=fn_ok (c:=z1D.cx k) (code:=z1D.body) (TT.of tt_ok pp_ok mm_ok) (fns_ok ⟨(z2S.ok k),(z23.ok k),trivial⟩) mixed Tryz.func139 (by kernel_rfl) (by kernel_rfl) (by kernel_rfl) (by kernel_rfl) (by kernel_rfl) (by kernel_rfl) (fun x=>by kernel_rfl)
def z0K.body:Go.Code:=Tryz.f58.body.getD .skip
def z0K.rs:List Go.ResultVar:=Tryz.f58.results.toList
def z0K.regs:List (Nat × RInfo):=[(0,⟨[2,3,4],[2,3,4],[0,1],[],0,[],[],[],[],[]⟩),(1,ri [2,3,4,8,9,10] [2,3,4]),(2,⟨[2,3,4,8,9,10,11],[2,3,4],[],[],0,[2,3,4,8,9,10],[2,3,4],[],[],[]⟩),(3,⟨[2,3,4,6,8,9,10],[2,3,4,6],[3],[],0,[],[],[],[],[]⟩),(4,⟨[2,3,4,8,9,10],[2,3,4],[3],[],0,[],[],[],[],[]⟩),(5,ri [2,3,4,8,9,10] [2,3,4]),(6,⟨[4],[4],[7],[],7,[],[],[],[[],[],[],[0,2],[],[],[0,2,5],[0,2,5]],[]⟩)]
def z0K.cx (k:Nat):Cx:=⟨tt,pp,[(55,(z2l.e k)),(56,(z1r.e k)),(139,(z1D.e k))],z0K.regs,k,mm⟩
@[reducible] def z0K.sg:Sg:=⟨[.dat tState,.dat tDelta],[],.dat tState,[]⟩
def z0K.f (k:Nat) (a0:Ty.D tState) (a1:Ty.D tDelta):Option (Sg.Out z0K.sg):=Sg.fn z0K.sg (z0K.cx k) z0K.body z0K.rs (a0,a1)
def z0K.e (k:Nat):Entry:=Sg.entry z0K.sg fun x=>z0K.f k x.1 x.2
theorem z0K.ok (k:Nat):CallOK Tryz.prog 58 (z0K.e k):=fn_ok (c:=z0K.cx k) (code:=z0K.body) (TT.of tt_ok pp_ok mm_ok) (fns_ok ⟨(z2l.ok k),(z1r.ok k),(z1D.ok k),trivial⟩) mixed Tryz.func58 (by kernel_rfl) (by kernel_rfl) (by kernel_rfl) (by kernel_rfl) (by kernel_rfl) (by kernel_rfl) (fun x=>by kernel_rfl)
def z16.body:Go.Code:=Tryz.f59.body.getD .skip
def z16.rs:List Go.ResultVar:=Tryz.f59.results.toList
def z16.regs:List (Nat × RInfo):=[(0,⟨[1,2],[1,2],[0],[],0,[],[],[],[],[]⟩),(1,⟨[1,2],[1,2],[4],[],0,[],[],[],[],[]⟩),(2,⟨[1,2],[1,2],[4],[],0,[],[],[],[],[]⟩),(3,⟨[1,2],[1,2],[6],[],0,[],[],[],[],[]⟩),(4,⟨[1,2],[1,2],[6],[],0,[],[],[],[],[]⟩),(5,ri [1,2,26,27] [1,2]),(6,⟨[1,2,26,27,28],[1,2],[],[],0,[1,2,26,27],[1,2],[],[],[]⟩),(7,⟨[1,2,3,4,26,27],[1,2],[3],[],0,[],[],[],[],[]⟩),(8,⟨[1,2,26,27],[1,2],[5],[],0,[],[],[],[],[]⟩),(9,ri [1,2,26,27] [1,2]),(10,⟨[2],[2],[1],[],0,[],[],[],[],[]⟩)]
def z16.cx (k:Nat):Cx:=⟨tt,pp,[(140,(cloneO tTxn)),(141,(cloneO tUndo)),(138,(cloneO tDot))],z16.regs,k,mm⟩
@[reducible] def z16.sg:Sg:=⟨[.dat tState],[],.dat tState,[]⟩
def z16.f (k:Nat) (a0:Ty.D tState):Option (Sg.Out z16.sg):=Sg.fn z16.sg (z16.cx k) z16.body z16.rs a0
def z16.e (k:Nat):Entry:=Sg.entry z16.sg fun x=>z16.f k x
theorem z16.ok (k:Nat):CallOK Tryz.prog 59 (z16.e k):=fn_ok (c:=z16.cx k) (code:=z16.body) (TT.of tt_ok pp_ok mm_ok) (fns_ok ⟨cloneOTxn_ok,cloneOUndo_ok,cloneODot_ok,trivial⟩) mixed Tryz.func59 (by kernel_rfl) (by kernel_rfl) (by kernel_rfl) (by kernel_rfl) (by kernel_rfl) (by kernel_rfl) (fun x=>by kernel_rfl)
def z1m.body:Go.Code:=Tryz.f14.body.getD .skip
def z1m.rs:List Go.ResultVar:=Tryz.f14.results.toList
def z1m.regs:List (Nat × RInfo):=[(0,⟨[2,3,4],[2,3,4],[0,1],[],0,[],[],[],[],[]⟩),(1,ri [2,3,4,6] [2,3,4]),(2,ri [2,3,4,6,7] [2,3,4]),(3,⟨[2,3,4],[2,3,4],[4],[],0,[],[],[],[],[]⟩),(4,ri [2,4] [2,4]),(5,ri [2,3,4,6,18] [2,3,4]),(6,⟨[2,3,4],[2,3,4],[5],[],0,[],[],[],[],[]⟩),(7,⟨[2,4],[2,4],[11],[],12,[],[],[],[[],[],[],[],[],[3],[3],[],[6,3,7],[],[1,3,6,7],[1,3,6,7]],[]⟩),(8,ri [2,3,4,6,36] [2,3,4]),(9,⟨[4],[4],[4],[],0,[],[],[],[],[]⟩),(10,ri [2,3,4,42] [2,3,4]),(11,⟨[4],[4],[3],[],0,[],[],[],[],[]⟩),(12,⟨[4],[4],[1],[],0,[],[],[],[],[]⟩)]
def z1m.cx (k:Nat):Cx:=⟨tt,pp,[(55,(z2l.e k)),(56,(z1r.e k)),(57,(z1j.e k)),(58,(z0K.e k)),(59,(z16.e k))],z1m.regs,k,mm⟩
@[reducible] def z1m.sg:Sg:=⟨[.dat tState,.dat tRecord],[],.dat tState,[]⟩
def z1m.f (k:Nat) (a0:Ty.D tState) (a1:Ty.D tRecord):Option (Sg.Out z1m.sg):=Sg.fn z1m.sg (z1m.cx k) z1m.body z1m.rs (a0,a1)
def z1m.e (k:Nat):Entry:=Sg.entry z1m.sg fun x=>z1m.f k x.1 x.2
theorem z1m.ok (k:Nat):CallOK Tryz.prog 14 (z1m.e k):=fn_ok (c:=z1m.cx k) (code:=z1m.body) (TT.of tt_ok pp_ok mm_ok) (fns_ok ⟨(z2l.ok k),(z1r.ok k),(z1j.ok k),(z0K.ok k),(z16.ok k),trivial⟩) mixed Tryz.func14 (by kernel_rfl) (by kernel_rfl) (by kernel_rfl) (by kernel_rfl) (by kernel_rfl) (by kernel_rfl) (fun x=>by kernel_rfl)
def z1q.body:Go.Code:=Tryz.f11.body.getD .skip
def z1q.rs:List Go.ResultVar:=Tryz.f11.results.toList
def z1q.regs:List (Nat × RInfo):=[(0,ri [] []),(1,ri [1] [1]),(2,⟨[1,2],[1,2],[6],[],0,[],[],[],[],[]⟩),(3,⟨[1,2,3],[1,2,3],[6],[],0,[],[],[],[],[]⟩),(4,⟨[1,2,4],[1,2,4],[5],[],0,[],[],[],[],[]⟩),(5,rq [0] [] 27)]
def z1q.cx (k:Nat):Cx:=⟨tt,pp,[(14,(z1m.e k))],z1q.regs,k,mm⟩
@[reducible] def z1q.sg:Sg:=⟨[],[],.dat .bool,[]⟩
def z1q.f (k:Nat):Option (Sg.Out z1q.sg):=Sg.fn z1q.sg (z1q.cx k) z1q.body z1q.rs ()
def z1q.e (k:Nat):Entry:=Sg.entry z1q.sg fun x=>z1q.f k
theorem z1q.ok (k:Nat):CallOK Tryz.prog 11 (z1q.e k):=fn_ok (c:=z1q.cx k) (code:=z1q.body) (TT.of tt_ok pp_ok mm_ok) (fns_ok ⟨(z1m.ok k),trivial⟩) mixed Tryz.func11 (by kernel_rfl) (by kernel_rfl) (by kernel_rfl) (by kernel_rfl) (by kernel_rfl) (by kernel_rfl) (fun x=>by kernel_rfl)
def z0g.body:Go.Code:=Tryz.f7.body.getD .skip
def z0g.rs:List Go.ResultVar:=Tryz.f7.results.toList
def z0g.regs:List (Nat × RInfo):=[(0,ri [0] []),(1,ri [0,9] []),(2,ri [0] []),(3,⟨[0,3,4],[3,14],[6],[],0,[],[],[],[],[]⟩),(4,⟨[3,4,5,6],[3,5,14,19],[6],[],0,[],[],[],[],[]⟩),(5,ri [2] [24,31])]
def z0g.cx (k:Nat):Cx:=⟨tt,pp,[(42,(z0T.e k)),(43,(z14.e k)),(44,(z1Z.e k)),(11,(z1q.e k))],z0g.regs,k,mm⟩
@[reducible] def z0g.sg:Sg:=⟨[.dat .str],[],.dat .bool,[]⟩
def z0g.f (k:Nat) (a0:Ty.D .str):Option (Sg.Out z0g.sg):=Sg.fn z0g.sg (z0g.cx k) z0g.body z0g.rs a0
theorem z0g.f_eq (k:Nat) (a0:Ty.D .str):z0g.f k a0=br (ilt 600 (ilen a0)) (br (inS 0 600 (ilen a0)) (bnd (z0T.f k (piece a0 0 600)) fun r0=>bnd (z14.f k (piece a0 0 600)) fun r1=>bnd (z1Z.f k r0.1 r1.1) fun r2=>br r2 (br (ieq r0.2 r1.2) (bnd (z1q.f k) fun r3=>some r3) (some false)) (some false)) none) (bnd (z0T.f k a0) fun r4=>bnd (z14.f k a0) fun r5=>bnd (z1Z.f k r4.1 r5.1) fun r6=>br r6 (br (ieq r4.2 r5.2) (bnd (z1q.f k) fun r7=>some r7) (some false)) (some false)):=by kernel_rfl
def z0g.e (k:Nat):Entry:=Sg.entry z0g.sg fun x=>z0g.f k x
theorem z0g.ok (k:Nat):CallOK Tryz.prog 7 (z0g.e k):=fn_ok (c:=z0g.cx k) (code:=z0g.body) (TT.of tt_ok pp_ok mm_ok) (fns_ok ⟨(z0T.ok k),(z14.ok k),(z1Z.ok k),(z1q.ok k),trivial⟩) mixed Tryz.func7 (by kernel_rfl) (by kernel_rfl) (by kernel_rfl) (by kernel_rfl) (by kernel_rfl) (by kernel_rfl) (fun x=>by kernel_rfl)
def z1i.body:Go.Code:=Tryz.f167.body.getD .skip
def z1i.rs:List Go.ResultVar:=Tryz.f167.results.toList
def z1i.regs:List (Nat × RInfo):=[(0,ri [0] []),(1,ri [0,6] []),(2,ri [2] []),(3,ri [0,3] []),(4,⟨[0,3,10],[],[],[],0,[0,3],[],[],[],[]⟩),(6,ri [0,3,18] []),(7,ri [2] []),(5,ri [0,3] []),(8,ri [2] [])]
def z1i.cx (k:Nat):Cx:=⟨tt,pp,[],z1i.regs,k,mm⟩
@[reducible] def z1i.sg:Sg:=⟨[.dat (.slc .str)],[],.dat .bool,[]⟩
def z1i.f (k:Nat) (a0:Ty.D (.slc .str)):Option (Sg.Out z1i.sg):=Sg.fn z1i.sg (z1i.cx k) z1i.body z1i.rs a0
def z1i.l4 (k:Nat) (n:Nat) (x0:Ty.D (.slc .str)) (x3:Ty.D (.int .i64)):Option (Sg.Out z1i.sg):=loopAt (z1i.cx k) z1i.body [1,1,0,1,0] 4 [0,3] [] [] (Sg.K z1i.sg (z1i.cx k) z1i.rs) n ⟨[(0,.dat (.slc .str) x0),(3,.dat (.int .i64) x3)],[]⟩
theorem z1i.f_eq (k:Nat) (a0:Ty.D (.slc .str)):z1i.f k a0=br (ilt 12 (ilen a0)) (some false) (z1i.l4 k k a0 0):=by kernel_rfl
theorem z1i.l4_eq (k:Nat) (n4:Nat) (x0:Ty.D (.slc .str)) (x3:Ty.D (.int .i64)):z1i.l4 k (n4+1) x0 x3=br (ilt x3 (ilen x0)) (br (inL x3 x0) (br (ilt 120 (ilen (rd .str x0 (natOf x3)))) (some false) (z1i.l4 k n4 x0 (iadd .i64 x3 1))) none) (some true):=by kernel_rfl
def z1i.e (k:Nat):Entry:=Sg.entry z1i.sg fun x=>z1i.f k x
theorem z1i.ok (k:Nat):CallOK Tryz.prog 167 (z1i.e k):=fn_ok (c:=z1i.cx k) (code:=z1i.body) (TT.of tt_ok pp_ok mm_ok) (fns_ok trivial) mixed Tryz.func167 (by kernel_rfl) (by kernel_rfl) (by kernel_rfl) (by kernel_rfl) (by kernel_rfl) (by kernel_rfl) (fun x=>by kernel_rfl)
def z1b.body:Go.Code:=Tryz.f114.body.getD .skip
def z1b.rs:List Go.ResultVar:=Tryz.f114.results.toList
def z1b.regs:List (Nat × RInfo):=[(0,⟨[1],[1],[0],[],0,[],[],[],[],[]⟩),(1,ri [2] [5])]
def z1b.cx (k:Nat):Cx:=⟨tt,pp,[(167,(z1i.e k))],z1b.regs,k,mm⟩
@[reducible] def z1b.sg:Sg:=⟨[.dat tOp],[],.dat .bool,[]⟩
def z1b.f (k:Nat) (a0:Ty.D tOp):Option (Sg.Out z1b.sg):=Sg.fn z1b.sg (z1b.cx k) z1b.body z1b.rs a0
theorem z1b.f_eq (k:Nat) (a0:Ty.D tOp):z1b.f k a0=bnd (z1i.f k a0.2.1) fun r0=>br r0 (br (ile (ilen a0.2.2.1.2.2) 200) (some (ile (ilen a0.2.2.2.2) 300)) (some false)) (some false):=by kernel_rfl
def z1b.e (k:Nat):Entry:=Sg.entry z1b.sg fun x=>z1b.f k x
theorem z1b.ok (k:Nat):CallOK Tryz.prog 114 (z1b.e k):=fn_ok (c:=z1b.cx k) (code:=z1b.body) (TT.of tt_ok pp_ok mm_ok) (fns_ok ⟨(z1i.ok k),trivial⟩) mixed Tryz.func114 (by kernel_rfl) (by kernel_rfl) (by kernel_rfl) (by kernel_rfl) (by kernel_rfl) (by kernel_rfl) (fun x=>by kernel_rfl)
def z1l.body:Go.Code:=Tryz.f47.body.getD .skip
def z1l.rs:List Go.ResultVar:=Tryz.f47.results.toList
def z1l.regs:List (Nat × RInfo):=[(0,⟨[1],[1],[0],[],0,[],[],[],[],[]⟩),(1,ri [1,7] [1]),(2,ri [2] []),(3,ri [1,3] [1]),(4,⟨[1,3,12],[1],[],[],0,[1,3],[1],[],[],[]⟩),(6,ri [1,3,21] [1]),(7,ri [2] []),(5,ri [1,3] [1]),(8,ri [2] [])]
def z1l.cx (k:Nat):Cx:=⟨tt,pp,[(114,(z1b.e k))],z1l.regs,k,mm⟩
@[reducible] def z1l.sg:Sg:=⟨[.dat tTxn],[],.dat .bool,[]⟩
def z1l.f (k:Nat) (a0:Ty.D tTxn):Option (Sg.Out z1l.sg):=Sg.fn z1l.sg (z1l.cx k) z1l.body z1l.rs a0
def z1l.l4 (k:Nat) (n:Nat) (x3:Ty.D (.int .i64)) (m1:Ty.D tTxn):Option (Sg.Out z1l.sg):=loopAt (z1l.cx k) z1l.body [1,1,0,1,0] 4 [1,3] [1] [] (Sg.K z1l.sg (z1l.cx k) z1l.rs) n ⟨[(1,.ref 1 []),(3,.dat (.int .i64) x3)],[(1,.dat tTxn m1)]⟩
theorem z1l.f_eq (k:Nat) (a0:Ty.D tTxn):z1l.f k a0=br (ilt 20 (ilen a0.2.2.2.2)) (some false) (z1l.l4 k k 0 a0):=by kernel_rfl
theorem z1l.l4_eq (k:Nat) (n4:Nat) (x3:Ty.D (.int .i64)) (m1:Ty.D tTxn):z1l.l4 k (n4+1) x3 m1=br (ilt x3 (ilen m1.2.2.2.2)) (br (inL x3 m1.2.2.2.2) (bnd (z1b.f k (rd tOp m1.2.2.2.2 (natOf x3))) fun r0=>br (bnot r0) (some false) (z1l.l4 k n4 (iadd .i64 x3 1) m1)) none) (some true):=by kernel_rfl
def z1l.e (k:Nat):Entry:=Sg.entry z1l.sg fun x=>z1l.f k x
theorem z1l.ok (k:Nat):CallOK Tryz.prog 47 (z1l.e k):=fn_ok (c:=z1l.cx k) (code:=z1l.body) (TT.of tt_ok pp_ok mm_ok) (fns_ok ⟨(z1b.ok k),trivial⟩) mixed Tryz.func47 (by kernel_rfl) (by kernel_rfl) (by kernel_rfl) (by kernel_rfl) (by kernel_rfl) (by kernel_rfl) (fun x=>by kernel_rfl)
def z0u.body:Go.Code:=Tryz.f37.body.getD .skip
def z0u.rs:List Go.ResultVar:=Tryz.f37.results.toList
def z0u.regs:List (Nat × RInfo):=[(0,⟨[1],[1],[0],[],0,[],[],[],[],[]⟩),(1,ri [1,19] [1]),(2,ri [2] []),(3,ri [1,3] [1]),(4,⟨[1,3,24],[1],[],[],0,[1,3],[1],[],[],[]⟩),(6,ri [1,3,33] [1]),(7,ri [2] []),(5,ri [1,3] [1]),(8,ri [2] [])]
def z0u.cx (k:Nat):Cx:=⟨tt,pp,[(47,(z1l.e k))],z0u.regs,k,mm⟩
@[reducible] def z0u.sg:Sg:=⟨[.dat tDelta],[],.dat .bool,[]⟩
def z0u.f (k:Nat) (a0:Ty.D tDelta):Option (Sg.Out z0u.sg):=Sg.fn z0u.sg (z0u.cx k) z0u.body z0u.rs a0
def z0u.l4 (k:Nat) (n:Nat) (x3:Ty.D (.int .i64)) (m1:Ty.D tDelta):Option (Sg.Out z0u.sg):=loopAt (z0u.cx k) z0u.body [1,1,0,1,0] 4 [1,3] [1] [] (Sg.K z0u.sg (z0u.cx k) z0u.rs) n ⟨[(1,.ref 1 []),(3,.dat (.int .i64) x3)],[(1,.dat tDelta m1)]⟩
theorem z0u.f_eq (k:Nat) (a0:Ty.D tDelta):z0u.f k a0=br (ilt 20 (ilen a0.1)) (some false) (br (ilt 100 (ilen a0.2.1)) (some false) (br (ilt 100 (ilen a0.2.2)) (some false) (z0u.l4 k k 0 a0))):=by kernel_rfl
theorem z0u.l4_eq (k:Nat) (n4:Nat) (x3:Ty.D (.int .i64)) (m1:Ty.D tDelta):z0u.l4 k (n4+1) x3 m1=br (ilt x3 (ilen m1.1)) (br (inL x3 m1.1) (bnd (z1l.f k (rd tTxn m1.1 (natOf x3))) fun r0=>br (bnot r0) (some false) (z0u.l4 k n4 (iadd .i64 x3 1) m1)) none) (some true):=by kernel_rfl
def z0u.e (k:Nat):Entry:=Sg.entry z0u.sg fun x=>z0u.f k x
theorem z0u.ok (k:Nat):CallOK Tryz.prog 37 (z0u.e k):=fn_ok (c:=z0u.cx k) (code:=z0u.body) (TT.of tt_ok pp_ok mm_ok) (fns_ok ⟨(z1l.ok k),trivial⟩) mixed Tryz.func37 (by kernel_rfl) (by kernel_rfl) (by kernel_rfl) (by kernel_rfl) (by kernel_rfl) (by kernel_rfl) (fun x=>by kernel_rfl)
def z19.body:Go.Code:=Tryz.f46.body.getD .skip
def z19.rs:List Go.ResultVar:=Tryz.f46.results.toList
def z19.regs:List (Nat × RInfo):=[(0,⟨[1],[1],[0],[],0,[],[],[],[],[]⟩),(1,ri [1,28] [1]),(2,ri [2] []),(3,ri [1,3] [1]),(4,⟨[1,3,33],[1],[],[],0,[1,3],[1],[],[],[]⟩),(6,ri [1,3,42] [1]),(7,ri [2] []),(5,ri [1,3] [1]),(8,ri [1,4] [1]),(9,⟨[1,4,44],[1],[],[],0,[1,4],[1],[],[],[]⟩),(11,ri [1,4,52] [1]),(12,ri [2] []),(10,ri [1,4] [1]),(13,ri [2] [])]
def z19.cx (k:Nat):Cx:=⟨tt,pp,[(47,(z1l.e k))],z19.regs,k,mm⟩
@[reducible] def z19.sg:Sg:=⟨[.dat tState],[],.dat .bool,[]⟩
def z19.f (k:Nat) (a0:Ty.D tState):Option (Sg.Out z19.sg):=Sg.fn z19.sg (z19.cx k) z19.body z19.rs a0
def z19.l4 (k:Nat) (n:Nat) (x3:Ty.D (.int .i64)) (m1:Ty.D tState):Option (Sg.Out z19.sg):=loopAt (z19.cx k) z19.body [1,1,0,1,0] 4 [1,3] [1] [] (Sg.K z19.sg (z19.cx k) z19.rs) n ⟨[(1,.ref 1 []),(3,.dat (.int .i64) x3)],[(1,.dat tState m1)]⟩
def z19.l9 (k:Nat) (n:Nat) (x4:Ty.D (.int .i64)) (m1:Ty.D tState):Option (Sg.Out z19.sg):=loopAt (z19.cx k) z19.body [1,1,1,0,1,0] 9 [1,4] [1] [] (Sg.K z19.sg (z19.cx k) z19.rs) n ⟨[(1,.ref 1 []),(4,.dat (.int .i64) x4)],[(1,.dat tState m1)]⟩
theorem z19.f_eq (k:Nat) (a0:Ty.D tState):z19.f k a0=br (ilt 20 (ilen a0.1)) (some false) (br (ilt 100 (ilen a0.2.1)) (some false) (br (ilt 100 (ilen a0.2.2.1.2)) (some false) (br (ilt 100 (ilen a0.2.2.2.1.2)) (some false) (z19.l4 k k 0 a0)))):=by kernel_rfl
theorem z19.l4_eq (k:Nat) (n4:Nat) (x3:Ty.D (.int .i64)) (m1:Ty.D tState):z19.l4 k (n4+1) x3 m1=br (ilt x3 (ilen m1.1)) (br (inL x3 m1.1) (bnd (z1l.f k (rd tTxn m1.1 (natOf x3))) fun r0=>br (bnot r0) (some false) (z19.l4 k n4 (iadd .i64 x3 1) m1)) none) (z19.l9 k k 0 m1):=by kernel_rfl
theorem z19.l9_eq (k:Nat) (n9:Nat) (x4:Ty.D (.int .i64)) (m1:Ty.D tState):z19.l9 k (n9+1) x4 m1=br (ilt x4 8) (br (inB x4 8) (br (ilt 40 (ilen (rd (.slc tDot) m1.2.2.2.2 (natOf x4)))) (some false) (z19.l9 k n9 (iadd .i64 x4 1) m1)) none) (some true):=by kernel_rfl
def z19.e (k:Nat):Entry:=Sg.entry z19.sg fun x=>z19.f k x
theorem z19.ok (k:Nat):CallOK Tryz.prog 46 (z19.e k):=fn_ok (c:=z19.cx k) (code:=z19.body) (TT.of tt_ok pp_ok mm_ok) (fns_ok ⟨(z1l.ok k),trivial⟩) mixed Tryz.func46 (by kernel_rfl) (by kernel_rfl) (by kernel_rfl) (by kernel_rfl) (by kernel_rfl) (by kernel_rfl) (fun x=>by kernel_rfl)
def z0W.body:Go.Code:=Tryz.f10.body.getD .skip
def z0W.rs:List Go.ResultVar:=Tryz.f10.results.toList
def z0W.regs:List (Nat × RInfo):=[(0,⟨[1],[1],[0],[],0,[],[],[],[],[]⟩),(1,ri [2] [5,9,14])]
def z0W.cx (k:Nat):Cx:=⟨tt,pp,[(47,(z1l.e k)),(37,(z0u.e k)),(46,(z19.e k))],z0W.regs,k,mm⟩
@[reducible] def z0W.sg:Sg:=⟨[.dat tRecord],[],.dat .bool,[]⟩
def z0W.f (k:Nat) (a0:Ty.D tRecord):Option (Sg.Out z0W.sg):=Sg.fn z0W.sg (z0W.cx k) z0W.body z0W.rs a0
theorem z0W.f_eq (k:Nat) (a0:Ty.D tRecord):z0W.f k a0=bnd (z1l.f k a0.2.1) fun r0=>br r0 (bnd (z0u.f k a0.2.2.2.2.2.1) fun r1=>br r1 (bnd (z19.f k a0.2.2.2.2.2.2) fun r2=>some r2) (some false)) (some false):=by kernel_rfl
def z0W.e (k:Nat):Entry:=Sg.entry z0W.sg fun x=>z0W.f k x
theorem z0W.ok (k:Nat):CallOK Tryz.prog 10 (z0W.e k):=fn_ok (c:=z0W.cx k) (code:=z0W.body) (TT.of tt_ok pp_ok mm_ok) (fns_ok ⟨(z1l.ok k),(z0u.ok k),(z19.ok k),trivial⟩) mixed Tryz.func10 (by kernel_rfl) (by kernel_rfl) (by kernel_rfl) (by kernel_rfl) (by kernel_rfl) (by kernel_rfl) (fun x=>by kernel_rfl)
def z2z.body:Go.Code:=Tryz.f62.body.getD .skip
def z2z.rs:List Go.ResultVar:=Tryz.f62.results.toList
def z2z.regs:List (Nat × RInfo):=[(0,ri [1] [1]),(1,rq [2] [] 7)]
def z2z.cx (k:Nat):Cx:=⟨tt,pp,[(60,packIntE)],z2z.regs,k,mm⟩
@[reducible] def z2z.sg:Sg:=⟨[.dat tDot],[],.dat .str,[]⟩
def z2z.f (k:Nat) (a0:Ty.D tDot):Option (Sg.Out z2z.sg):=Sg.fn z2z.sg (z2z.cx k) z2z.body z2z.rs a0
theorem z2z.f_eq (k:Nat) (a0:Ty.D tDot):z2z.f k a0=bnd (packI a0.1) fun r0=>bnd (packI a0.2) fun r1=>br (roomS r0 r1) (some (app r0 r1)) none:=by kernel_rfl
def z2z.e (k:Nat):Entry:=Sg.entry z2z.sg fun x=>z2z.f k x
theorem z2z.ok (k:Nat):CallOK Tryz.prog 62 (z2z.e k):=fn_ok (c:=z2z.cx k) (code:=z2z.body) (TT.of tt_ok pp_ok mm_ok) (fns_ok ⟨packint_ok,trivial⟩) mixed Tryz.func62 (by kernel_rfl) (by kernel_rfl) (by kernel_rfl) (by kernel_rfl) (by kernel_rfl) (by kernel_rfl) (fun x=>by kernel_rfl)
def z2a.body:Go.Code:=Tryz.f158.body.getD .skip
def z2a.rs:List Go.ResultVar:=Tryz.f158.results.toList
def z2a.regs:List (Nat × RInfo):=[(0,ri [0] []),(1,ri [2] [])]
def z2a.cx (k:Nat):Cx:=⟨tt,pp,[(60,packIntE)],z2a.regs,k,mm⟩
@[reducible] def z2a.sg:Sg:=⟨[.dat .str],[],.dat .str,[]⟩
def z2a.f (k:Nat) (a0:Ty.D .str):Option (Sg.Out z2a.sg):=Sg.fn z2a.sg (z2a.cx k) z2a.body z2a.rs a0
theorem z2a.f_eq (k:Nat) (a0:Ty.D .str):z2a.f k a0=bnd (packI (ilen a0)) fun r0=>br (roomS r0 a0) (some (app r0 a0)) none:=by kernel_rfl
def z2a.e (k:Nat):Entry:=Sg.entry z2a.sg fun x=>z2a.f k x
theorem z2a.ok (k:Nat):CallOK Tryz.prog 158 (z2a.e k):=fn_ok (c:=z2a.cx k) (code:=z2a.body) (TT.of tt_ok pp_ok mm_ok) (fns_ok ⟨packint_ok,trivial⟩) mixed Tryz.func158 (by kernel_rfl) (by kernel_rfl) (by kernel_rfl) (by kernel_rfl) (by kernel_rfl) (by kernel_rfl) (fun x=>by kernel_rfl)
def z2h.body:Go.Code:=Tryz.f194.body.getD .skip
def z2h.rs:List Go.ResultVar:=Tryz.f194.results.toList
def z2h.regs:List (Nat × RInfo):=[(0,ri [0] []),(1,ri [0,3] [8]),(2,ri [3,9,10,11] [8]),(3,⟨[3,9,10,11,12],[8],[],[],0,[3,9,10,11],[8],[],[],[]⟩),(4,ri [3,5,9,10,11] [8]),(5,ri [3,9,10,11] [8]),(6,ri [3,9,10,11] [8]),(7,ri [2] [8])]
def z2h.cx (k:Nat):Cx:=⟨tt,pp,[(60,packIntE),(158,(z2a.e k))],z2h.regs,k,mm⟩
@[reducible] def z2h.sg:Sg:=⟨[.dat (.slc .str)],[],.dat .str,[]⟩
def z2h.f (k:Nat) (a0:Ty.D (.slc .str)):Option (Sg.Out z2h.sg):=Sg.fn z2h.sg (z2h.cx k) z2h.body z2h.rs a0
def z2h.l3 (k:Nat) (n:Nat) (x3:Ty.D .str) (x9:Ty.D (.slc .str)) (x10:Ty.D (.int .i64)) (x11:Ty.D (.int .i64)):Option (Sg.Out z2h.sg):=loopAt (z2h.cx k) z2h.body [1,1,0,1,0] 3 [3,9,10,11] [8] [] (Sg.K z2h.sg (z2h.cx k) z2h.rs) n ⟨[(3,.dat .str x3),(9,.dat (.slc .str) x9),(10,.dat (.int .i64) x10),(11,.dat (.int .i64) x11)],[]⟩
theorem z2h.f_eq (k:Nat) (a0:Ty.D (.slc .str)):z2h.f k a0=bnd (packI (ilen a0)) fun r0=>z2h.l3 k k r0 a0 (ilen a0) 0:=by kernel_rfl
theorem z2h.l3_eq (k:Nat) (n3:Nat) (x3:Ty.D .str) (x9:Ty.D (.slc .str)) (x10:Ty.D (.int .i64)) (x11:Ty.D (.int .i64)):z2h.l3 k (n3+1) x3 x9 x10 x11=br (ilt x11 x10) (br (inL x11 x9) (bnd (z2a.f k (rd .str x9 (natOf x11))) fun r0=>br (roomS x3 r0) (z2h.l3 k n3 (app x3 r0) x9 x10 (iadd .i64 x11 1)) none) none) (some x3):=by kernel_rfl
def z2h.e (k:Nat):Entry:=Sg.entry z2h.sg fun x=>z2h.f k x
theorem z2h.ok (k:Nat):CallOK Tryz.prog 194 (z2h.e k):=fn_ok (c:=z2h.cx k) (code:=z2h.body) (TT.of tt_ok pp_ok mm_ok) (fns_ok ⟨packint_ok,(z2a.ok k),trivial⟩) mixed Tryz.func194 (by kernel_rfl) (by kernel_rfl) (by kernel_rfl) (by kernel_rfl) (by kernel_rfl) (by kernel_rfl) (fun x=>by kernel_rfl)
def z1N.body:Go.Code:=Tryz.f195.body.getD .skip
def z1N.rs:List Go.ResultVar:=Tryz.f195.results.toList
def z1N.regs:List (Nat × RInfo):=[(0,ri [0] []),(1,ri [0,4] []),(2,ri [2] []),(3,ri [2] [])]
def z1N.cx (k:Nat):Cx:=⟨tt,pp,[],z1N.regs,k,mm⟩
@[reducible] def z1N.sg:Sg:=⟨[.dat (.int .i64)],[],.dat (.int .i64),[]⟩
def z1N.f (k:Nat) (a0:Ty.D (.int .i64)):Option (Sg.Out z1N.sg):=Sg.fn z1N.sg (z1N.cx k) z1N.body z1N.rs a0
theorem z1N.f_eq (k:Nat) (a0:Ty.D (.int .i64)):z1N.f k a0=br (ilt a0 0) (some (isub .i64 (imul .i64 (-2) a0) 1)) (some (imul .i64 2 a0)):=by kernel_rfl
def z1N.e (k:Nat):Entry:=Sg.entry z1N.sg fun x=>z1N.f k x
theorem z1N.ok (k:Nat):CallOK Tryz.prog 195 (z1N.e k):=fn_ok (c:=z1N.cx k) (code:=z1N.body) (TT.of tt_ok pp_ok mm_ok) (fns_ok trivial) mixed Tryz.func195 (by kernel_rfl) (by kernel_rfl) (by kernel_rfl) (by kernel_rfl) (by kernel_rfl) (by kernel_rfl) (fun x=>by kernel_rfl)
def z26.body:Go.Code:=Tryz.f196.body.getD .skip
def z26.rs:List Go.ResultVar:=Tryz.f196.results.toList
def z26.regs:List (Nat × RInfo):=[(0,ri [1] [1]),(1,ri [1,5] [1]),(2,rq [2] [] 7),(3,rq [2] [] 8)]
def z26.cx (k:Nat):Cx:=⟨tt,pp,[(60,packIntE),(158,(z2a.e k)),(195,(z1N.e k))],z26.regs,k,mm⟩
@[reducible] def z26.sg:Sg:=⟨[.dat tValue],[],.dat .str,[]⟩
def z26.f (k:Nat) (a0:Ty.D tValue):Option (Sg.Out z26.sg):=Sg.fn z26.sg (z26.cx k) z26.body z26.rs a0
theorem z26.f_eq (k:Nat) (a0:Ty.D tValue):z26.f k a0=br (ieq a0.1 2) (bnd (packI a0.1) fun r0=>bnd (z2a.f k a0.2.2) fun r1=>br (roomS r0 r1) (some (app r0 r1)) none) (bnd (packI a0.1) fun r2=>bnd (z1N.f k a0.2.1) fun r3=>bnd (packI r3) fun r4=>br (roomS r2 r4) (some (app r2 r4)) none):=by kernel_rfl
def z26.e (k:Nat):Entry:=Sg.entry z26.sg fun x=>z26.f k x
theorem z26.ok (k:Nat):CallOK Tryz.prog 196 (z26.e k):=fn_ok (c:=z26.cx k) (code:=z26.body) (TT.of tt_ok pp_ok mm_ok) (fns_ok ⟨packint_ok,(z2a.ok k),(z1N.ok k),trivial⟩) mixed Tryz.func196 (by kernel_rfl) (by kernel_rfl) (by kernel_rfl) (by kernel_rfl) (by kernel_rfl) (by kernel_rfl) (fun x=>by kernel_rfl)
def z2O.body:Go.Code:=Tryz.f144.body.getD .skip
def z2O.rs:List Go.ResultVar:=Tryz.f144.results.toList
def z2O.regs:List (Nat × RInfo):=[(0,⟨[1],[1],[0],[],0,[],[],[],[],[]⟩),(1,ri [1,3] [1,8]),(2,ri [1,3,10] [1,8,10]),(3,ri [2] [8]),(4,ri [1,3] [1,8]),(5,ri [1,3,18] [1,8]),(6,ri [1,3,18,19] [1,8]),(7,ri [2] [8]),(8,ri [1,3,18,27] [1,8]),(9,ri [1,3,18,27] [1,8]),(10,ri [1,3,27] [1,8]),(11,ri [1,3] [1,8]),(12,ri [1,3,38] [1,8]),(13,ri [2] [8]),(14,ri [1,3] [1,8]),(15,ri [3,47,48,49] [8]),(16,⟨[3,47,48,49,50],[8],[],[],0,[3,47,48,49],[8],[],[],[]⟩),(17,ri [3,5,47,48,49] [5,8]),(18,rq [3,47,48,49] [8] 9),(19,ri [3,47,48,49] [8]),(20,ri [2] [8])]
def z2O.cx (k:Nat):Cx:=⟨tt,pp,[(60,packIntE),(120,(z2Q.e k)),(194,(z2h.e k)),(195,(z1N.e k)),(196,(z26.e k)),(62,(z2z.e k))],z2O.regs,k,mm⟩
@[reducible] def z2O.sg:Sg:=⟨[.dat tOp],[],.dat .str,[]⟩
def z2O.f (k:Nat) (a0:Ty.D tOp):Option (Sg.Out z2O.sg):=Sg.fn z2O.sg (z2O.cx k) z2O.body z2O.rs a0
def z2O.l16 (k:Nat) (n:Nat) (x3:Ty.D .str) (x47:Ty.D (.slc tUndo)) (x48:Ty.D (.int .i64)) (x49:Ty.D (.int .i64)):Option (Sg.Out z2O.sg):=loopAt (z2O.cx k) z2O.body [1,1,1,1,1,1,1,0,1,0] 16 [3,47,48,49] [8] [] (Sg.K z2O.sg (z2O.cx k) z2O.rs) n ⟨[(3,.dat .str x3),(47,.dat (.slc tUndo) x47),(48,.dat (.int .i64) x48),(49,.dat (.int .i64) x49)],[]⟩
theorem z2O.f_eq (k:Nat) (a0:Ty.D tOp):z2O.f k a0=bnd (packI a0.1) fun r0=>bnd (z2Q.f k a0) fun r1=>br r1 (some r0) (bnd (z2h.f k a0.2.1) fun r2=>br (roomS r0 r2) (br (ieq a0.1 3) (bnd (z1N.f k a0.2.2.2.1) fun r3=>bnd (packI r3) fun r4=>br (roomS (app r0 r2) r4) (some (app (app r0 r2) r4)) none) (br (ieq a0.1 1) (br (ieq a0.1 1) (bnd (z26.f k a0.2.2.1) fun r5=>br (roomS (app r0 r2) r5) (br (ieq a0.1 2) (some (app (app r0 r2) r5)) (bnd (packI (ilen a0.2.2.2.2)) fun r6=>br (roomS (app (app r0 r2) r5) r6) (z2O.l16 k k (app (app (app r0 r2) r5) r6) a0.2.2.2.2 (ilen a0.2.2.2.2) 0) none)) none) (br (ieq a0.1 2) (some (app r0 r2)) (bnd (packI (ilen a0.2.2.2.2)) fun r7=>br (roomS (app r0 r2) r7) (z2O.l16 k k (app (app r0 r2) r7) a0.2.2.2.2 (ilen a0.2.2.2.2) 0) none))) (br (ieq a0.1 2) (br (ieq a0.1 2) (bnd (z26.f k a0.2.2.1) fun r8=>br (roomS (app r0 r2) r8) (br (ieq a0.1 2) (some (app (app r0 r2) r8)) (bnd (packI (ilen a0.2.2.2.2)) fun r9=>br (roomS (app (app r0 r2) r8) r9) (z2O.l16 k k (app (app (app r0 r2) r8) r9) a0.2.2.2.2 (ilen a0.2.2.2.2) 0) none)) none) (br (ieq a0.1 2) (some (app r0 r2)) (bnd (packI (ilen a0.2.2.2.2)) fun r10=>br (roomS (app r0 r2) r10) (z2O.l16 k k (app (app r0 r2) r10) a0.2.2.2.2 (ilen a0.2.2.2.2) 0) none))) (br (ieq a0.1 4) (bnd (z26.f k a0.2.2.1) fun r11=>br (roomS (app r0 r2) r11) (br (ieq a0.1 2) (some (app (app r0 r2) r11)) (bnd (packI (ilen a0.2.2.2.2)) fun r12=>br (roomS (app (app r0 r2) r11) r12) (z2O.l16 k k (app (app (app r0 r2) r11) r12) a0.2.2.2.2 (ilen a0.2.2.2.2) 0) none)) none) (br (ieq a0.1 2) (some (app r0 r2)) (bnd (packI (ilen a0.2.2.2.2)) fun r13=>br (roomS (app r0 r2) r13) (z2O.l16 k k (app (app r0 r2) r13) a0.2.2.2.2 (ilen a0.2.2.2.2) 0) none)))))) none):=by kernel_rfl
theorem z2O.l16_eq (k:Nat) (n16:Nat) (x3:Ty.D .str) (x47:Ty.D (.slc tUndo)) (x48:Ty.D (.int .i64)) (x49:Ty.D (.int .i64)):z2O.l16 k (n16+1) x3 x47 x48 x49=br (ilt x49 x48) (br (inL x49 x47) (bnd (z2z.f k ((rd tUndo x47 (natOf x49)).1)) fun r0=>bnd (packI ((rd tUndo x47 (natOf x49)).2)) fun r1=>br (roomS r0 r1) (br (roomS x3 (app r0 r1)) (z2O.l16 k n16 (app x3 (app r0 r1)) x47 x48 (iadd .i64 x49 1)) none) none) none) (some x3):=by kernel_rfl
def z2O.e (k:Nat):Entry:=Sg.entry z2O.sg fun x=>z2O.f k x
theorem z2O.ok (k:Nat):CallOK Tryz.prog 144 (z2O.e k):=fn_ok (c:=z2O.cx k) (code:=z2O.body) (TT.of tt_ok pp_ok mm_ok) (fns_ok ⟨packint_ok,(z2Q.ok k),(z2h.ok k),(z1N.ok k),(z26.ok k),(z2z.ok k),trivial⟩) mixed Tryz.func144 (by kernel_rfl) (by kernel_rfl) (by kernel_rfl) (by kernel_rfl) (by kernel_rfl) (by kernel_rfl) (fun x=>by kernel_rfl)
def z2D.body:Go.Code:=Tryz.f61.body.getD .skip
def z2D.rs:List Go.ResultVar:=Tryz.f61.results.toList
def z2D.regs:List (Nat × RInfo):=[(0,⟨[1],[1],[0],[],0,[],[],[],[],[]⟩),(1,ri [1,3] [1]),(2,ri [1,3,8] [1]),(3,ri [1,3] [1]),(4,rq [1,4] [1] 19),(5,ri [4,29,30,31] []),(6,⟨[4,29,30,31,32],[],[],[],0,[4,29,30,31],[],[],[],[]⟩),(7,⟨[4,6,29,30,31],[6],[3],[],0,[],[],[],[],[]⟩),(8,ri [4,29,30,31] []),(9,ri [4,29,30,31] []),(10,ri [2] [])]
def z2D.cx (k:Nat):Cx:=⟨tt,pp,[(62,(z2z.e k)),(60,packIntE),(144,(z2O.e k))],z2D.regs,k,mm⟩
@[reducible] def z2D.sg:Sg:=⟨[.dat tTxn],[],.dat .str,[]⟩
def z2D.f (k:Nat) (a0:Ty.D tTxn):Option (Sg.Out z2D.sg):=Sg.fn z2D.sg (z2D.cx k) z2D.body z2D.rs a0
def z2D.l6 (k:Nat) (n:Nat) (x4:Ty.D .str) (x29:Ty.D (.slc tOp)) (x30:Ty.D (.int .i64)) (x31:Ty.D (.int .i64)):Option (Sg.Out z2D.sg):=loopAt (z2D.cx k) z2D.body [1,1,1,1,0,1,0] 6 [4,29,30,31] [] [] (Sg.K z2D.sg (z2D.cx k) z2D.rs) n ⟨[(4,.dat .str x4),(29,.dat (.slc tOp) x29),(30,.dat (.int .i64) x30),(31,.dat (.int .i64) x31)],[]⟩
theorem z2D.f_eq (k:Nat) (a0:Ty.D tTxn):z2D.f k a0=br a0.2.2.2.1 (bnd (z2z.f k a0.1) fun r0=>bnd (packI a0.2.1) fun r1=>br (roomS r0 r1) (bnd (packI a0.2.2.1) fun r2=>br (roomS (app r0 r1) r2) (bnd (packI 1) fun r3=>br (roomS (app (app r0 r1) r2) r3) (bnd (packI (ilen a0.2.2.2.2)) fun r4=>br (roomS (app (app (app r0 r1) r2) r3) r4) (z2D.l6 k k (app (app (app (app r0 r1) r2) r3) r4) a0.2.2.2.2 (ilen a0.2.2.2.2) 0) none) none) none) none) (bnd (z2z.f k a0.1) fun r5=>bnd (packI a0.2.1) fun r6=>br (roomS r5 r6) (bnd (packI a0.2.2.1) fun r7=>br (roomS (app r5 r6) r7) (bnd (packI 0) fun r8=>br (roomS (app (app r5 r6) r7) r8) (bnd (packI (ilen a0.2.2.2.2)) fun r9=>br (roomS (app (app (app r5 r6) r7) r8) r9) (z2D.l6 k k (app (app (app (app r5 r6) r7) r8) r9) a0.2.2.2.2 (ilen a0.2.2.2.2) 0) none) none) none) none):=by kernel_rfl
theorem z2D.l6_eq (k:Nat) (n6:Nat) (x4:Ty.D .str) (x29:Ty.D (.slc tOp)) (x30:Ty.D (.int .i64)) (x31:Ty.D (.int .i64)):z2D.l6 k (n6+1) x4 x29 x30 x31=br (ilt x31 x30) (br (inL x31 x29) (bnd (z2O.f k (rd tOp x29 (natOf x31))) fun r0=>br (roomS x4 r0) (z2D.l6 k n6 (app x4 r0) x29 x30 (iadd .i64 x31 1)) none) none) (some x4):=by kernel_rfl
def z2D.e (k:Nat):Entry:=Sg.entry z2D.sg fun x=>z2D.f k x
theorem z2D.ok (k:Nat):CallOK Tryz.prog 61 (z2D.e k):=fn_ok (c:=z2D.cx k) (code:=z2D.body) (TT.of tt_ok pp_ok mm_ok) (fns_ok ⟨(z2z.ok k),packint_ok,(z2O.ok k),trivial⟩) mixed Tryz.func61 (by kernel_rfl) (by kernel_rfl) (by kernel_rfl) (by kernel_rfl) (by kernel_rfl) (by kernel_rfl) (fun x=>by kernel_rfl)
def z2F.body:Go.Code:=Tryz.f99.body.getD .skip
def z2F.rs:List Go.ResultVar:=Tryz.f99.results.toList
def z2F.regs:List (Nat × RInfo):=[(0,ri [0] []),(1,ri [0,3] [8]),(2,ri [3,9,10,11] [8]),(3,⟨[3,9,10,11,12],[8],[],[],0,[3,9,10,11],[8],[],[],[]⟩),(4,⟨[3,5,9,10,11],[5,8],[3],[],0,[],[],[],[],[]⟩),(5,ri [3,9,10,11] [8]),(6,ri [3,9,10,11] [8]),(7,ri [2] [8])]
def z2F.cx (k:Nat):Cx:=⟨tt,pp,[(60,packIntE),(61,(z2D.e k))],z2F.regs,k,mm⟩
@[reducible] def z2F.sg:Sg:=⟨[.dat (.slc tTxn)],[],.dat .str,[]⟩
def z2F.f (k:Nat) (a0:Ty.D (.slc tTxn)):Option (Sg.Out z2F.sg):=Sg.fn z2F.sg (z2F.cx k) z2F.body z2F.rs a0
def z2F.l3 (k:Nat) (n:Nat) (x3:Ty.D .str) (x9:Ty.D (.slc tTxn)) (x10:Ty.D (.int .i64)) (x11:Ty.D (.int .i64)):Option (Sg.Out z2F.sg):=loopAt (z2F.cx k) z2F.body [1,1,0,1,0] 3 [3,9,10,11] [8] [] (Sg.K z2F.sg (z2F.cx k) z2F.rs) n ⟨[(3,.dat .str x3),(9,.dat (.slc tTxn) x9),(10,.dat (.int .i64) x10),(11,.dat (.int .i64) x11)],[]⟩
theorem z2F.f_eq (k:Nat) (a0:Ty.D (.slc tTxn)):z2F.f k a0=bnd (packI (ilen a0)) fun r0=>z2F.l3 k k r0 a0 (ilen a0) 0:=by kernel_rfl
theorem z2F.l3_eq (k:Nat) (n3:Nat) (x3:Ty.D .str) (x9:Ty.D (.slc tTxn)) (x10:Ty.D (.int .i64)) (x11:Ty.D (.int .i64)):z2F.l3 k (n3+1) x3 x9 x10 x11=br (ilt x11 x10) (br (inL x11 x9) (bnd (z2D.f k (rd tTxn x9 (natOf x11))) fun r0=>br (roomS x3 r0) (z2F.l3 k n3 (app x3 r0) x9 x10 (iadd .i64 x11 1)) none) none) (some x3):=by kernel_rfl
def z2F.e (k:Nat):Entry:=Sg.entry z2F.sg fun x=>z2F.f k x
theorem z2F.ok (k:Nat):CallOK Tryz.prog 99 (z2F.e k):=fn_ok (c:=z2F.cx k) (code:=z2F.body) (TT.of tt_ok pp_ok mm_ok) (fns_ok ⟨packint_ok,(z2D.ok k),trivial⟩) mixed Tryz.func99 (by kernel_rfl) (by kernel_rfl) (by kernel_rfl) (by kernel_rfl) (by kernel_rfl) (by kernel_rfl) (fun x=>by kernel_rfl)
def z1G.body:Go.Code:=Tryz.f100.body.getD .skip
def z1G.rs:List Go.ResultVar:=Tryz.f100.results.toList
def z1G.regs:List (Nat × RInfo):=[(0,ri [0] []),(1,ri [0,3] [8]),(2,ri [3,9,10,11] [8]),(3,⟨[3,9,10,11,12],[8],[],[],0,[3,9,10,11],[8],[],[],[]⟩),(4,ri [3,5,9,10,11] [5,8]),(5,rq [3,9,10,11] [8] 9),(6,ri [3,9,10,11] [8]),(7,ri [2] [8])]
def z1G.cx (k:Nat):Cx:=⟨tt,pp,[(60,packIntE),(62,(z2z.e k))],z1G.regs,k,mm⟩
@[reducible] def z1G.sg:Sg:=⟨[.dat (.slc tUndo)],[],.dat .str,[]⟩
def z1G.f (k:Nat) (a0:Ty.D (.slc tUndo)):Option (Sg.Out z1G.sg):=Sg.fn z1G.sg (z1G.cx k) z1G.body z1G.rs a0
def z1G.l3 (k:Nat) (n:Nat) (x3:Ty.D .str) (x9:Ty.D (.slc tUndo)) (x10:Ty.D (.int .i64)) (x11:Ty.D (.int .i64)):Option (Sg.Out z1G.sg):=loopAt (z1G.cx k) z1G.body [1,1,0,1,0] 3 [3,9,10,11] [8] [] (Sg.K z1G.sg (z1G.cx k) z1G.rs) n ⟨[(3,.dat .str x3),(9,.dat (.slc tUndo) x9),(10,.dat (.int .i64) x10),(11,.dat (.int .i64) x11)],[]⟩
theorem z1G.f_eq (k:Nat) (a0:Ty.D (.slc tUndo)):z1G.f k a0=bnd (packI (ilen a0)) fun r0=>z1G.l3 k k r0 a0 (ilen a0) 0:=by kernel_rfl
theorem z1G.l3_eq (k:Nat) (n3:Nat) (x3:Ty.D .str) (x9:Ty.D (.slc tUndo)) (x10:Ty.D (.int .i64)) (x11:Ty.D (.int .i64)):z1G.l3 k (n3+1) x3 x9 x10 x11=br (ilt x11 x10) (br (inL x11 x9) (bnd (z2z.f k ((rd tUndo x9 (natOf x11)).1)) fun r0=>bnd (packI ((rd tUndo x9 (natOf x11)).2)) fun r1=>br (roomS r0 r1) (br (roomS x3 (app r0 r1)) (z1G.l3 k n3 (app x3 (app r0 r1)) x9 x10 (iadd .i64 x11 1)) none) none) none) (some x3):=by kernel_rfl
def z1G.e (k:Nat):Entry:=Sg.entry z1G.sg fun x=>z1G.f k x
theorem z1G.ok (k:Nat):CallOK Tryz.prog 100 (z1G.e k):=fn_ok (c:=z1G.cx k) (code:=z1G.body) (TT.of tt_ok pp_ok mm_ok) (fns_ok ⟨packint_ok,(z2z.ok k),trivial⟩) mixed Tryz.func100 (by kernel_rfl) (by kernel_rfl) (by kernel_rfl) (by kernel_rfl) (by kernel_rfl) (by kernel_rfl) (fun x=>by kernel_rfl)
def z2i.body:Go.Code:=Tryz.f101.body.getD .skip
def z2i.rs:List Go.ResultVar:=Tryz.f101.results.toList
def z2i.regs:List (Nat × RInfo):=[(0,ri [0] []),(1,ri [0,3] [8]),(2,ri [3,9,10,11] [8]),(3,⟨[3,9,10,11,12],[8],[],[],0,[3,9,10,11],[8],[],[],[]⟩),(4,ri [3,5,9,10,11] [5,8]),(5,ri [3,9,10,11] [8]),(6,ri [3,9,10,11] [8]),(7,ri [2] [8])]
def z2i.cx (k:Nat):Cx:=⟨tt,pp,[(60,packIntE),(62,(z2z.e k))],z2i.regs,k,mm⟩
@[reducible] def z2i.sg:Sg:=⟨[.dat (.slc tDot)],[],.dat .str,[]⟩
def z2i.f (k:Nat) (a0:Ty.D (.slc tDot)):Option (Sg.Out z2i.sg):=Sg.fn z2i.sg (z2i.cx k) z2i.body z2i.rs a0
def z2i.l3 (k:Nat) (n:Nat) (x3:Ty.D .str) (x9:Ty.D (.slc tDot)) (x10:Ty.D (.int .i64)) (x11:Ty.D (.int .i64)):Option (Sg.Out z2i.sg):=loopAt (z2i.cx k) z2i.body [1,1,0,1,0] 3 [3,9,10,11] [8] [] (Sg.K z2i.sg (z2i.cx k) z2i.rs) n ⟨[(3,.dat .str x3),(9,.dat (.slc tDot) x9),(10,.dat (.int .i64) x10),(11,.dat (.int .i64) x11)],[]⟩
theorem z2i.f_eq (k:Nat) (a0:Ty.D (.slc tDot)):z2i.f k a0=bnd (packI (ilen a0)) fun r0=>z2i.l3 k k r0 a0 (ilen a0) 0:=by kernel_rfl
theorem z2i.l3_eq (k:Nat) (n3:Nat) (x3:Ty.D .str) (x9:Ty.D (.slc tDot)) (x10:Ty.D (.int .i64)) (x11:Ty.D (.int .i64)):z2i.l3 k (n3+1) x3 x9 x10 x11=br (ilt x11 x10) (br (inL x11 x9) (bnd (z2z.f k (rd tDot x9 (natOf x11))) fun r0=>br (roomS x3 r0) (z2i.l3 k n3 (app x3 r0) x9 x10 (iadd .i64 x11 1)) none) none) (some x3):=by kernel_rfl
def z2i.e (k:Nat):Entry:=Sg.entry z2i.sg fun x=>z2i.f k x
theorem z2i.ok (k:Nat):CallOK Tryz.prog 101 (z2i.e k):=fn_ok (c:=z2i.cx k) (code:=z2i.body) (TT.of tt_ok pp_ok mm_ok) (fns_ok ⟨packint_ok,(z2z.ok k),trivial⟩) mixed Tryz.func101 (by kernel_rfl) (by kernel_rfl) (by kernel_rfl) (by kernel_rfl) (by kernel_rfl) (by kernel_rfl) (fun x=>by kernel_rfl)
def z0O.body:Go.Code:=Tryz.f39.body.getD .skip
def z0O.rs:List Go.ResultVar:=Tryz.f39.results.toList
def z0O.regs:List (Nat × RInfo):=[(0,⟨[1],[1],[0],[],0,[],[],[],[],[]⟩),(1,rq [2] [] 11)]
def z0O.cx (k:Nat):Cx:=⟨tt,pp,[(99,(z2F.e k)),(100,(z1G.e k)),(101,(z2i.e k))],z0O.regs,k,mm⟩
@[reducible] def z0O.sg:Sg:=⟨[.dat tDelta],[],.dat .str,[]⟩
def z0O.f (k:Nat) (a0:Ty.D tDelta):Option (Sg.Out z0O.sg):=Sg.fn z0O.sg (z0O.cx k) z0O.body z0O.rs a0
theorem z0O.f_eq (k:Nat) (a0:Ty.D tDelta):z0O.f k a0=bnd (z2F.f k a0.1) fun r0=>bnd (z1G.f k a0.2.1) fun r1=>br (roomS r0 r1) (bnd (z2i.f k a0.2.2) fun r2=>br (roomS (app r0 r1) r2) (some (app (app r0 r1) r2)) none) none:=by kernel_rfl
def z0O.e (k:Nat):Entry:=Sg.entry z0O.sg fun x=>z0O.f k x
theorem z0O.ok (k:Nat):CallOK Tryz.prog 39 (z0O.e k):=fn_ok (c:=z0O.cx k) (code:=z0O.body) (TT.of tt_ok pp_ok mm_ok) (fns_ok ⟨(z2F.ok k),(z1G.ok k),(z2i.ok k),trivial⟩) mixed Tryz.func39 (by kernel_rfl) (by kernel_rfl) (by kernel_rfl) (by kernel_rfl) (by kernel_rfl) (by kernel_rfl) (fun x=>by kernel_rfl)
def z2E.body:Go.Code:=Tryz.f197.body.getD .skip
def z2E.rs:List Go.ResultVar:=Tryz.f197.results.toList
def z2E.regs:List (Nat × RInfo):=[(0,ri [1] [1]),(1,ri [1,3] [1]),(2,ri [3,6,7] []),(3,⟨[3,6,7,8],[],[],[],0,[3,6,7],[],[],[],[]⟩),(4,ri [3,5,6,7] []),(5,ri [3,6,7] []),(6,ri [3,6,7] []),(7,ri [2] [])]
def z2E.cx (k:Nat):Cx:=⟨tt,pp,[(60,packIntE)],z2E.regs,k,mm⟩
@[reducible] def z2E.sg:Sg:=⟨[.dat tVec],[],.dat .str,[]⟩
def z2E.f (k:Nat) (a0:Ty.D tVec):Option (Sg.Out z2E.sg):=Sg.fn z2E.sg (z2E.cx k) z2E.body z2E.rs a0
def z2E.l3 (k:Nat) (n:Nat) (x3:Ty.D .str) (x6:Ty.D tVec) (x7:Ty.D (.int .i64)):Option (Sg.Out z2E.sg):=loopAt (z2E.cx k) z2E.body [1,1,0,1,0] 3 [3,6,7] [] [] (Sg.K z2E.sg (z2E.cx k) z2E.rs) n ⟨[(3,.dat .str x3),(6,.dat tVec x6),(7,.dat (.int .i64) x7)],[]⟩
theorem z2E.f_eq (k:Nat) (a0:Ty.D tVec):z2E.f k a0=z2E.l3 k k [] a0 0:=by kernel_rfl
theorem z2E.l3_eq (k:Nat) (n3:Nat) (x3:Ty.D .str) (x6:Ty.D tVec) (x7:Ty.D (.int .i64)):z2E.l3 k (n3+1) x3 x6 x7=br (ilt x7 16) (br (inB x7 16) (bnd (packI (rd (.int .i64) x6 (natOf x7))) fun r0=>br (roomS x3 r0) (z2E.l3 k n3 (app x3 r0) x6 (iadd .i64 x7 1)) none) none) (some x3):=by kernel_rfl
def z2E.e (k:Nat):Entry:=Sg.entry z2E.sg fun x=>z2E.f k x
theorem z2E.ok (k:Nat):CallOK Tryz.prog 197 (z2E.e k):=fn_ok (c:=z2E.cx k) (code:=z2E.body) (TT.of tt_ok pp_ok mm_ok) (fns_ok ⟨packint_ok,trivial⟩) mixed Tryz.func197 (by kernel_rfl) (by kernel_rfl) (by kernel_rfl) (by kernel_rfl) (by kernel_rfl) (by kernel_rfl) (fun x=>by kernel_rfl)
def z2f.body:Go.Code:=Tryz.f145.body.getD .skip
def z2f.rs:List Go.ResultVar:=Tryz.f145.results.toList
def z2f.regs:List (Nat × RInfo):=[(0,⟨[1],[1],[0],[],0,[],[],[],[],[]⟩),(1,rq [2] [] 7)]
def z2f.cx (k:Nat):Cx:=⟨tt,pp,[(197,(z2E.e k)),(101,(z2i.e k))],z2f.regs,k,mm⟩
@[reducible] def z2f.sg:Sg:=⟨[.dat tDots],[],.dat .str,[]⟩
def z2f.f (k:Nat) (a0:Ty.D tDots):Option (Sg.Out z2f.sg):=Sg.fn z2f.sg (z2f.cx k) z2f.body z2f.rs a0
theorem z2f.f_eq (k:Nat) (a0:Ty.D tDots):z2f.f k a0=bnd (z2E.f k a0.1) fun r0=>bnd (z2i.f k a0.2) fun r1=>br (roomS r0 r1) (some (app r0 r1)) none:=by kernel_rfl
def z2f.e (k:Nat):Entry:=Sg.entry z2f.sg fun x=>z2f.f k x
theorem z2f.ok (k:Nat):CallOK Tryz.prog 145 (z2f.e k):=fn_ok (c:=z2f.cx k) (code:=z2f.body) (TT.of tt_ok pp_ok mm_ok) (fns_ok ⟨(z2E.ok k),(z2i.ok k),trivial⟩) mixed Tryz.func145 (by kernel_rfl) (by kernel_rfl) (by kernel_rfl) (by kernel_rfl) (by kernel_rfl) (by kernel_rfl) (fun x=>by kernel_rfl)
def z1B.body:Go.Code:=Tryz.f63.body.getD .skip
def z1B.rs:List Go.ResultVar:=Tryz.f63.results.toList
def z1B.regs:List (Nat × RInfo):=[(0,⟨[1],[1],[0],[],0,[],[],[],[],[]⟩),(1,rq [1,3] [1] 11),(2,ri [3,18,19] []),(3,⟨[3,18,19,20],[],[],[],0,[3,18,19],[],[],[],[]⟩),(4,⟨[3,5,18,19],[],[1],[],0,[],[],[],[],[]⟩),(5,ri [3,18,19] []),(6,ri [3,18,19] []),(7,ri [2] [])]
def z1B.cx (k:Nat):Cx:=⟨tt,pp,[(99,(z2F.e k)),(100,(z1G.e k)),(145,(z2f.e k)),(101,(z2i.e k))],z1B.regs,k,mm⟩
@[reducible] def z1B.sg:Sg:=⟨[.dat tState],[],.dat .str,[]⟩
def z1B.f (k:Nat) (a0:Ty.D tState):Option (Sg.Out z1B.sg):=Sg.fn z1B.sg (z1B.cx k) z1B.body z1B.rs a0
def z1B.l3 (k:Nat) (n:Nat) (x3:Ty.D .str) (x18:Ty.D (.arr 8 (.slc tDot))) (x19:Ty.D (.int .i64)):Option (Sg.Out z1B.sg):=loopAt (z1B.cx k) z1B.body [1,1,0,1,0] 3 [3,18,19] [] [] (Sg.K z1B.sg (z1B.cx k) z1B.rs) n ⟨[(3,.dat .str x3),(18,.dat (.arr 8 (.slc tDot)) x18),(19,.dat (.int .i64) x19)],[]⟩
theorem z1B.f_eq (k:Nat) (a0:Ty.D tState):z1B.f k a0=bnd (z2F.f k a0.1) fun r0=>bnd (z1G.f k a0.2.1) fun r1=>br (roomS r0 r1) (bnd (z2f.f k a0.2.2.2.1) fun r2=>br (roomS (app r0 r1) r2) (z1B.l3 k k (app (app r0 r1) r2) a0.2.2.2.2 0) none) none:=by kernel_rfl
theorem z1B.l3_eq (k:Nat) (n3:Nat) (x3:Ty.D .str) (x18:Ty.D (.arr 8 (.slc tDot))) (x19:Ty.D (.int .i64)):z1B.l3 k (n3+1) x3 x18 x19=br (ilt x19 8) (br (inB x19 8) (bnd (z2i.f k (rd (.slc tDot) x18 (natOf x19))) fun r0=>br (roomS x3 r0) (z1B.l3 k n3 (app x3 r0) x18 (iadd .i64 x19 1)) none) none) (some x3):=by kernel_rfl
def z1B.e (k:Nat):Entry:=Sg.entry z1B.sg fun x=>z1B.f k x
theorem z1B.ok (k:Nat):CallOK Tryz.prog 63 (z1B.e k):=fn_ok (c:=z1B.cx k) (code:=z1B.body) (TT.of tt_ok pp_ok mm_ok) (fns_ok ⟨(z2F.ok k),(z1G.ok k),(z2f.ok k),(z2i.ok k),trivial⟩) mixed Tryz.func63 (by kernel_rfl) (by kernel_rfl) (by kernel_rfl) (by kernel_rfl) (by kernel_rfl) (by kernel_rfl) (fun x=>by kernel_rfl)
def z17.body:Go.Code:=Tryz.f15.body.getD .skip
def z17.rs:List Go.ResultVar:=Tryz.f15.results.toList
def z17.regs:List (Nat × RInfo):=[(0,⟨[1],[1],[0],[],0,[],[],[],[],[]⟩),(1,ri [1,3] [1,6]),(2,ri [1,3,8] [1,6]),(3,ri [1,3,8,9] [1,6]),(4,ri [2] []),(5,ri [1,3,8,16] [1,6]),(6,rq [2] [] 19),(7,ri [1,3,37] [1,6]),(8,ri [2] []),(9,ri [2] [])]
def z17.cx (k:Nat):Cx:=⟨tt,pp,[(60,packIntE),(61,(z2D.e k)),(62,(z2z.e k)),(39,(z0O.e k)),(63,(z1B.e k))],z17.regs,k,mm⟩
@[reducible] def z17.sg:Sg:=⟨[.dat tRecord],[],.dat .str,[]⟩
def z17.f (k:Nat) (a0:Ty.D tRecord):Option (Sg.Out z17.sg):=Sg.fn z17.sg (z17.cx k) z17.body z17.rs a0
theorem z17.f_eq (k:Nat) (a0:Ty.D tRecord):z17.f k a0=bnd (packI a0.1) fun r0=>br (ieq a0.1 1) (bnd (z2D.f k a0.2.1) fun r1=>br (roomS r0 r1) (some (app r0 r1)) none) (br (ieq a0.1 2) (bnd (packI a0.2.2.1) fun r2=>br (roomS r0 r2) (bnd (z2z.f k a0.2.2.2.1.1) fun r3=>br (roomS (app r0 r2) r3) (bnd (packI a0.2.2.2.1.2) fun r4=>br (roomS (app (app r0 r2) r3) r4) (bnd (packI a0.2.2.2.2.1) fun r5=>br (roomS (app (app (app r0 r2) r3) r4) r5) (some (app (app (app (app r0 r2) r3) r4) r5)) none) none) none) none) (br (ieq a0.1 3) (bnd (z0O.f k a0.2.2.2.2.2.1) fun r6=>br (roomS r0 r6) (some (app r0 r6)) none) (bnd (z1B.f k a0.2.2.2.2.2.2) fun r7=>br (roomS r0 r7) (some (app r0 r7)) none))):=by kernel_rfl
def z17.e (k:Nat):Entry:=Sg.entry z17.sg fun x=>z17.f k x
theorem z17.ok (k:Nat):CallOK Tryz.prog 15 (z17.e k):=fn_ok (c:=z17.cx k) (code:=z17.body) (TT.of tt_ok pp_ok mm_ok) (fns_ok ⟨packint_ok,(z2D.ok k),(z2z.ok k),(z0O.ok k),(z1B.ok k),trivial⟩) mixed Tryz.func15 (by kernel_rfl) (by kernel_rfl) (by kernel_rfl) (by kernel_rfl) (by kernel_rfl) (by kernel_rfl) (fun x=>by kernel_rfl)
def z28.body:Go.Code:=Tryz.f45.body.getD .skip
def z28.rs:List Go.ResultVar:=Tryz.f45.results.toList
def z28.regs:List (Nat × RInfo):=[(0,⟨[1,2],[1,2],[0],[],0,[],[],[],[],[]⟩),(1,⟨[1,2,3],[1,2,3],[4],[],0,[],[],[],[],[]⟩),(2,ri [1,2,3,8] [1,2,3]),(3,ri [1,2,3,8,9] [1,2,3]),(4,⟨[2,3],[2,3],[3],[],0,[],[],[],[],[]⟩),(5,ri [1,2,3,8,14] [1,2,3]),(6,ri [1,2,3] [1,2,3]),(7,ri [1,2,3] [1,2,3]),(8,ri [2,3] [2,3]),(9,ri [1,2,3,8,25] [1,2,3]),(10,⟨[2,3],[2,3],[3],[],0,[],[],[],[],[]⟩),(11,ri [1,2,3,30] [1,2,3]),(12,⟨[2,3],[2,3],[3],[],0,[],[],[],[],[]⟩),(13,⟨[2],[2],[1],[],0,[],[],[],[],[]⟩)]
def z28.cx (k:Nat):Cx:=⟨tt,pp,[],z28.regs,k,mm⟩
@[reducible] def z28.sg:Sg:=⟨[.dat tRecord],[],.dat tRecord,[]⟩
def z28.f (k:Nat) (a0:Ty.D tRecord):Option (Sg.Out z28.sg):=Sg.fn z28.sg (z28.cx k) z28.body z28.rs a0
theorem z28.f_eq (k:Nat) (a0:Ty.D tRecord):z28.f k a0=br (ieq a0.1 1) (some (a0.1,(a0.2.1,(0,(((0,0),0),(0,(([],([],[])),([],([],(((zarr 16 0),[]),(((zarr 16 0),[]),(zarr 8 [])))))))))))) (br (ieq a0.1 2) (some (a0.1,(((0,0),(0,(0,(false,[])))),(a0.2.2.1,(a0.2.2.2.1,(a0.2.2.2.2.1,(([],([],[])),([],([],(((zarr 16 0),[]),(((zarr 16 0),[]),(zarr 8 [])))))))))))) (br (ieq a0.1 3) (some (a0.1,(((0,0),(0,(0,(false,[])))),(0,(((0,0),0),(0,(a0.2.2.2.2.2.1,([],([],(((zarr 16 0),[]),(((zarr 16 0),[]),(zarr 8 [])))))))))))) (br (ieq a0.1 4) (some (a0.1,(((0,0),(0,(0,(false,[])))),(0,(((0,0),0),(0,(([],([],[])),a0.2.2.2.2.2.2))))))) (some (a0.1,(((0,0),(0,(0,(false,[])))),(0,(((0,0),0),(0,(([],([],[])),([],([],(((zarr 16 0),[]),(((zarr 16 0),[]),(zarr 8 []))))))))))))))):=by kernel_rfl
def z28.e (k:Nat):Entry:=Sg.entry z28.sg fun x=>z28.f k x
theorem z28.ok (k:Nat):CallOK Tryz.prog 45 (z28.e k):=fn_ok (c:=z28.cx k) (code:=z28.body) (TT.of tt_ok pp_ok mm_ok) (fns_ok trivial) mixed Tryz.func45 (by kernel_rfl) (by kernel_rfl) (by kernel_rfl) (by kernel_rfl) (by kernel_rfl) (by kernel_rfl) (fun x=>by kernel_rfl)
def z0v.body:Go.Code:=Tryz.f8.body.getD .skip
def z0v.rs:List Go.ResultVar:=Tryz.f8.results.toList
def z0v.regs:List (Nat × RInfo):=[(0,⟨[1],[1],[0],[],0,[],[],[],[],[]⟩),(1,ri [1,12] [1]),(2,ri [2] [13,26,29]),(3,⟨[1,3,4],[1,3,17],[7],[],0,[],[],[],[],[]⟩),(4,rq [2] [13,26,29] 11)]
def z0v.cx (k:Nat):Cx:=⟨tt,pp,[(10,(z0W.e k)),(12,(z11.e k)),(11,(z1q.e k)),(15,(z17.e k)),(42,(z0T.e k)),(45,(z28.e k)),(44,(z1Z.e k))],z0v.regs,k,mm⟩
@[reducible] def z0v.sg:Sg:=⟨[.dat tRecord],[],.dat .bool,[]⟩
def z0v.f (k:Nat) (a0:Ty.D tRecord):Option (Sg.Out z0v.sg):=Sg.fn z0v.sg (z0v.cx k) z0v.body z0v.rs a0
theorem z0v.f_eq (k:Nat) (a0:Ty.D tRecord):z0v.f k a0=bnd (z0W.f k a0) fun r0=>br (bnot r0) (bnd (z1q.f k) fun r1=>some r1) (bnd (z11.f k a0) fun r2=>br (bnot r2) (bnd (z1q.f k) fun r3=>some r3) (bnd (z17.f k a0) fun r4=>bnd (z0T.f k r4) fun r5=>br (ieq r5.2 0) (bnd (z28.f k a0) fun r6=>bnd (z1Z.f k r5.1 r6) fun r7=>br r7 (bnd (z1q.f k) fun r8=>some r8) (some false)) (some false))):=by kernel_rfl
def z0v.e (k:Nat):Entry:=Sg.entry z0v.sg fun x=>z0v.f k x
theorem z0v.ok (k:Nat):CallOK Tryz.prog 8 (z0v.e k):=fn_ok (c:=z0v.cx k) (code:=z0v.body) (TT.of tt_ok pp_ok mm_ok) (fns_ok ⟨(z0W.ok k),(z11.ok k),(z1q.ok k),(z17.ok k),(z0T.ok k),(z28.ok k),(z1Z.ok k),trivial⟩) mixed Tryz.func8 (by kernel_rfl) (by kernel_rfl) (by kernel_rfl) (by kernel_rfl) (by kernel_rfl) (by kernel_rfl) (fun x=>by kernel_rfl)
@[reducible] def ref04_Code.sg:Sg:=⟨[.dat tDot],[],.dat .str,[]⟩
@[reducible] def ref02_Text.sg:Sg:=⟨[.dat .str],[],.dat .str,[]⟩
@[reducible] def ref10_Code.sg:Sg:=⟨[.dat (.slc .str)],[],.dat .str,[]⟩
@[reducible] def ref09_Fold.sg:Sg:=⟨[.dat (.int .i64)],[],.dat (.int .i64),[]⟩
@[reducible] def ref09_Code.sg:Sg:=⟨[.dat tValue],[],.dat .str,[]⟩
@[reducible] def ref11_Code.sg:Sg:=⟨[.dat tOp],[],.dat .str,[]⟩
@[reducible] def ref12_Code.sg:Sg:=⟨[.dat tTxn],[],.dat .str,[]⟩
end Go.Proofs.YtggcagclpkhlhaaGreatDoor
end
noncomputable section
/- The program's functions, as plain equations. -/
namespace Go.Proofs.YtggcagclpkhlhaaGreatDoor
open Pal
set_option maxRecDepth 100000
@[reducible] def ref12_List.sg:Sg:=⟨[.dat (.slc tTxn)],[],.dat .str,[]⟩
@[reducible] def ref08_Code.sg:Sg:=⟨[.dat (.slc tUndo)],[],.dat .str,[]⟩
@[reducible] def ref06_List.sg:Sg:=⟨[.dat (.slc tDot)],[],.dat .str,[]⟩
@[reducible] def ref23_Delta.sg:Sg:=⟨[.dat tDelta],[],.dat .str,[]⟩
@[reducible] def law23_RecordReads.sg:Sg:=⟨[.dat .str,.dat tDelta],[],.dat .bool,[]⟩
@[reducible] def ref22_Good.sg:Sg:=⟨[.dat tState],[],.dat .bool,[]⟩
@[reducible] def ref05_Code.sg:Sg:=⟨[.dat tVec],[],.dat .str,[]⟩
@[reducible] def ref06_Code.sg:Sg:=⟨[.dat tDots],[],.dat .str,[]⟩
@[reducible] def ref22_Code.sg:Sg:=⟨[.dat tState],[],.dat .str,[]⟩
@[reducible] def ref23_Code.sg:Sg:=⟨[.dat tRecord],[],.dat .str,[]⟩
@[reducible] def ref12_Find.sg:Sg:=⟨[.dat (.slc tTxn),.dat tDot],[],.dat (.int .i64),[]⟩
@[reducible] def ref12_Put.sg:Sg:=⟨[.dat (.slc tTxn),.dat tTxn],[],.dat (.slc tTxn),[]⟩
@[reducible] def ref22_Put.sg:Sg:=⟨[.dat tState,.dat tTxn],[],.dat tState,[]⟩
@[reducible] def ref08_Get.sg:Sg:=⟨[.dat (.slc tUndo),.dat tDot],[],.dat (.int .i64),[]⟩
@[reducible] def ref08_Put.sg:Sg:=⟨[.dat (.slc tUndo),.dat tUndo],[],.dat (.slc tUndo),[]⟩
@[reducible] def ref08_Join.sg:Sg:=⟨[.dat (.slc tUndo),.dat (.slc tUndo)],[],.dat (.slc tUndo),[]⟩
@[reducible] def ref22_Raise.sg:Sg:=⟨[.dat tState,.dat (.slc tUndo)],[],.dat tState,[]⟩
@[reducible] def ref22_Seal.sg:Sg:=⟨[.dat tState,.dat (.slc tDot)],[],.dat tState,[]⟩
@[reducible] def ref23_Merged.sg:Sg:=⟨[.dat tState,.dat tDelta],[],.dat tState,[]⟩
@[reducible] def ref23_Done.sg:Sg:=⟨[.dat tState,.dat tRecord],[],.dat tState,[]⟩
@[reducible] def law23_RecordTells.sg:Sg:=⟨[.dat tState,.dat tRecord],[],.dat .bool,[]⟩
end Go.Proofs.YtggcagclpkhlhaaGreatDoor
end
noncomputable section
/- Sets of dots: one way to stand. -/
namespace Go.Proofs.YtggcagclpkhlhaaGreatDoor
open Pal
abbrev Vec:=List Int
abbrev DSet:=Vec × List Dot
def vat (v:Vec) (r:Int):Int:=rd (.int .i64) v (natOf r)
theorem rightD_iff (d:Dot):rightD d=true ↔ 0≤d.1∧d.1<16∧1≤d.2∧d.2≤1048576:=by unfold rightD;rw [decide_eq_true_iff]
theorem vat_get {v:Vec} {i:Nat} (h:i<v.length):vat v (i:Int)=v[i]:=by unfold vat;rw [natOf_nat];exact rd_at' (e:=.int .i64) h
theorem vat_upd {v:Vec} {r:Int} {x:Int} (h0:0≤r) (h1:r<v.length) (q:Int) (hq:0≤q):vat (upd v (natOf r) x) q=if q=r then x else vat v q:=by
 obtain ⟨a,rfl⟩:=Int.eq_ofNat_of_zero_le h0
 obtain ⟨b,rfl⟩:=Int.eq_ofNat_of_zero_le hq
 have ha:a<v.length:=by omega
 show ((v.set a x).getD b (0:Int))=if ((b:Int)=(a:Int)) then x else v.getD b (0:Int)
 rw [List.getD_eq_getElem?_getD,List.getD_eq_getElem?_getD,List.getElem?_set]
 by_cases h:a=b
 ·subst h;rw [if_pos rfl,if_pos ha,if_pos rfl];rfl
 ·rw [if_neg h,if_neg (by omega)]
structure VOk (v:Vec):Prop where
 len:v.length=16
 lo:∀ r,0≤r→r<16→0≤vat v r
 hi:∀ r,0≤r→r<16→vat v r≤1048576
structure Can (s:DSet):Prop where
 vok:VOk s.1
 rt:∀ d ∈ s.2,rightD d=true
 gap:∀ d ∈ s.2,vat s.1 d.1+1<d.2
 srt:s.2.Pairwise (fun a b=>dotLt a b=true)
def Mem (s:DSet) (d:Dot):Prop:=rightD d=true∧(d.2≤vat s.1 d.1∨d ∈ s.2)
theorem vec_ext {v u:Vec} (h1:v.length=16) (h2:u.length=16) (h:∀ r,0≤r→r<16→vat v r=vat u r):v=u:=by
 apply List.ext_getElem (by omega)
 intro i a b
 have:=h (i:Int) (by omega) (by omega)
 rwa [vat_get a,vat_get b] at this
theorem dotLt_asym {a b:Dot} (h:dotLt a b=true):dotLt b a=false:=by
 rw [← Bool.not_eq_true,dotLt_iff];rw [dotLt_iff] at h;omega
theorem srt_nodup {l:List Dot} (h:l.Pairwise (fun a b=>dotLt a b=true)):l.Nodup :=
 h.imp fun {a b} hab e=>by subst e;rw [dotLt_swo.irrefl] at hab;cases hab
theorem srt_unique {l m:List Dot} (h1:l.Pairwise (fun a b=>dotLt a b=true)) (h2:m.Pairwise (fun a b=>dotLt a b=true)) (h:∀ d,d ∈ l ↔ d ∈ m):l=m :=
 sorted_unique dotLt_tot ((List.perm_ext_iff_of_nodup (srt_nodup h1) (srt_nodup h2)).2 h) (h1.imp dotLt_asym) (h2.imp dotLt_asym)
theorem can_le {s t:DSet} (hs:Can s) (ht:Can t) (h:∀ d,Mem s d→Mem t d) (r:Int) (h0:0≤r) (h1:r<16):vat s.1 r≤vat t.1 r:=by
 rcases (by omega:vat t.1 r<vat s.1 r∨vat s.1 r≤vat t.1 r) with hlt | hge
 ·exfalso
  have a:=ht.vok.lo r h0 h1
  have b:=hs.vok.hi r h0 h1
  have hr:rightD (r,vat t.1 r+1)=true:=(rightD_iff _).2 ⟨h0,h1,by show 1≤vat t.1 r+1;omega,by show vat t.1 r+1≤1048576;omega⟩
  have hm:=h (r,vat t.1 r+1) ⟨hr,.inl (by show vat t.1 r+1≤vat s.1 r;omega)⟩
  rcases hm.2 with c | c
  ·have:vat t.1 r+1≤vat t.1 r:=c;omega
  ·have:vat t.1 r+1<vat t.1 r+1:=ht.gap _ c;omega
 ·exact hge
theorem can_unique {s t:DSet} (hs:Can s) (ht:Can t) (h:∀ d,Mem s d ↔ Mem t d):s=t:=by
 have hv:∀ r,0≤r→r<16→vat s.1 r=vat t.1 r:=fun r h0 h1=>Int.le_antisymm (can_le hs ht (fun d=>(h d).1) r h0 h1) (can_le ht hs (fun d=>(h d).2) r h0 h1)
 apply Prod.ext
 ·exact vec_ext hs.vok.len ht.vok.len hv
 ·refine srt_unique hs.srt ht.srt fun d=>⟨fun hd=>?_,fun hd=>?_⟩
  ·have hr:=hs.rt d hd
   obtain ⟨a,b,_,_⟩:=(rightD_iff d).1 hr
   rcases ((h d).1 ⟨hr,.inr hd⟩).2 with c | c
   ·have:=hs.gap d hd;rw [hv d.1 a b] at this;omega
   ·exact c
  ·have hr:=ht.rt d hd
   obtain ⟨a,b,_,_⟩:=(rightD_iff d).1 hr
   rcases ((h d).2 ⟨hr,.inr hd⟩).2 with c | c
   ·have:=ht.gap d hd;rw [← hv d.1 a b] at this;omega
   ·exact c
def put1 (s:DSet) (d:Dot):DSet :=
 if d.2≤vat s.1 d.1 then s else if d.2=vat s.1 d.1+1 then (upd s.1 (natOf d.1) d.2,s.2) else if s.2.getLast? = some d then s else (s.1,s.2++[d])
theorem put1_can {s:DSet} {d:Dot} (hs:Can s) (hd:rightD d=true) (hb:∀ e ∈ s.2,dotLt d e=false):Can (put1 s d)∧(∀ x,Mem (put1 s d) x ↔ Mem s x∨x=d)∧(∀ e ∈ (put1 s d).2,e ∈ s.2∨e=d):=by
 obtain ⟨a,b,c1,c2⟩:=(rightD_iff d).1 hd
 have hlen:=hs.vok.len
 unfold put1
 by_cases h1:d.2≤vat s.1 d.1
 ·rw [if_pos h1]
  exact ⟨hs,fun x=>⟨.inl,fun h=>h.elim id fun e=>by subst e;exact ⟨hd,.inl h1⟩⟩,fun e he=>.inl he⟩
 ·rw [if_neg h1]
  by_cases h2:d.2=vat s.1 d.1+1
  ·rw [if_pos h2]
   have hne:∀ e ∈ s.2,e.1 ≠ d.1:=fun e he hee=>by
    have g:=hs.gap e he
    have:=hb e he
    rw [← Bool.not_eq_true,dotLt_iff] at this
    rw [hee] at g
    omega
   have hv:∀ q,0≤q→q<16→vat (upd s.1 (natOf d.1) d.2) q=if q=d.1 then d.2 else vat s.1 q:=fun q h0 _=>vat_upd a (by omega) q h0
   refine ⟨⟨⟨by simp [upd,hlen],fun r h0 h1=>?_,fun r h0 h1=>?_⟩,hs.rt,fun e he=>?_,hs.srt⟩,fun x=>⟨fun ⟨hr,h⟩=>?_,fun h=>?_⟩,fun e he=>.inl he⟩
   ·rw [hv r h0 h1];split
    ·omega
    ·exact hs.vok.lo r h0 h1
   ·rw [hv r h0 h1];split
    ·omega
    ·exact hs.vok.hi r h0 h1
   ·obtain ⟨q0,q1,_,_⟩:=(rightD_iff e).1 (hs.rt e he)
    show vat (upd s.1 (natOf d.1) d.2) e.1+1<e.2
    rw [hv e.1 q0 q1,if_neg (hne e he)];exact hs.gap e he
   ·obtain ⟨q0,q1,_,_⟩:=(rightD_iff x).1 hr
    rcases h with h | h
    ·have h:x.2≤vat (upd s.1 (natOf d.1) d.2) x.1:=h
     rw [hv x.1 q0 q1] at h
     split at h
     ·rename_i hx
      by_cases he:x.2=d.2
      ·exact .inr (Prod.ext hx he)
      ·exact .inl ⟨hr,.inl (by rw [hx];omega)⟩
     ·exact .inl ⟨hr,.inl h⟩
    ·exact .inl ⟨hr,.inr h⟩
   ·rcases h with ⟨hr,h⟩ | rfl
    ·obtain ⟨q0,q1,_,_⟩:=(rightD_iff x).1 hr
     rcases h with h | h
     ·refine ⟨hr,.inl ?_⟩
      show x.2≤vat (upd s.1 (natOf d.1) d.2) x.1
      rw [hv x.1 q0 q1];split
      ·rename_i hx;rw [hx] at h;omega
      ·exact h
     ·exact ⟨hr,.inr h⟩
    ·refine ⟨hd,.inl ?_⟩
     show x.2≤vat (upd s.1 (natOf x.1) x.2) x.1
     rw [hv x.1 a b,if_pos rfl];exact Int.le_refl _
  ·rw [if_neg h2]
   by_cases h3:s.2.getLast? = some d
   ·rw [if_pos h3]
    have hmem:d ∈ s.2:=List.mem_of_getLast? h3
    exact ⟨hs,fun x=>⟨.inl,fun h=>h.elim id fun e=>by subst e;exact ⟨hd,.inr hmem⟩⟩,fun e he=>.inl he⟩
   ·rw [if_neg h3]
    have hlt:∀ e ∈ s.2,dotLt e d=true:=by
     intro e he
     cases hh:dotLt e d with
     | true=>rfl
     | false =>
      exfalso
      have heq:=dotLt_tot e d hh (hb e he)
      subst heq
      obtain ⟨p,q,hpq⟩:=List.append_of_mem he
      cases q with
      | nil=>rw [hpq] at h3;simp at h3
      | cons z zs =>
       have hsr:=hs.srt
       rw [hpq] at hsr
       have h5:=(List.pairwise_append.1 hsr).2.1
       have h6:=(List.pairwise_cons.1 h5).1 z (by simp)
       have h7:=hb z (by rw [hpq];simp)
       rw [h6] at h7;cases h7
    refine ⟨⟨hs.vok,fun e he=>?_,fun e he=>?_,?_⟩,fun x=>⟨fun ⟨hr,h⟩=>?_,fun h=>?_⟩,fun e he=>?_⟩
    ·rcases List.mem_append.1 he with he | he
     ·exact hs.rt e he
     ·rw [List.mem_singleton.1 he];exact hd
    ·rcases List.mem_append.1 he with he | he
     ·exact hs.gap e he
     ·rw [List.mem_singleton.1 he];show vat s.1 d.1+1<d.2;omega
    ·exact List.pairwise_append.2 ⟨hs.srt,List.pairwise_singleton _ _,fun e he f hf=>by rw [List.mem_singleton.1 hf];exact hlt e he⟩
    ·rcases h with h | h
     ·exact .inl ⟨hr,.inl h⟩
     ·rcases List.mem_append.1 h with h | h
      ·exact .inl ⟨hr,.inr h⟩
      ·exact .inr (List.mem_singleton.1 h)
    ·rcases h with ⟨hr,h⟩ | rfl
     ·exact ⟨hr,h.imp id fun h=>List.mem_append.2 (.inl h)⟩
     ·exact ⟨hd,.inr (List.mem_append.2 (.inr (by simp)))⟩
    ·rcases List.mem_append.1 he with he | he
     ·exact .inl he
     ·exact .inr (List.mem_singleton.1 he)
def mk (v:Vec) (l:List Dot):DSet:=l.foldl put1 (v,[])
theorem mk_can {v : Vec} (hv : VOk v) : ∀ (l : List Dot), (∀ d ∈ l, rightD d = true) → l.Pairwise (fun a b => dotLt b a = false) →
    Can (mk v l) ∧ (∀ x, Mem (mk v l) x ↔ rightD x = true ∧ (x.2 ≤ vat v x.1 ∨ x ∈ l)) ∧ (mk v l).2.length ≤ l.length ∧ ∀ e ∈ (mk v l).2, e ∈ l := by
  have key : ∀ (l p : List Dot) (s : DSet), (∀ d ∈ p ++ l, rightD d = true) → (p ++ l).Pairwise (fun a b => dotLt b a = false) → Can s → (∀ x, Mem s x ↔ rightD x = true ∧ (x.2 ≤ vat v x.1 ∨ x ∈ p)) → s.2.length ≤ p.length → (∀ e ∈ s.2, e ∈ p) →
      Can (l.foldl put1 s) ∧ (∀ x, Mem (l.foldl put1 s) x ↔ rightD x = true ∧ (x.2 ≤ vat v x.1 ∨ x ∈ p ++ l)) ∧ (l.foldl put1 s).2.length ≤ (p ++ l).length ∧ ∀ e ∈ (l.foldl put1 s).2, e ∈ p ++ l := by
    intro l
    induction l with
    | nil => intro p s _ _ hc hm hl he; rw [List.append_nil]; exact ⟨hc, hm, hl, he⟩
    | cons d l ih =>
      intro p s hr hp hc hm hl he
      have hd : rightD d = true := hr d (by simp)
      have hbb : ∀ e ∈ s.2, dotLt d e = false := fun e hee => (List.pairwise_append.1 hp).2.2 e (he e hee) d (by simp)
      obtain ⟨c1, c2, c3⟩ := put1_can hc hd hbb
      have := ih (p ++ [d]) (put1 s d) (by simpa using hr) (by simpa using hp) c1 (fun x => by
          rw [c2, hm]
          constructor
          · rintro (⟨h1, h2⟩ | rfl)
            · exact ⟨h1, h2.imp id fun h => List.mem_append.2 (.inl h)⟩
            · exact ⟨hd, .inr (by simp)⟩
          · rintro ⟨h1, h2 | h2⟩
            · exact .inl ⟨h1, .inl h2⟩
            · rcases List.mem_append.1 h2 with h3 | h3
              · exact .inl ⟨h1, .inr h3⟩
              · exact .inr (List.mem_singleton.1 h3)) (by
          unfold put1; simp only [List.length_append, List.length_singleton]
          split
          · omega
          · split
            · show s.2.length ≤ _; omega
            · split
              · omega
              · simp; omega) (fun e hee => by
          rcases c3 e hee with h | h
          · exact List.mem_append.2 (.inl (he e h))
          · exact List.mem_append.2 (.inr (by simp [h])))
      rw [List.append_assoc] at this; exact this
  intro l hr hs
  have h0 : Can (v, []) := ⟨hv, fun d hd => by simp at hd, fun d hd => by simp at hd, List.Pairwise.nil⟩
  have := key l [] (v, []) (by simpa using hr) (by simpa using hs) h0 (fun x => by simp [Mem]) (Nat.le_refl _) (fun e he => he)
  exact this
end Go.Proofs.YtggcagclpkhlhaaGreatDoor
end
