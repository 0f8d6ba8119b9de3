/- The functions that the statement reaches, and what they come to. Part 3. -/
import Derived.Test.YtfhcammihohmjaaGreatDoorFw1
import Derived.Test.YtfhcammihohmjaaGreatDoorFw2
import Derived.Test.YtfhcammihohmjaaGreatDoorFw3
import Derived.Test.YtfhcammihohmjaaGreatDoorJournalSnaps1
import Derived.Test.YtfhcammihohmjaaGreatDoorJournalSnaps2
set_option linter.unusedVariables false
set_option linter.unusedSimpArgs false
set_option linter.unusedSectionVars false
noncomputable section
/- The program's functions, as plain equations. -/
namespace Go.Proofs.YtfhcammihohmjaaGreatDoor
open Pal
variable (k:Nat)
set_option maxRecDepth 100000
def z07.cx:=co (rg 0 [ri [0,1] [],ri [0,1,7,8] [],rh [0,1,7,8,9] [] [0,1,7,8] [],ri [0,1,5,7,8] [],ri [0,1,5,7,8,16] [16],ri [4] [],ri [0,1,7,8] [],ri [4] []]) [(161,z0H.e k)] k
abbrev z07.sg:Sg:=⟨[.dat (.slc ah),.fn 161 0],[],.dat J,[]⟩
def z07.f (a0:Ty.D (.slc ah)):=fo z07.sg (z07.cx k) Tryz.f216 a0
def z07.l2 (n:Nat) (x0:Ty.D (.slc ah)) (x7 x8:DJ):=lo z07.sg (z07.cx k) Tryz.f216 [1,0,1,0] 2 [0,1,7,8] [] [] n ⟨[(0,.dat (.slc ah) x0),(1,.fn 161 []),(7,.dat J x7),(8,.dat J x8)],[]⟩
theorem z07.f_eq (a0:Ty.D (.slc ah)):z07.f k a0=z07.l2 k k a0 (af a0) 0:=by kernel_rfl
theorem z07.l2_eq (n2:Nat) (x0:Ty.D (.slc ah)) (x7 x8:DJ):z07.l2 k (n2+1) x0 x7 x8=br (aq x8 x7) (br (bO x8 x0) (bnd (z0H.f k (rd ah x0 (aj x8))) fun r0=>br r0 (some x8) (z07.l2 k n2 x0 x7 (aH .i64 x8 1))) none) (some (-1)):=by kernel_rfl
def z07.e:=Sg.entry z07.sg fun x=>z07.f k x
theorem z07.ok:CallOK Tryz.prog 216 (z07.e k):=GW (z07.cx k) Tryz.func216 ⟨z0H.ok k,trivial⟩
def z04.cx:=co (rg 0 [ri [0,1] [],ri [4] []]) [(216,(Entry.alt z0b.sg (z0b.e k) (z07.e k))),(161,z0H.e k)] k
abbrev z04.sg:Sg:=⟨[.dat (.slc ah),.fn 161 0],[],.dat .bool,[]⟩
def z04.f (a0:Ty.D (.slc ah)):=fo z04.sg (z04.cx k) Tryz.f164 a0
theorem z04.f_eq (a0:Ty.D (.slc ah)):z04.f k a0=bnd (z07.f k a0) fun r0=>some (bM 0 r0):=by kernel_rfl
def z04.e:=Sg.entry z04.sg fun x=>z04.f k x
theorem z04.ok:CallOK Tryz.prog 164 (z04.e k):=GW (z04.cx k) Tryz.func164 ⟨(pf (z0b.ok k) (z07.ok k)),z0H.ok k,trivial⟩
def z0X.cx:=co (rg 0 [rv [1] [1] [0],ri [1,3] [1],ri [1,3,4] [1],ri [2] [12,24]]) [(160,z0I.e k),(161,z0H.e k),(162,z2G.e k),(163,(Entry.alt z06.sg (z06.e k) (z03.e k))),(101,z1s.e k),(164,(Entry.alt z05.sg (z05.e k) (z04.e k)))] k
abbrev z0X.sg:Sg:=⟨[.dat bI],[],.dat .bool,[]⟩
def z0X.f (a0:Ty.D bI):=fo z0X.sg (z0X.cx k) Tryz.f102 a0
theorem z0X.f_eq (a0:Ty.D bI):z0X.f k a0=br (bM (af a0.1) 1000) (bnd (z2G.f k a0.1) fun r0=>br r0 (bnd (z03.f k a0.1) fun r1=>br (ai r1) (bnd (z1s.f k a0.2.1) fun r2=>br r2 (bnd (z04.f k a0.2.2) fun r3=>some (ai r3)) (some false)) (some false)) (some false)) (some false):=by kernel_rfl
def z0X.e:=Sg.entry z0X.sg fun x=>z0X.f k x
theorem z0X.ok:CallOK Tryz.prog 102 (z0X.e k):=GW (z0X.cx k) Tryz.func102 ⟨z0I.ok k,z0H.ok k,z2G.ok k,(pf (z06.ok k) (z03.ok k)),z1s.ok k,(pf (z05.ok k) (z04.ok k)),trivial⟩
def z0U.cx:=co (rg 0 [rv [1] [1] [0],ri [1,4] [1],ri [1,4,5] [1],ri [2] [15,20,36,41],ri [1,4,11] [1],ri [2] [15,20,36,41],ri [1,4,32] [1],ri [2] [15,20,36,41],ri [1,37] [1],ri [2] [15,20,36,41],ri [2] [15,20,36,41]]) [(99,z2D.e k),(100,z1j.e k),(101,z1s.e k),(102,z0X.e k),(103,z1x.e k)] k
abbrev z0U.sg:Sg:=⟨[.dat b7],[],.dat .bool,[]⟩
def z0U.f (a0:Ty.D b7):=fo z0U.sg (z0U.cx k) Tryz.f49 a0
theorem z0U.f_eq (a0:Ty.D b7):z0U.f k a0=br (az a0.1 1) (bnd (z2D.f k a0.2.1) fun r0=>some (az r0 0)) (br (az a0.1 2) (bnd (z1j.f k a0.2.2.1) fun r1=>br r1 (bnd (z1s.f k (a0.2.2.2.1::[])) fun r2=>br r2 (br (bM 0 a0.2.2.2.2.1) (some (bM a0.2.2.2.2.1 2)) (some false)) (some false)) (some false)) (br (az a0.1 3) (bnd (z0X.f k a0.2.2.2.2.2.1) fun r3=>some r3) (br (az a0.1 4) (bnd (z1x.f k a0.2.2.2.2.2.2) fun r4=>some r4) (some false)))):=by kernel_rfl
def z0U.e:=Sg.entry z0U.sg fun x=>z0U.f k x
theorem z0U.ok:CallOK Tryz.prog 49 (z0U.e k):=GW (z0U.cx k) Tryz.func49 ⟨z2D.ok k,z1j.ok k,z1s.ok k,z0X.ok k,z1x.ok k,trivial⟩
def z12.cx:=co (rg 0 [ri [0,2] [2],ri [2,4] [2,8],rv [2,4,5] [2,5,8] [4],ri [2,4,5,13] [2,5,8],ri [2,4,5] [2,5,8],ri [2,4,5,13,16] [2,5,8],rv [2,4,5] [2,5,8] [3],ri [2,4,5,13,21] [2,5,8],ri [2,4,5] [2,5,8],ri [2,4,5] [2,5,8],ri [2,4,5] [2,5,8],ri [2,4,5,13,35] [2,5,8],rv [2,4,5] [2,5,8] [3],ri [2,4,5,40] [2,5,8],rv [2,4,5] [2,5,8] [3],ri [2,5,6] [2,5,46],ri [2,5,6,48] [2,5,46],rv [2,3] [2,46] [2],ri [2,5,53] [2,5],rv [2,3] [2,46] [1],rv [2,3] [2,46] [1]]) [(69,z2l.e k),(70,z0G.e k),(71,z2Q.e k),(72,z2O.e k),(73,z0v.e k),(74,z2b.e k),(75,z0r.e k),(76,z0F.e k),(49,z0U.e k)] k
abbrev z12.sg:Sg:=⟨[.dat .str],[],.t2 (.dat b7) (.dat J),[]⟩
def z12.f (a0:Ty.D .str):=fo z12.sg (z12.cx k) Tryz.f27 a0
theorem z12.f_eq (a0:Ty.D .str):z12.f k a0=bnd (z2l.f k a0) fun r0=>bnd (z0G.f k r0.2) fun r1=>br (az r1.1 1) (bnd (z2Q.f k r1.2) fun r2=>bnd (z0F.f k r2.2) fun r3=>br (ai (az r3.1 0)) (some ((0,(((0,0),(0,(0,(false,[])))),(0,(((0,0),0),(0,(([],([],[])),([],([],(((aV 16 0),[]),(((aV 16 0),[]),(aV 8 []))))))))))),r3.1)) (bnd (z0U.f k (r1.1,(r2.1,(0,(((0,0),0),(0,(([],([],[])),([],([],(((aV 16 0),[]),(((aV 16 0),[]),(aV 8 [])))))))))))) fun r4=>br (ai r4) (some ((0,(((0,0),(0,(0,(false,[])))),(0,(((0,0),0),(0,(([],([],[])),([],([],(((aV 16 0),[]),(((aV 16 0),[]),(aV 8 []))))))))))),2)) (some ((r1.1,(r2.1,(0,(((0,0),0),(0,(([],([],[])),([],([],(((aV 16 0),[]),(((aV 16 0),[]),(aV 8 []))))))))))),0)))) (br (az r1.1 2) (bnd (z0G.f k r1.2) fun r5=>bnd (z2O.f k r5.2) fun r6=>bnd (z0G.f k r6.2) fun r7=>bnd (z0G.f k r7.2) fun r8=>bnd (z0F.f k r8.2) fun r9=>br (ai (az r9.1 0)) (some ((0,(((0,0),(0,(0,(false,[])))),(0,(((0,0),0),(0,(([],([],[])),([],([],(((aV 16 0),[]),(((aV 16 0),[]),(aV 8 []))))))))))),r9.1)) (bnd (z0U.f k (r1.1,(((0,0),(0,(0,(false,[])))),(r5.1,((r6.1,r7.1),(r8.1,(([],([],[])),([],([],(((aV 16 0),[]),(((aV 16 0),[]),(aV 8 [])))))))))))) fun r10=>br (ai r10) (some ((0,(((0,0),(0,(0,(false,[])))),(0,(((0,0),0),(0,(([],([],[])),([],([],(((aV 16 0),[]),(((aV 16 0),[]),(aV 8 []))))))))))),2)) (some ((r1.1,(((0,0),(0,(0,(false,[])))),(r5.1,((r6.1,r7.1),(r8.1,(([],([],[])),([],([],(((aV 16 0),[]),(((aV 16 0),[]),(aV 8 []))))))))))),0)))) (br (az r1.1 3) (bnd (z0v.f k r1.2) fun r11=>bnd (z0F.f k r11.2) fun r12=>br (ai (az r12.1 0)) (some ((0,(((0,0),(0,(0,(false,[])))),(0,(((0,0),0),(0,(([],([],[])),([],([],(((aV 16 0),[]),(((aV 16 0),[]),(aV 8 []))))))))))),r12.1)) (bnd (z0U.f k (r1.1,(((0,0),(0,(0,(false,[])))),(0,(((0,0),0),(0,(r11.1,([],([],(((aV 16 0),[]),(((aV 16 0),[]),(aV 8 [])))))))))))) fun r13=>br (ai r13) (some ((0,(((0,0),(0,(0,(false,[])))),(0,(((0,0),0),(0,(([],([],[])),([],([],(((aV 16 0),[]),(((aV 16 0),[]),(aV 8 []))))))))))),2)) (some ((r1.1,(((0,0),(0,(0,(false,[])))),(0,(((0,0),0),(0,(r11.1,([],([],(((aV 16 0),[]),(((aV 16 0),[]),(aV 8 []))))))))))),0)))) (br (az r1.1 4) (bnd (z2b.f k r1.2) fun r14=>bnd (z0F.f k r14.2) fun r15=>br (ai (az r15.1 0)) (some ((0,(((0,0),(0,(0,(false,[])))),(0,(((0,0),0),(0,(([],([],[])),([],([],(((aV 16 0),[]),(((aV 16 0),[]),(aV 8 []))))))))))),r15.1)) (bnd (z0U.f k (r1.1,(((0,0),(0,(0,(false,[])))),(0,(((0,0),0),(0,(([],([],[])),r14.1))))))) fun r16=>br (ai r16) (some ((0,(((0,0),(0,(0,(false,[])))),(0,(((0,0),0),(0,(([],([],[])),([],([],(((aV 16 0),[]),(((aV 16 0),[]),(aV 8 []))))))))))),2)) (some ((r1.1,(((0,0),(0,(0,(false,[])))),(0,(((0,0),0),(0,(([],([],[])),r14.1)))))),0)))) (bnd (z0r.f k 18 r1.2) fun r17=>bnd (z0F.f k r17.2) fun r18=>br (ai (az r18.1 0)) (some ((0,(((0,0),(0,(0,(false,[])))),(0,(((0,0),0),(0,(([],([],[])),([],([],(((aV 16 0),[]),(((aV 16 0),[]),(aV 8 []))))))))))),r18.1)) (bnd (z0U.f k (r1.1,(((0,0),(0,(0,(false,[])))),(0,(((0,0),0),(0,(([],([],[])),([],([],(((aV 16 0),[]),(((aV 16 0),[]),(aV 8 [])))))))))))) fun r19=>br (ai r19) (some ((0,(((0,0),(0,(0,(false,[])))),(0,(((0,0),0),(0,(([],([],[])),([],([],(((aV 16 0),[]),(((aV 16 0),[]),(aV 8 []))))))))))),2)) (some ((r1.1,(((0,0),(0,(0,(false,[])))),(0,(((0,0),0),(0,(([],([],[])),([],([],(((aV 16 0),[]),(((aV 16 0),[]),(aV 8 []))))))))))),0))))))):=by kernel_rfl
def z12.e:=Sg.entry z12.sg fun x=>z12.f k x
theorem z12.ok:CallOK Tryz.prog 27 (z12.e k):=GW (z12.cx k) Tryz.func27 ⟨z2l.ok k,z0G.ok k,z2Q.ok k,z2O.ok k,z0v.ok k,z2b.ok k,z0r.ok k,z0F.ok k,z0U.ok k,trivial⟩
def z1J.cx:=co (rg 0 [rv [2,3] [2,3] [0],ri [4] [8]]) [(178,z1d.e k)] k
abbrev z1J.sg:Sg:=⟨[.dat aJ,.dat ah],[],.dat J,[]⟩
def z1J.f (a0:Ty.D aJ) (a1:Ty.D ah):=fo z1J.sg (z1J.cx k) Tryz.f177 (a0,a1)
theorem z1J.f_eq (a0:Ty.D aJ) (a1:Ty.D ah):z1J.f k a0 a1=bnd (z1d.f k a0.1 a1) fun r0=>some r0:=by kernel_rfl
def z1J.e:=Sg.entry z1J.sg fun x=>z1J.f k x.1 x.2
theorem z1J.ok:CallOK Tryz.prog 177 (z1J.e k):=GW (z1J.cx k) Tryz.func177 ⟨z1d.ok k,trivial⟩
def z01.cx:=co (rg 0 [ri [0,2,4] [4],ri [0,2,4,8] [4],ri [0,2,4,8,9,10] [4],rh [0,2,4,8,9,10,17] [4] [0,2,4,8,9,10] [4],ri [0,2,4,8,9,10,11] [4],⟨[0,2,4,8,9,10,11,31],[4],[],[],8,[],[],[],[[],[],[],[],[],[],[4,5],[6,4,5]],[],[],[]⟩,ri [0,2,4,8,9,10] [4],ri [0,2,4,8,9,10] [4],⟨[6,7],[],[],[],15,[],[],[],[[],[],[],[],[],[],[],[],[],[],[],[9,10],[11,9,10],[11,9,10],[11,9,10],[11,9,10]],[],[],[]⟩]) [(177,z1J.e k)] k
abbrev z01.sg:Sg:=⟨[.dat (.slc aJ),.dat ah,.fn 177 0],[],.t2 (.dat J) (.dat .bool),[]⟩
def z01.f (a0:Ty.D (.slc aJ)) (a1:Ty.D ah):=fo z01.sg (z01.cx k) Tryz.f176 (a0,a1)
def z01.l3 (n:Nat) (x0:Ty.D (.slc aJ)) (x8 x9 x10:DJ) (m4:Ty.D ah):=lo z01.sg (z01.cx k) Tryz.f176 [1,1,1,0,0] 3 [0,2,4,8,9,10] [4] [] n ⟨[(0,.dat (.slc aJ) x0),(2,.fn 177 []),(4,.ref 4 []),(8,.dat J x8),(9,.dat J x9),(10,.dat J x10)],[(4,.dat ah m4)]⟩
theorem z01.f_eq (a0:Ty.D (.slc aJ)) (a1:Ty.D ah):z01.f k a0 a1=z01.l3 k k a0 (af a0) 0 (af a0) a1:=by kernel_rfl
theorem z01.l3_eq (n3:Nat) (x0:Ty.D (.slc aJ)) (x8 x9 x10:DJ) (m4:Ty.D ah):z01.l3 k (n3+1) x0 x8 x9 x10 m4=br (aq x9 x10) (br (bO (bj .i64 (gZ .u64 (bj .u64 (aH .i64 x9 x10)) 1)) x0) (bnd (z1J.f k (rd aJ x0 (aj (bj .i64 (gZ .u64 (bj .u64 (aH .i64 x9 x10)) 1)))) m4) fun r0=>br (aq r0 0) (z01.l3 k n3 x0 x8 (aH .i64 (bj .i64 (gZ .u64 (bj .u64 (aH .i64 x9 x10)) 1)) 1) x10 m4) (z01.l3 k n3 x0 x8 x9 (bj .i64 (gZ .u64 (bj .u64 (aH .i64 x9 x10)) 1)) m4)) none) (br (aq x9 x8) (br (bO x9 x0) (bnd (z1J.f k (rd aJ x0 (aj x9)) m4) fun r1=>some (x9,(az r1 0))) none) (some (x9,false))):=by kernel_rfl
def z01.e:=Sg.entry z01.sg fun x=>z01.f k x.1 x.2
theorem z01.ok:CallOK Tryz.prog 176 (z01.e k):=GW (z01.cx k) Tryz.func176 ⟨z1J.ok k,trivial⟩
def z2S.cx:=co (rg 0 [ri [0,3] [3],ri [5,6] [10],ri [5,14] [10],ri [4] [10],ri [4] [10]]) [(176,z01.e k),(177,z1J.e k)] k
abbrev z2S.sg:Sg:=⟨[.dat (.slc aJ),.dat ah],[],.dat J,[]⟩
def z2S.f (a0:Ty.D (.slc aJ)) (a1:Ty.D ah):=fo z2S.sg (z2S.cx k) Tryz.f109 (a0,a1)
theorem z2S.f_eq (a0:Ty.D (.slc aJ)) (a1:Ty.D ah):z2S.f k a0 a1=bnd (z01.f k a0 a1) fun r0=>br (ai r0.2) (some (-1)) (some r0.1):=by kernel_rfl
def z2S.e:=Sg.entry z2S.sg fun x=>z2S.f k x.1 x.2
theorem z2S.ok:CallOK Tryz.prog 109 (z2S.e k):=GW (z2S.cx k) Tryz.func109 ⟨z01.ok k,z1J.ok k,trivial⟩
def z2q.cx:=co (rg 0 [rv [2,3] [2,3] [0],ri [4] [8]]) [(178,z1d.e k)] k
abbrev z2q.sg:Sg:=⟨[.dat aJ,.dat ah],[],.dat J,[]⟩
def z2q.f (a0:Ty.D aJ) (a1:Ty.D ah):=fo z2q.sg (z2q.cx k) Tryz.f179 (a0,a1)
theorem z2q.f_eq (a0:Ty.D aJ) (a1:Ty.D ah):z2q.f k a0 a1=bnd (z1d.f k a0.1 a1) fun r0=>some r0:=by kernel_rfl
def z2q.e:=Sg.entry z2q.sg fun x=>z2q.f k x.1 x.2
theorem z2q.ok:CallOK Tryz.prog 179 (z2q.e k):=GW (z2q.cx k) Tryz.func179 ⟨z1d.ok k,trivial⟩
def z02.cx:=co (rg 0 [ri [0,2,4] [4],ri [0,2,4,8] [4],ri [0,2,4,8,9,10] [4],rh [0,2,4,8,9,10,17] [4] [0,2,4,8,9,10] [4],ri [0,2,4,8,9,10,11] [4],⟨[0,2,4,8,9,10,11,31],[4],[],[],8,[],[],[],[[],[],[],[],[],[],[4,5],[6,4,5]],[],[],[]⟩,ri [0,2,4,8,9,10] [4],ri [0,2,4,8,9,10] [4],⟨[6,7],[],[],[],15,[],[],[],[[],[],[],[],[],[],[],[],[],[],[],[9,10],[11,9,10],[11,9,10],[11,9,10],[11,9,10]],[],[],[]⟩]) [(179,z2q.e k)] k
abbrev z02.sg:Sg:=⟨[.dat (.slc aJ),.dat ah,.fn 179 0],[],.t2 (.dat J) (.dat .bool),[]⟩
def z02.f (a0:Ty.D (.slc aJ)) (a1:Ty.D ah):=fo z02.sg (z02.cx k) Tryz.f176 (a0,a1)
def z02.l3 (n:Nat) (x0:Ty.D (.slc aJ)) (x8 x9 x10:DJ) (m4:Ty.D ah):=lo z02.sg (z02.cx k) Tryz.f176 [1,1,1,0,0] 3 [0,2,4,8,9,10] [4] [] n ⟨[(0,.dat (.slc aJ) x0),(2,.fn 179 []),(4,.ref 4 []),(8,.dat J x8),(9,.dat J x9),(10,.dat J x10)],[(4,.dat ah m4)]⟩
theorem z02.f_eq (a0:Ty.D (.slc aJ)) (a1:Ty.D ah):z02.f k a0 a1=z02.l3 k k a0 (af a0) 0 (af a0) a1:=by kernel_rfl
theorem z02.l3_eq (n3:Nat) (x0:Ty.D (.slc aJ)) (x8 x9 x10:DJ) (m4:Ty.D ah):z02.l3 k (n3+1) x0 x8 x9 x10 m4=br (aq x9 x10) (br (bO (bj .i64 (gZ .u64 (bj .u64 (aH .i64 x9 x10)) 1)) x0) (bnd (z2q.f k (rd aJ x0 (aj (bj .i64 (gZ .u64 (bj .u64 (aH .i64 x9 x10)) 1)))) m4) fun r0=>br (aq r0 0) (z02.l3 k n3 x0 x8 (aH .i64 (bj .i64 (gZ .u64 (bj .u64 (aH .i64 x9 x10)) 1)) 1) x10 m4) (z02.l3 k n3 x0 x8 x9 (bj .i64 (gZ .u64 (bj .u64 (aH .i64 x9 x10)) 1)) m4)) none) (br (aq x9 x8) (br (bO x9 x0) (bnd (z2q.f k (rd aJ x0 (aj x9)) m4) fun r1=>some (x9,(az r1 0))) none) (some (x9,false))):=by kernel_rfl
def z02.e:=Sg.entry z02.sg fun x=>z02.f k x.1 x.2
theorem z02.ok:CallOK Tryz.prog 176 (z02.e k):=GW (z02.cx k) Tryz.func176 ⟨z2q.ok k,trivial⟩
def z38.cx:=co (rg 0 [⟨[0,3],[3],[0],[],0,[],[],[1],[],[],[],[]⟩,⟨[0,3,5,6],[3,11],[],[],0,[],[],[0,3],[],[],[],[]⟩,⟨[0,3,5,14],[3,11],[],[],0,[],[],[6],[],[],[],[]⟩,rv [4] [21] [0,1],⟨[4],[21],[5,6],[],6,[],[],[0,5,3],[],[],[],[]⟩]) [(176,(Entry.alt z01.sg (z01.e k) (z02.e k))),(179,z2q.e k),(115,(iE aJ)),(180,(rl aJ))] k
abbrev z38.sg:Sg:=⟨[.dat (.slc aJ),.dat aJ],[],.dat (.slc aJ),[]⟩
def z38.f (a0:Ty.D (.slc aJ)) (a1:Ty.D aJ):=fo z38.sg (z38.cx k) Tryz.f110 (a0,a1)
theorem z38.f_eq (a0:Ty.D (.slc aJ)) (a1:Ty.D aJ):z38.f k a0 a1=bnd (z02.f k a0 a1.1) fun r0=>br r0.2 (some a0) (br (bm ([]:List Int) a0) (br (eE 0 r0.1 (af a0)) (br (bm a0 (a1::[])) (some (eC a0 r0.1 (a1::[]))) none) none) none):=by kernel_rfl
def z38.e:=Sg.entry z38.sg fun x=>z38.f k x.1 x.2
theorem z38.ok:CallOK Tryz.prog 110 (z38.e k):=GW (z38.cx k) Tryz.func110 ⟨(pf (z01.ok k) (z02.ok k)),z2q.ok k,uE,Aj,trivial⟩
def z3c.cx:=co (rg 0 [ri [2,3] [2,3],rq [4] [6] 11]) [(128,z2F.e k)] k
abbrev z3c.sg:Sg:=⟨[.dat bc,.dat ah],[],.dat .bool,[]⟩
def z3c.f (a0:Ty.D bc) (a1:Ty.D ah):=fo z3c.sg (z3c.cx k) Tryz.f228 (a0,a1)
theorem z3c.f_eq (a0:Ty.D bc) (a1:Ty.D ah):z3c.f k a0 a1=bnd (z2F.f k a1) fun r0=>br r0 (br (gh a1.1 16) (some (bM a1.2 (rd (.int .i64) a0 (aj a1.1)))) none) (some false):=by kernel_rfl
def z3c.e:=Sg.entry z3c.sg fun x=>z3c.f k x.1 x.2
theorem z3c.ok:CallOK Tryz.prog 228 (z3c.e k):=GW (z3c.cx k) Tryz.func228 ⟨z2F.ok k,trivial⟩
def z00.cx:=co (rg 0 [ri [0,2,4] [4],ri [0,2,4,8] [4],ri [0,2,4,8,9,10] [4],rh [0,2,4,8,9,10,17] [4] [0,2,4,8,9,10] [4],ri [0,2,4,8,9,10,11] [4],⟨[0,2,4,8,9,10,11,31],[4],[],[],8,[],[],[],[[],[],[],[],[],[],[4,5],[6,4,5]],[],[],[]⟩,ri [0,2,4,8,9,10] [4],ri [0,2,4,8,9,10] [4],⟨[6,7],[],[],[],15,[],[],[],[[],[],[],[],[],[],[],[],[],[],[],[9,10],[11,9,10],[11,9,10],[11,9,10],[11,9,10]],[],[],[]⟩]) [(178,z1d.e k)] k
abbrev z00.sg:Sg:=⟨[.dat (.slc ah),.dat ah,.fn 178 0],[],.t2 (.dat J) (.dat .bool),[]⟩
def z00.f (a0:Ty.D (.slc ah)) (a1:Ty.D ah):=fo z00.sg (z00.cx k) Tryz.f182 (a0,a1)
def z00.l3 (n:Nat) (x0:Ty.D (.slc ah)) (x8 x9 x10:DJ) (m4:Ty.D ah):=lo z00.sg (z00.cx k) Tryz.f182 [1,1,1,0,0] 3 [0,2,4,8,9,10] [4] [] n ⟨[(0,.dat (.slc ah) x0),(2,.fn 178 []),(4,.ref 4 []),(8,.dat J x8),(9,.dat J x9),(10,.dat J x10)],[(4,.dat ah m4)]⟩
theorem z00.f_eq (a0:Ty.D (.slc ah)) (a1:Ty.D ah):z00.f k a0 a1=z00.l3 k k a0 (af a0) 0 (af a0) a1:=by kernel_rfl
theorem z00.l3_eq (n3:Nat) (x0:Ty.D (.slc ah)) (x8 x9 x10:DJ) (m4:Ty.D ah):z00.l3 k (n3+1) x0 x8 x9 x10 m4=br (aq x9 x10) (br (bO (bj .i64 (gZ .u64 (bj .u64 (aH .i64 x9 x10)) 1)) x0) (bnd (z1d.f k (rd ah x0 (aj (bj .i64 (gZ .u64 (bj .u64 (aH .i64 x9 x10)) 1)))) m4) fun r0=>br (aq r0 0) (z00.l3 k n3 x0 x8 (aH .i64 (bj .i64 (gZ .u64 (bj .u64 (aH .i64 x9 x10)) 1)) 1) x10 m4) (z00.l3 k n3 x0 x8 x9 (bj .i64 (gZ .u64 (bj .u64 (aH .i64 x9 x10)) 1)) m4)) none) (br (aq x9 x8) (br (bO x9 x0) (bnd (z1d.f k (rd ah x0 (aj x9)) m4) fun r1=>some (x9,(az r1 0))) none) (some (x9,false))):=by kernel_rfl
def z00.e:=Sg.entry z00.sg fun x=>z00.f k x.1 x.2
theorem z00.ok:CallOK Tryz.prog 182 (z00.e k):=GW (z00.cx k) Tryz.func182 ⟨z1d.ok k,trivial⟩
def z2U.cx:=co (rg 0 [rv [2,3] [2,3] [0],ri [2,3,10] [2,3,10],ri [4] [15],ri [6] [15],ri [4] [15]]) [(228,z3c.e k),(182,z00.e k),(178,z1d.e k)] k
abbrev z2U.sg:Sg:=⟨[.dat bp,.dat ah],[],.dat .bool,[]⟩
def z2U.f (a0:Ty.D bp) (a1:Ty.D ah):=fo z2U.sg (z2U.cx k) Tryz.f181 (a0,a1)
theorem z2U.f_eq (a0:Ty.D bp) (a1:Ty.D ah):z2U.f k a0 a1=bnd (z3c.f k a0.1 a1) fun r0=>br r0 (some true) (bnd (z00.f k a0.2 a1) fun r1=>some r1.2):=by kernel_rfl
def z2U.e:=Sg.entry z2U.sg fun x=>z2U.f k x.1 x.2
theorem z2U.ok:CallOK Tryz.prog 181 (z2U.e k):=GW (z2U.cx k) Tryz.func181 ⟨z3c.ok k,z00.ok k,z1d.ok k,trivial⟩
def z2T.cx:=co (rg 0 [⟨[2,3,4],[2,3,4],[0],[],0,[],[],[0,1],[],[],[],[]⟩,⟨[2,3,4,14],[2,3,4,13],[],[],0,[],[],[3,2],[],[],[],[]⟩,⟨[4],[4],[1],[],0,[],[],[2,4],[],[],[],[]⟩,⟨[2,3,4,5],[2,3,4,20],[],[],0,[],[],[2,3],[],[],[],[]⟩,⟨[4],[4],[8,10],[],10,[],[],[2,5,3,4],[[],[],[],[],[3],[],[],[6],[3,6],[1,3,6],[1,3,6]],[],[],[]⟩]) [(128,z2F.e k),(181,z2U.e k),(182,z00.e k),(178,z1d.e k),(113,(iE ah)),(184,(rl ah)),(183,z2s.e k)] k
abbrev z2T.sg:Sg:=⟨[.dat bp,.dat ah],[],.dat bp,[]⟩
def z2T.f (a0:Ty.D bp) (a1:Ty.D ah):=fo z2T.sg (z2T.cx k) Tryz.f111 (a0,a1)
theorem z2T.f_eq (a0:Ty.D bp) (a1:Ty.D ah):z2T.f k a0 a1=bnd (z2F.f k a1) fun r0=>br (ai r0) (some a0) (bnd (z2U.f k a0 a1) fun r1=>br r1 (some a0) (bnd (z00.f k a0.2 a1) fun r2=>br (bm ([]:List Int) a0.2) (br (eE 0 r2.1 (af a0.2)) (br (bm a0.2 (a1::[])) (bnd (z2s.f k a0.1 (eC a0.2 r2.1 (a1::[]))) fun r3=>some r3) none) none) none)):=by kernel_rfl
def z2T.e:=Sg.entry z2T.sg fun x=>z2T.f k x.1 x.2
theorem z2T.ok:CallOK Tryz.prog 111 (z2T.e k):=GW (z2T.cx k) Tryz.func111 ⟨z2F.ok k,z2U.ok k,z00.ok k,z1d.ok k,o7,AS,z2s.ok k,trivial⟩
def z2f.cx:=co (rg 0 [rv [2,3,4] [2,3,4] [0,1],ri [2,3,4,10] [2,3,4],rv [4] [4] [1],rv [2,3,4] [2,3,4] [5],rv [2,4] [2,4] [6],rv [4] [4] [1]]) [(109,z2S.e k),(110,z38.e k),(111,z2T.e k)] k
abbrev z2f.sg:Sg:=⟨[.dat aI,.dat aJ],[],.dat aI,[]⟩
def z2f.f (a0:Ty.D aI) (a1:Ty.D aJ):=fo z2f.sg (z2f.cx k) Tryz.f57 (a0,a1)
theorem z2f.f_eq (a0:Ty.D aI) (a1:Ty.D aJ):z2f.f k a0 a1=bnd (z2S.f k a0.1 a1.1) fun r0=>br (bM 0 r0) (some a0) (bnd (z38.f k a0.1 a1) fun r1=>bnd (z2T.f k a0.2.2.1 a1.1) fun r2=>some (r1,(a0.2.1,(r2,a0.2.2.2)))):=by kernel_rfl
def z2f.e:=Sg.entry z2f.sg fun x=>z2f.f k x.1 x.2
theorem z2f.ok:CallOK Tryz.prog 57 (z2f.e k):=GW (z2f.cx k) Tryz.func57 ⟨z2S.ok k,z38.ok k,z2T.ok k,trivial⟩
def z1D.cx:=co (rg 0 [ri [0,1] [],ri [0,1,5] [],rh [0,1,5,14] [] [0,1,5] [],ri [0,1,5,6] [29],ri [0,1,5,6,15] [29],ri [0,1,5,6] [29],ri [0,1,5,6,19] [29],rq [0,1,5,6] [29] 7,rx [0,1,5] [] [0,16,17] [] 17 [] [],rx [0,1,5] [] [4,5] [] 5 [] [],ri [0,1,5,6,51] [29],rx [0,1,5] [] [0,5,8,9] [] 9 [] [],ri [0,1,5,62] [],rx [0,1,5] [] [0,5,8,9] [] 9 [] [],rv [4] [] [0,1]]) [(159,z0O.e k)] k
abbrev z1D.sg:Sg:=⟨[.dat (.slc ak),.dat (.slc ak)],[],.own ak,[]⟩
def z1D.f (a0 a1:Ty.D (.slc ak)):=fo z1D.sg (z1D.cx k) Tryz.f112 (a0,a1)
def z1D.l2 (n:Nat) (x0 x1:Ty.D (.slc ak)) (x5:List (Ty.D ak)):=lo z1D.sg (z1D.cx k) Tryz.f112 [1,1,0,0] 2 [0,1,5] [] [] n ⟨[(0,.dat (.slc ak) x0),(1,.dat (.slc ak) x1),(5,.own ak x5)],[]⟩
theorem z1D.f_eq (a0 a1:Ty.D (.slc ak)):z1D.f k a0 a1=z1D.l2 k k a0 a1 []:=by kernel_rfl
theorem z1D.l2_eq (n2:Nat) (x0 x1:Ty.D (.slc ak)) (x5:List (Ty.D ak)):z1D.l2 k (n2+1) x0 x1 x5=br (aq 0 (af x0)) (br (az (af x0) 0) (br (bO 0 x1) (br (bm x5 ((rd ak x1 (aj 0))::[])) (br (eE 1 (af x1) (af x1)) (z1D.l2 k n2 x0 (ba x1 1 (af x1)) (app x5 ((rd ak x1 (aj 0))::[]))) none) none) none) (br (aq 0 (af x1)) (br (bO 0 x0) (br (bO 0 x1) (bnd (z0O.f k (rd ak x0 (aj 0)) (rd ak x1 (aj 0))) fun r0=>br (aq r0 0) (br (bO 0 x0) (br (bm x5 ((rd ak x0 (aj 0))::[])) (br (eE 1 (af x0) (af x0)) (z1D.l2 k n2 (ba x0 1 (af x0)) x1 (app x5 ((rd ak x0 (aj 0))::[]))) none) none) none) (br (aq 0 r0) (br (bO 0 x1) (br (bm x5 ((rd ak x1 (aj 0))::[])) (br (eE 1 (af x1) (af x1)) (z1D.l2 k n2 x0 (ba x1 1 (af x1)) (app x5 ((rd ak x1 (aj 0))::[]))) none) none) none) (br (bO 0 x0) (br (bO 0 x0) (br (bO 0 x1) (br (bm x5 (((rd ak x0 (aj 0)).1,(jk ((rd ak x0 (aj 0)).2) ((rd ak x1 (aj 0)).2)))::[])) (br (eE 1 (af x0) (af x0)) (br (eE 1 (af x1) (af x1)) (z1D.l2 k n2 (ba x0 1 (af x0)) (ba x1 1 (af x1)) (app x5 (((rd ak x0 (aj 0)).1,(jk ((rd ak x0 (aj 0)).2) ((rd ak x1 (aj 0)).2)))::[]))) none) none) none) none) none) none))) none) none) (br (bO 0 x0) (br (bm x5 ((rd ak x0 (aj 0))::[])) (br (eE 1 (af x0) (af x0)) (z1D.l2 k n2 (ba x0 1 (af x0)) x1 (app x5 ((rd ak x0 (aj 0))::[]))) none) none) none))) (br (aq 0 (af x1)) (br (az (af x0) 0) (br (bO 0 x1) (br (bm x5 ((rd ak x1 (aj 0))::[])) (br (eE 1 (af x1) (af x1)) (z1D.l2 k n2 x0 (ba x1 1 (af x1)) (app x5 ((rd ak x1 (aj 0))::[]))) none) none) none) (br (aq 0 (af x1)) (br (bO 0 x0) (br (bO 0 x1) (bnd (z0O.f k (rd ak x0 (aj 0)) (rd ak x1 (aj 0))) fun r1=>br (aq r1 0) (br (bO 0 x0) (br (bm x5 ((rd ak x0 (aj 0))::[])) (br (eE 1 (af x0) (af x0)) (z1D.l2 k n2 (ba x0 1 (af x0)) x1 (app x5 ((rd ak x0 (aj 0))::[]))) none) none) none) (br (aq 0 r1) (br (bO 0 x1) (br (bm x5 ((rd ak x1 (aj 0))::[])) (br (eE 1 (af x1) (af x1)) (z1D.l2 k n2 x0 (ba x1 1 (af x1)) (app x5 ((rd ak x1 (aj 0))::[]))) none) none) none) (br (bO 0 x0) (br (bO 0 x0) (br (bO 0 x1) (br (bm x5 (((rd ak x0 (aj 0)).1,(jk ((rd ak x0 (aj 0)).2) ((rd ak x1 (aj 0)).2)))::[])) (br (eE 1 (af x0) (af x0)) (br (eE 1 (af x1) (af x1)) (z1D.l2 k n2 (ba x0 1 (af x0)) (ba x1 1 (af x1)) (app x5 (((rd ak x0 (aj 0)).1,(jk ((rd ak x0 (aj 0)).2) ((rd ak x1 (aj 0)).2)))::[]))) none) none) none) none) none) none))) none) none) (br (bO 0 x0) (br (bm x5 ((rd ak x0 (aj 0))::[])) (br (eE 1 (af x0) (af x0)) (z1D.l2 k n2 (ba x0 1 (af x0)) x1 (app x5 ((rd ak x0 (aj 0))::[]))) none) none) none))) (some x5)):=by kernel_rfl
def z1D.e:=Sg.entry z1D.sg fun x=>z1D.f k x.1 x.2
theorem z1D.ok:CallOK Tryz.prog 112 (z1D.e k):=GW (z1D.cx k) Tryz.func112 ⟨z0O.ok k,trivial⟩
def z19.cx:=co (rg 0 [rv [1,2,4] [2,4] [0],rv [2,4] [2,4] [5],rv [4] [4] [1]]) [(112,z1D.e k)] k
abbrev z19.sg:Sg:=⟨[.dat aI,.dat (.slc ak)],[],.dat aI,[]⟩
def z19.f (a0:Ty.D aI) (a1:Ty.D (.slc ak)):=fo z19.sg (z19.cx k) Tryz.f58 (a0,a1)
theorem z19.f_eq (a0:Ty.D aI) (a1:Ty.D (.slc ak)):z19.f k a0 a1=bnd (z1D.f k a0.2.1 a1) fun r0=>some (a0.1,(r0,a0.2.2)):=by kernel_rfl
def z19.e:=Sg.entry z19.sg fun x=>z19.f k x.1 x.2
theorem z19.ok:CallOK Tryz.prog 58 (z19.e k):=GW (z19.cx k) Tryz.func58 ⟨z1D.ok k,trivial⟩
def z1z.cx:=co (rg 0 [rv [0,3] [3] [0],ri [0,3,7] [3],ri [0,3,7,8] [3],rx [4] [37] [6,7] [] 7 [] [],ri [0,3,17] [3],ri [0,3,5] [3],rh [0,3,5,23] [3] [0,3,5] [3],ri [0,3,5] [3],rq [0,3,5,33] [3] 8,rv [4] [37] [4],rv [4] [37] [0,1]]) [(113,(iX ah))] k
abbrev z1z.sg:Sg:=⟨[.dat (.slc ah),.dat b7],[],.dat (.slc ah),[]⟩
def z1z.f (a0:Ty.D (.slc ah)) (a1:Ty.D b7):=fo z1z.sg (z1z.cx k) Tryz.f59 (a0,a1)
def z1z.l6 (n:Nat) (x0:Ty.D (.slc ah)) (x5:DJ) (m3:Ty.D b7):=lo z1z.sg (z1z.cx k) Tryz.f59 [1,0,1,0,1,1,1,0,1,0] 6 [0,3,5] [3] [] n ⟨[(0,.dat (.slc ah) x0),(3,.ref 3 []),(5,.dat J x5)],[(3,.dat b7 m3)]⟩
theorem z1z.f_eq (a0:Ty.D (.slc ah)) (a1:Ty.D b7):z1z.f k a0 a1=br (az a1.2.2.2.2.1 1) (br (bm ([]:List Int) a0) (br (bm a0 (a1.2.2.2.1.1::[])) (some (app a0 (a1.2.2.2.1.1::[]))) none) none) (br (az a1.2.2.2.2.1 2) (z1z.l6 k k a0 (bw .i64 (af a0) 1) a1) (some a0)):=by kernel_rfl
theorem z1z.l6_eq (n6:Nat) (x0:Ty.D (.slc ah)) (x5:DJ) (m3:Ty.D b7):z1z.l6 k (n6+1) x0 x5 m3=br (bM 0 x5) (br (bO x5 x0) (br (eQ ah (rd ah x0 (aj x5)) m3.2.2.2.1.1) (br (eE 0 x5 (af x0)) (br (bm ([]:List Int) (ba x0 0 x5)) (some (ba x0 0 x5)) none) none) (z1z.l6 k n6 x0 (bw .i64 x5 1) m3)) none) (some x0):=by kernel_rfl
def z1z.e:=Sg.entry z1z.sg fun x=>z1z.f k x.1 x.2
theorem z1z.ok:CallOK Tryz.prog 59 (z1z.e k):=GW (z1z.cx k) Tryz.func59 ⟨mD,trivial⟩
def z0d.cx:=co (rg 0 [ri [0] [],ri [0,3] [],ri [0,3,9,10,11] [],rh [0,3,9,10,11,12] [] [0,3,9,10,11] [],rv [0,3,5,9,10,11] [] [2],ri [0,3,9,10,11] [],ri [0,3,9,10,11,20] [],ri [0,3,9,10,11] [],ri [0,3,9,10,11] [],rv [0,6] [24] [2],ri [6,25,26,27] [24],rh [6,25,26,27,28] [24] [6,25,26,27] [24],rv [6,8,25,26,27] [24] [2],rv [6,25,26,27] [24] [0,2,3],ri [6,25,26,27] [24],rv [2] [24] [0,1]]) [(255,(wm ah))] k
abbrev z0d.sg:Sg:=⟨[.dat (.slc (.slc ah))],[],.raw ah,[]⟩
def z0d.f (a0:Ty.D (.slc (.slc ah))):=fo z0d.sg (z0d.cx k) Tryz.f231 a0
def z0d.l3 (n:Nat) (x0:Ty.D (.slc (.slc ah))) (x3:DJ) (x9:Ty.D (.slc (.slc ah))) (x10 x11:DJ):=lo z0d.sg (z0d.cx k) Tryz.f231 [1,1,0,1,0] 3 [0,3,9,10,11] [] [] n ⟨[(0,.dat (.slc (.slc ah)) x0),(3,.dat J x3),(9,.dat (.slc (.slc ah)) x9),(10,.dat J x10),(11,.dat J x11)],[]⟩
def z0d.l11 (n:Nat) (x6:List (Ty.D ah)) (x25:Ty.D (.slc (.slc ah))) (x26 x27:DJ):=lo z0d.sg (z0d.cx k) Tryz.f231 [1,1,1,1,0,1,0] 11 [6,25,26,27] [24] [] n ⟨[(6,.own ah x6),(25,.dat (.slc (.slc ah)) x25),(26,.dat J x26),(27,.dat J x27)],[]⟩
theorem z0d.f_eq (a0:Ty.D (.slc (.slc ah))):z0d.f k a0=z0d.l3 k k a0 0 a0 (af a0) 0:=by kernel_rfl
theorem z0d.l3_eq (n3:Nat) (x0:Ty.D (.slc (.slc ah))) (x3:DJ) (x9:Ty.D (.slc (.slc ah))) (x10 x11:DJ):z0d.l3 k (n3+1) x0 x3 x9 x10 x11=br (aq x11 x10) (br (bO x11 x9) (br (aq (aH .i64 x3 (af (rd (.slc ah) x9 (aj x11)))) 0) none (z0d.l3 k n3 x0 (aH .i64 x3 (af (rd (.slc ah) x9 (aj x11)))) x9 x10 (aH .i64 x11 1))) none) (br (aq x3 0) none (br (aq 4294967296 x3) none (br (bm ([]:List Int) ([]:List Int)) (z0d.l11 k k [] x0 (af x0) 0) none))):=by kernel_rfl
theorem z0d.l11_eq (n11:Nat) (x6:List (Ty.D ah)) (x25:Ty.D (.slc (.slc ah))) (x26 x27:DJ):z0d.l11 k (n11+1) x6 x25 x26 x27=br (aq x27 x26) (br (bO x27 x25) (br (bm x6 (rd (.slc ah) x25 (aj x27))) (z0d.l11 k n11 (app x6 (rd (.slc ah) x25 (aj x27))) x25 x26 (aH .i64 x27 1)) none) none) (some x6):=by kernel_rfl
def z0d.e:=Sg.entry z0d.sg fun x=>z0d.f k x
theorem z0d.ok:CallOK Tryz.prog 231 (z0d.e k):=GW (z0d.cx k) Tryz.func231 ⟨yy,trivial⟩
def z1C.cx:=co (rg 0 [ri [0,1] [],ri [4] []]) [] k
abbrev z1C.sg:Sg:=⟨[.dat J,.dat J],[],.dat J,[]⟩
def z1C.f (a0 a1:DJ):=fo z1C.sg (z1C.cx k) Tryz.f257 (a0,a1)
theorem z1C.f_eq (a0 a1:DJ):z1C.f k a0 a1=some (jk a0 a1):=by kernel_rfl
def z1C.e:=Sg.entry z1C.sg fun x=>z1C.f k x.1 x.2
theorem z1C.ok:CallOK Tryz.prog 257 (z1C.e k):=GW (z1C.cx k) Tryz.func257 trivial
def z0i.cx:=co (rg 0 [ri [2,3,4,6] [3,4,6],ri [2,3,4,6,8] [3,4,6],rh [2,3,4,6,8,9] [3,4,6] [2,3,4,6,8] [3,4,6],ri [2,3,4,6,7,8] [3,4,6],⟨[2,3,4,6,8],[3,4,6],[],[],9,[],[],[],[[],[],[],[],[],[],[],[],[4,7],[4,7,8],[4,7,8]],[],[],[]⟩,ri [2,3,4,6,8] [3,4,6],ri [6] [6]]) [(257,z1C.e k)] k
abbrev z0i.sg:Sg:=⟨[.dat bc,.dat bc,.fn 257 0],[],.dat bc,[]⟩
def z0i.f (a0 a1:Ty.D bc):=fo z0i.sg (z0i.cx k) Tryz.f256 (a0,a1)
def z0i.l2 (n:Nat) (x8:DJ) (m3 m4 m6:Ty.D bc):=lo z0i.sg (z0i.cx k) Tryz.f256 [1,0,1,0] 2 [2,3,4,6,8] [3,4,6] [] n ⟨[(2,.fn 257 []),(3,.ref 3 []),(4,.ref 4 []),(6,.ref 6 []),(8,.dat J x8)],[(3,.dat bc m3),(4,.dat bc m4),(6,.dat bc m6)]⟩
theorem z0i.f_eq (a0 a1:Ty.D bc):z0i.f k a0 a1=z0i.l2 k k 0 a0 a1 (aV 16 0):=by kernel_rfl
theorem z0i.l2_eq (n2:Nat) (x8:DJ) (m3 m4 m6:Ty.D bc):z0i.l2 k (n2+1) x8 m3 m4 m6=br (aq x8 16) (br (gh x8 16) (br (gh x8 16) (bnd (z1C.f k (rd (.int .i64) m3 (aj x8)) (rd (.int .i64) m4 (aj x8))) fun r0=>br (gh x8 16) (z0i.l2 k n2 (aH .i64 x8 1) (ja m3 (aj x8) r0) m4 m6) none) none) none) (some m3):=by kernel_rfl
def z0i.e:=Sg.entry z0i.sg fun x=>z0i.f k x.1 x.2
theorem z0i.ok:CallOK Tryz.prog 256 (z0i.e k):=GW (z0i.cx k) Tryz.func256 ⟨z1C.ok k,trivial⟩
def z2M.cx:=co (rg 0 [ri [2,3,4] [2,3,4],ri [4] [4]]) [(256,z0i.e k),(257,z1C.e k)] k
abbrev z2M.sg:Sg:=⟨[.dat bc,.dat bc],[],.dat bc,[]⟩
def z2M.f (a0 a1:Ty.D bc):=fo z2M.sg (z2M.cx k) Tryz.f232 (a0,a1)
theorem z2M.f_eq (a0 a1:Ty.D bc):z2M.f k a0 a1=bnd (z0i.f k a0 a1) fun r0=>some r0:=by kernel_rfl
def z2M.e:=Sg.entry z2M.sg fun x=>z2M.f k x.1 x.2
theorem z2M.ok:CallOK Tryz.prog 232 (z2M.e k):=GW (z2M.cx k) Tryz.func232 ⟨z0i.ok k,z1C.ok k,trivial⟩
def z28.cx:=co (rg 0 [⟨[2,3,4],[2,3,4],[0,1],[],0,[],[],[0,1],[],[],[],[]⟩,⟨[2,3,4,5],[2,3,4,11],[6],[],0,[],[],[2,3],[],[],[],[]⟩,rx [2,3,4,5] [2,3,4,11] [0,1] [0] 0 [] [],⟨[4],[4],[7],[],0,[],[],[2,3,5,4],[],[],[],[]⟩]) [(231,z0d.e k),(199,(qV ah 178 aP)),(178,z1d.e k),(232,z2M.e k),(183,z2s.e k)] k
abbrev z28.sg:Sg:=⟨[.dat bp,.dat bp],[],.dat bp,[]⟩
def z28.f (a0 a1:Ty.D bp):=fo z28.sg (z28.cx k) Tryz.f185 (a0,a1)
theorem z28.f_eq (a0 a1:Ty.D bp):z28.f k a0 a1=bnd (z0d.f k (a0.2::(a1.2::[]))) fun r0=>br (bm ([]:List Int) r0) (bnd (z2M.f k a0.1 a1.1) fun r1=>bnd (z2s.f k r1 (fH aP r0)) fun r2=>some r2) none:=by kernel_rfl
def z28.e:=Sg.entry z28.sg fun x=>z28.f k x.1 x.2
theorem z28.ok:CallOK Tryz.prog 185 (z28.e k):=GW (z28.cx k) Tryz.func185 ⟨z0d.ok k,pH,z1d.ok k,z2M.ok k,z2s.ok k,trivial⟩
def z2d.cx:=co (rg 0 [rv [1,2,4] [2,4] [0],⟨[2,4],[2,4],[6],[],5,[],[],[],[[],[],[],[],[1],[1],[1]],[],[],[]⟩,rv [4] [4] [1]]) [(133,z34.e k),(185,z28.e k)] k
abbrev z2d.sg:Sg:=⟨[.dat aI,.dat (.slc ah)],[],.dat aI,[]⟩
def z2d.f (a0:Ty.D aI) (a1:Ty.D (.slc ah)):=fo z2d.sg (z2d.cx k) Tryz.f114 (a0,a1)
theorem z2d.f_eq (a0:Ty.D aI) (a1:Ty.D (.slc ah)):z2d.f k a0 a1=bnd (z34.f k a1) fun r0=>bnd (z28.f k a0.2.2.2.1 r0) fun r1=>some (a0.1,(a0.2.1,(a0.2.2.1,(r1,a0.2.2.2.2)))):=by kernel_rfl
def z2d.e:=Sg.entry z2d.sg fun x=>z2d.f k x.1 x.2
theorem z2d.ok:CallOK Tryz.prog 114 (z2d.e k):=GW (z2d.cx k) Tryz.func114 ⟨z34.ok k,z28.ok k,trivial⟩
def z0T.cx:=co (rg 0 [rv [2,3,4] [2,3,4] [0,1],ri [2,3,4,8,9,10] [2,3,4],rh [2,3,4,8,9,10,11] [2,3,4] [2,3,4,8,9,10] [2,3,4],rv [2,3,4,6,8,9,10] [2,3,4,6] [3],rv [2,3,4,8,9,10] [2,3,4] [3],ri [2,3,4,8,9,10] [2,3,4],⟨[4],[4],[7],[],7,[],[],[],[[],[],[],[0,2],[],[],[0,2,5],[0,2,5]],[],[],[]⟩]) [(57,z2f.e k),(58,z19.e k),(114,z2d.e k)] k
abbrev z0T.sg:Sg:=⟨[.dat aI,.dat bI],[],.dat aI,[]⟩
def z0T.f (a0:Ty.D aI) (a1:Ty.D bI):=fo z0T.sg (z0T.cx k) Tryz.f60 (a0,a1)
def z0T.l2 (n:Nat) (x8:Ty.D (.slc aJ)) (x9 x10:DJ) (m2:Ty.D aI) (m3:Ty.D bI) (m4a:List (Ty.D aJ)) (m4ba:List (Ty.D ak)) (m4bbaa:Ty.D bc) (m4bbab:List (Ty.D ah)) (m4bbbaa:Ty.D bc) (m4bbbab:List (Ty.D ah)) (m4bbbb:Ty.D (.arr 8 (.slc ah))):=lo z0T.sg (z0T.cx k) Tryz.f60 [1,0,1,0] 2 [2,3,4,8,9,10] [2,3,4] [] n ⟨[(2,.ref 2 []),(3,.ref 3 []),(4,.ref 4 []),(8,.dat (.slc aJ) x8),(9,.dat J x9),(10,.dat J x10)],[(2,.dat aI m2),(3,.dat bI m3),(4,.pr (.own aJ m4a) (.pr (.own ak m4ba) (.pr (.pr (.dat bc m4bbaa) (.own ah m4bbab)) (.pr (.pr (.dat bc m4bbbaa) (.own ah m4bbbab)) (.dat (.arr 8 (.slc ah)) m4bbbb)))))]⟩
theorem z0T.f_eq (a0:Ty.D aI) (a1:Ty.D bI):z0T.f k a0 a1=z0T.l2 k k a1.1 (af a1.1) 0 a0 a1 [] [] (aV 16 0) [] (aV 16 0) [] (aV 8 []):=by kernel_rfl
theorem z0T.l2_eq (n2:Nat) (x8:Ty.D (.slc aJ)) (x9 x10:DJ) (m2:Ty.D aI) (m3:Ty.D bI) (m4a:List (Ty.D aJ)) (m4ba:List (Ty.D ak)) (m4bbaa:Ty.D bc) (m4bbab:List (Ty.D ah)) (m4bbbaa:Ty.D bc) (m4bbbab:List (Ty.D ah)) (m4bbbb:Ty.D (.arr 8 (.slc ah))):z0T.l2 k (n2+1) x8 x9 x10 m2 m3 m4a m4ba m4bbaa m4bbab m4bbbaa m4bbbab m4bbbb=br (aq x10 x9) (br (bO x10 x8) (bnd (z2f.f k m2 (rd aJ x8 (aj x10))) fun r0=>z0T.l2 k n2 x8 x9 (aH .i64 x10 1) r0 m3 m4a m4ba m4bbaa m4bbab m4bbbaa m4bbbab m4bbbb) none) (bnd (z19.f k m2 m3.2.1) fun r1=>bnd (z2d.f k r1 m3.2.2) fun r2=>some r2):=by kernel_rfl
def z0T.e:=Sg.entry z0T.sg fun x=>z0T.f k x.1 x.2
theorem z0T.ok:CallOK Tryz.prog 60 (z0T.e k):=GW (z0T.cx k) Tryz.func60 ⟨z2f.ok k,z19.ok k,z2d.ok k,trivial⟩
def z1v.cx:=co (rg 0 [rv [1,2] [1,2] [0],rv [1,2] [1,2] [4],rv [1,2] [1,2] [4],rv [1,2] [1,2] [6],rv [1,2] [1,2] [6],ri [1,2,26,27] [1,2],rh [1,2,26,27,28] [1,2] [1,2,26,27] [1,2],rv [1,2,3,4,26,27] [1,2] [3],rv [1,2,26,27] [1,2] [5],ri [1,2,26,27] [1,2],rv [2] [2] [1]]) [(115,(iX aJ)),(116,(iX ak)),(113,(iX ah))] k
abbrev z1v.sg:Sg:=⟨[.dat aI],[],.dat aI,[]⟩
def z1v.f (a0:Ty.D aI):=fo z1v.sg (z1v.cx k) Tryz.f61 a0
def z1v.l6 (n:Nat) (x26:Ty.D (.arr 8 (.slc ah))) (x27:DJ) (m1a:List (Ty.D aJ)) (m1ba:List (Ty.D ak)) (m1bbaa:Ty.D bc) (m1bbab:List (Ty.D ah)) (m1bbbaa:Ty.D bc) (m1bbbab:List (Ty.D ah)) (m1bbbb:Ty.D (.arr 8 (.slc ah))) (m2a:List (Ty.D aJ)) (m2ba:List (Ty.D ak)) (m2bbaa:Ty.D bc) (m2bbab:List (Ty.D ah)) (m2bbbaa:Ty.D bc) (m2bbbab:List (Ty.D ah)) (m2bbbb:Ty.D (.arr 8 (.slc ah))):=lo z1v.sg (z1v.cx k) Tryz.f61 [1,1,1,1,1,0,1,0] 6 [1,2,26,27] [1,2] [] n ⟨[(1,.ref 1 []),(2,.ref 2 []),(26,.dat (.arr 8 (.slc ah)) x26),(27,.dat J x27)],[(1,.pr (.own aJ m1a) (.pr (.own ak m1ba) (.pr (.pr (.dat bc m1bbaa) (.own ah m1bbab)) (.pr (.pr (.dat bc m1bbbaa) (.own ah m1bbbab)) (.dat (.arr 8 (.slc ah)) m1bbbb))))),(2,.pr (.own aJ m2a) (.pr (.own ak m2ba) (.pr (.pr (.dat bc m2bbaa) (.own ah m2bbab)) (.pr (.pr (.dat bc m2bbbaa) (.own ah m2bbbab)) (.dat (.arr 8 (.slc ah)) m2bbbb)))))]⟩
theorem z1v.f_eq (a0:Ty.D aI):z1v.f k a0=br (bm ([]:List Int) a0.1) (br (bm ([]:List Int) a0.2.1) (br (bm ([]:List Int) a0.2.2.1.2) (br (bm ([]:List Int) a0.2.2.2.1.2) (z1v.l6 k k a0.2.2.2.2 0 a0.1 a0.2.1 a0.2.2.1.1 a0.2.2.1.2 a0.2.2.2.1.1 a0.2.2.2.1.2 a0.2.2.2.2 [] [] (aV 16 0) [] (aV 16 0) [] (aV 8 [])) none) none) none) none:=by kernel_rfl
theorem z1v.l6_eq (n6:Nat) (x26:Ty.D (.arr 8 (.slc ah))) (x27:DJ) (m1a:List (Ty.D aJ)) (m1ba:List (Ty.D ak)) (m1bbaa:Ty.D bc) (m1bbab:List (Ty.D ah)) (m1bbbaa:Ty.D bc) (m1bbbab:List (Ty.D ah)) (m1bbbb:Ty.D (.arr 8 (.slc ah))) (m2a:List (Ty.D aJ)) (m2ba:List (Ty.D ak)) (m2bbaa:Ty.D bc) (m2bbab:List (Ty.D ah)) (m2bbbaa:Ty.D bc) (m2bbbab:List (Ty.D ah)) (m2bbbb:Ty.D (.arr 8 (.slc ah))):z1v.l6 k (n6+1) x26 x27 m1a m1ba m1bbaa m1bbab m1bbbaa m1bbbab m1bbbb m2a m2ba m2bbaa m2bbab m2bbbaa m2bbbab m2bbbb=br (aq x27 8) (br (gh x27 8) (br (bm ([]:List Int) (rd (.slc ah) x26 (aj x27))) (br (gh x27 8) (z1v.l6 k n6 x26 (aH .i64 x27 1) m1a m1ba m1bbaa m1bbab m1bbbaa m1bbbab (ja m1bbbb (aj x27) (rd (.slc ah) x26 (aj x27))) m2a m2ba m2bbaa m2bbab m2bbbaa m2bbbab m2bbbb) none) none) none) (some (m1a,(m1ba,((m1bbaa,m1bbab),((m1bbbaa,m1bbbab),m1bbbb))))):=by kernel_rfl
def z1v.e:=Sg.entry z1v.sg fun x=>z1v.f k x
theorem z1v.ok:CallOK Tryz.prog 61 (z1v.e k):=GW (z1v.cx k) Tryz.func61 ⟨tZ,rp,mD,trivial⟩
def z1p.cx:=co (rg 0 [rv [2,3,4] [2,3,4] [0,1],ri [2,3,4,6] [2,3,4],ri [2,3,4,6,7] [2,3,4],rv [2,3,4] [2,3,4] [4],ri [2,4] [2,4],ri [2,3,4,6,18] [2,3,4],rv [2,3,4] [2,3,4] [5],⟨[2,4],[2,4],[11],[],12,[],[],[],[[],[],[],[],[],[3],[3],[],[6,3,7],[],[1,3,6,7],[1,3,6,7]],[],[],[]⟩,ri [2,3,4,6,36] [2,3,4],rv [4] [4] [4],ri [2,3,4,42] [2,3,4],rv [4] [4] [3],rv [4] [4] [1]]) [(57,z2f.e k),(58,z19.e k),(59,z1z.e k),(60,z0T.e k),(61,z1v.e k)] k
abbrev z1p.sg:Sg:=⟨[.dat aI,.dat b7],[],.dat aI,[]⟩
def z1p.f (a0:Ty.D aI) (a1:Ty.D b7):=fo z1p.sg (z1p.cx k) Tryz.f22 (a0,a1)
theorem z1p.f_eq (a0:Ty.D aI) (a1:Ty.D b7):z1p.f k a0 a1=br (az a1.1 1) (bnd (z2f.f k a0 a1.2.1) fun r0=>br (gh a1.2.1.2.1 8) (some (r0.1,(r0.2.1,(r0.2.2.1,(r0.2.2.2.1,(ja r0.2.2.2.2 (aj a1.2.1.2.1) [])))))) none) (br (az a1.1 2) (bnd (z19.f k a0 (a1.2.2.2.1::[])) fun r1=>br (gh a1.2.2.1 8) (bnd (z1z.f k (rd (.slc ah) r1.2.2.2.2 (aj a1.2.2.1)) a1) fun r2=>br (gh a1.2.2.1 8) (some (r1.1,(r1.2.1,(r1.2.2.1,(r1.2.2.2.1,(ja r1.2.2.2.2 (aj a1.2.2.1) r2)))))) none) none) (br (az a1.1 3) (bnd (z0T.f k a0 a1.2.2.2.2.2.1) fun r3=>some r3) (br (az a1.1 4) (bnd (z1v.f k a1.2.2.2.2.2.2) fun r4=>some r4) (some a0)))):=by kernel_rfl
def z1p.e:=Sg.entry z1p.sg fun x=>z1p.f k x.1 x.2
theorem z1p.ok:CallOK Tryz.prog 22 (z1p.e k):=GW (z1p.cx k) Tryz.func22 ⟨z2f.ok k,z19.ok k,z1z.ok k,z0T.ok k,z1v.ok k,trivial⟩
def z2z.cx:=co (rg 0 [ri [0] [],ri [2] []]) [(104,ek)] k
abbrev z2z.sg:Sg:=⟨[.dat .str],[],.dat .str,[]⟩
def z2z.f (a0:Ty.D .str):=fo z2z.sg (z2z.cx k) Tryz.f78 a0
theorem z2z.f_eq (a0:Ty.D .str):z2z.f k a0=bnd (bK (af a0)) fun r0=>br (bz r0 a0) (some (app r0 a0)) none:=by kernel_rfl
def z2z.e:=Sg.entry z2z.sg fun x=>z2z.f k x
theorem z2z.ok:CallOK Tryz.prog 78 (z2z.e k):=GW (z2z.cx k) Tryz.func78 ⟨di,trivial⟩
def z1Y.cx:=co (rg 0 [ri [0] [],ri [2] []]) [(136,z3e.e k),(135,yE)] k
abbrev z1Y.sg:Sg:=⟨[.dat .str],[],.dat .str,[]⟩
def z1Y.f (a0:Ty.D .str):=fo z1Y.sg (z1Y.cx k) Tryz.f77 a0
theorem z1Y.f_eq (a0:Ty.D .str):z1Y.f k a0=bnd (z3e.f k a0) fun r0=>bnd (YtfhcammihohmjaaGreatDoor.sumBI r0) fun r1=>br (bz a0 r1) (some (app a0 r1)) none:=by kernel_rfl
def z1Y.e:=Sg.entry z1Y.sg fun x=>z1Y.f k x
theorem z1Y.ok:CallOK Tryz.prog 77 (z1Y.e k):=GW (z1Y.cx k) Tryz.func77 ⟨z3e.ok k,o8,trivial⟩
def z2Y.cx:=co (rg 0 [ri [0] [],ri [2] [5]]) [(78,z2z.e k),(77,z1Y.e k)] k
abbrev z2Y.sg:Sg:=⟨[.dat .str],[],.dat .str,[]⟩
def z2Y.f (a0:Ty.D .str):=fo z2Y.sg (z2Y.cx k) Tryz.f28 a0
theorem z2Y.f_eq (a0:Ty.D .str):z2Y.f k a0=bnd (z2z.f k a0) fun r0=>bnd (z1Y.f k r0) fun r1=>some r1:=by kernel_rfl
def z2Y.e:=Sg.entry z2Y.sg fun x=>z2Y.f k x
theorem z2Y.ok:CallOK Tryz.prog 28 (z2Y.e k):=GW (z2Y.cx k) Tryz.func28 ⟨z2z.ok k,z1Y.ok k,trivial⟩
def z0J.cx:=co (rg 0 [ri [0,2] [2],ri [0,2,5] [2,5],ri [0,2,5,6,7] [2,5],rv [2,5,6,7,8] [2,5,16] [5],ri [2,5,6,7,19,20,21] [2,5,16],rh [2,5,6,7,19,20,21,22] [2,5,16] [2,10000005,6,7,19,20,21] [2,10000005,16],ri [2,5,6,7,11,19,20,21] [2,5,16],rv [2,5,6,7,11,12,13,19,20,21] [2,5,12,16,27] [6],ri [2,5,6,7,11,12,19,20,21,31] [2,5,12,16],rv [2,5,6,7,11,19,20,21] [2,5,16] [3],ri [2,5,6,7,11,19,20,21] [2,5,16],ri [2,5,6,7,19,20,21] [2,5,16],ri [2,5,6,7,19,20,21] [2,5,16],rv [2,3,4] [2] [3]]) [(26,z1N.e k),(27,z12.e k),(22,z1p.e k),(28,z2Y.e k)] k
abbrev z0J.sg:Sg:=⟨[.dat .str],[],.t3 aI J J,[]⟩
def z0J.f (a0:Ty.D .str):=fo z0J.sg (z0J.cx k) Tryz.f7 a0
def z0J.l5 (n:Nat) (x6 x7:DJ) (x19:Ty.D (.slc .str)) (x20 x21:DJ) (m2a:List (Ty.D aJ)) (m2ba:List (Ty.D ak)) (m2bbaa:Ty.D bc) (m2bbab:List (Ty.D ah)) (m2bbbaa:Ty.D bc) (m2bbbab:List (Ty.D ah)) (m2bbbb:Ty.D (.arr 8 (.slc ah))) (m5:Ty.D aI):=lo z0J.sg (z0J.cx k) Tryz.f7 [1,1,1,1,0,1,0] 5 [2,10000005,6,7,19,20,21] [2,10000005,16] [] n ⟨[(2,.ref 2 []),(5,.ref 5 []),(6,.dat J x6),(7,.dat J x7),(19,.dat (.slc .str) x19),(20,.dat J x20),(21,.dat J x21)],[(2,.pr (.own aJ m2a) (.pr (.own ak m2ba) (.pr (.pr (.dat bc m2bbaa) (.own ah m2bbab)) (.pr (.pr (.dat bc m2bbbaa) (.own ah m2bbbab)) (.dat (.arr 8 (.slc ah)) m2bbbb))))),(5,.dat aI m5)]⟩
theorem z0J.f_eq (a0:Ty.D .str):z0J.f k a0=bnd (z1N.f k a0) fun r0=>z0J.l5 k k 0 0 r0.1 (af r0.1) 0 [] [] (aV 16 0) [] (aV 16 0) [] (aV 8 []) ([],([],(((aV 16 0),[]),(((aV 16 0),[]),(aV 8 []))))):=by kernel_rfl
theorem z0J.l5_eq (n5:Nat) (x6 x7:DJ) (x19:Ty.D (.slc .str)) (x20 x21:DJ) (m2a:List (Ty.D aJ)) (m2ba:List (Ty.D ak)) (m2bbaa:Ty.D bc) (m2bbab:List (Ty.D ah)) (m2bbbaa:Ty.D bc) (m2bbbab:List (Ty.D ah)) (m2bbbb:Ty.D (.arr 8 (.slc ah))) (m5:Ty.D aI):z0J.l5 k (n5+1) x6 x7 x19 x20 x21 m2a m2ba m2bbaa m2bbab m2bbbaa m2bbbab m2bbbb m5=br (aq x21 x20) (br (bO x21 x19) (bnd (z12.f k (rd .str x19 (aj x21))) fun r0=>br (ai (az r0.2 0)) (some (m5,x6,x7)) (bnd (z1p.f k m5 r0.1) fun r1=>bnd (z2Y.f k (rd .str x19 (aj x21))) fun r2=>z0J.l5 k n5 (aH .i64 x6 1) (aH .i64 x7 (af r2)) x19 x20 (aH .i64 x21 1) m2a m2ba m2bbaa m2bbab m2bbbaa m2bbbab m2bbbb r1)) none) (some (m5,x6,x7)):=by kernel_rfl
def z0J.e:=Sg.entry z0J.sg fun x=>z0J.f k x
theorem z0J.ok:CallOK Tryz.prog 7 (z0J.e k):=GW (z0J.cx k) Tryz.func7 ⟨z1N.ok k,z12.ok k,z1p.ok k,z2Y.ok k,trivial⟩
def z0z.cx:=co (rg 0 [ri [0] [1000000,1000000],ri [0,11] [1000000,1000000],ri [2] [1000000],ri [0,3,4] [1000000,1000000],ri [0,3,4,5] [1000000,1000000],rh [0,3,4,5,13] [1000000,1000000] [0,3,4,5] [1000000,1000000],ri [0,3,4,5] [1000000,1000000],rq [0,3,4,5,27] [1000000,1000000] 12,ri [] [1000000],ri [2] [1000000],rq [0,3,4,5,6] [1000000,1000000] 12,ri [0,3,4,5,6,44] [1000000,1000000],ri [0,3,4,5,6,50] [1000000,1000000],ri [] [1000000],ri [2] [1000000],ri [3,4,6] [1000000],ri [2] [1000000],ri [0,3,4,5] [1000000,1000000],ri [0,3,4,5] [1000000,1000000],ri [] [1000000],ri [2] [1000000]]) [] k
abbrev z0z.sg:Sg:=⟨[.ref],[aN],.dat J,[aN]⟩
def z0z.f (o0:Ty.D aN):=fo z0z.sg (z0z.cx k) Tryz.f79 o0
def z0z.l5 (n:Nat) (x3 x4 x5:DJ) (m1000000:Ty.D aN):=lo z0z.sg (z0z.cx k) Tryz.f79 [1,1,1,0,1,0] 5 [0,3,4,5] [1000000,1000000] [] n ⟨[(0,.ref 1000000 []),(3,.dat J x3),(4,.dat J x4),(5,.dat J x5)],[(1000000,.dat aN m1000000)]⟩
theorem z0z.f_eq (o0:Ty.D aN):z0z.f k o0=br (ai (az o0.2.2 0)) (some (0,o0)) (z0z.l5 k k 0 1 0 o0):=by kernel_rfl
theorem z0z.l5_eq (n5:Nat) (x3 x4 x5:DJ) (m1000000:Ty.D aN):z0z.l5 k (n5+1) x3 x4 x5 m1000000=br (aq x5 8) (br (bM (af m1000000.1) (aH .i64 m1000000.2.1 x5)) (some (0,(m1000000.1,(m1000000.2.1,4)))) (br (bO (aH .i64 m1000000.2.1 x5) m1000000.1) (br (aq (bj .i64 (bd m1000000.1 (aH .i64 m1000000.2.1 x5))) 128) (br (az (bj .i64 (bd m1000000.1 (aH .i64 m1000000.2.1 x5))) 0) (br (aq 0 x5) (some (0,(m1000000.1,(m1000000.2.1,3)))) (some ((aH .i64 x3 (gB .i64 (bj .i64 (bd m1000000.1 (aH .i64 m1000000.2.1 x5))) x4)),(m1000000.1,((aH .i64 (aH .i64 m1000000.2.1 x5) 1),m1000000.2.2))))) (some ((aH .i64 x3 (gB .i64 (bj .i64 (bd m1000000.1 (aH .i64 m1000000.2.1 x5))) x4)),(m1000000.1,((aH .i64 (aH .i64 m1000000.2.1 x5) 1),m1000000.2.2))))) (z0z.l5 k n5 (aH .i64 x3 (gB .i64 (bw .i64 (bj .i64 (bd m1000000.1 (aH .i64 m1000000.2.1 x5))) 128) x4)) (gB .i64 x4 128) (aH .i64 x5 1) m1000000)) none)) (some (0,(m1000000.1,(m1000000.2.1,6)))):=by kernel_rfl
def z0z.e:=Sg.entry z0z.sg fun x=>z0z.f k x
def z2c.cx:=co (rg 0 [ri [0,1] [],ri [1,5] [],ri [1,5,6] [],rh [1,5,6,14] [] [1,5,6] [],ri [1,5,6] [],ri [1,5,6] [],ri [1,5,6,7] [],rh [1,5,6,7,24] [] [1,5,6,7] [],ri [1,5,6,7] [],ri [1,5,6,7,8] [],ri [1,5,6,7,8] [],ri [1,5,6,7,32] [],ri [1,5,6,7] [],ri [4] []]) [] k
abbrev z2c.sg:Sg:=⟨[.dat (.int .u32),.dat .str],[],.dat (.int .u32),[]⟩
def z2c.f (a0:Ty.D (.int .u32)) (a1:Ty.D .str):=fo z2c.sg (z2c.cx k) Tryz.f137 (a0,a1)
def z2c.l3 (n:Nat) (x1:Ty.D .str) (x5:Ty.D (.int .u32)) (x6:DJ):=lo z2c.sg (z2c.cx k) Tryz.f137 [1,1,0,1,0] 3 [1,5,6] [] [] n ⟨[(1,.dat .str x1),(5,.dat (.int .u32) x5),(6,.dat J x6)],[]⟩
def z2c.l7 (n3 n:Nat) (x1:Ty.D .str) (x5:Ty.D (.int .u32)) (x6 x7:DJ):=lo z2c.sg (z2c.cx k) Tryz.f137 [1,1,0,1,0,0,1,0,0,1,1,0] 7 [1,5,6,7] [] [n3] n ⟨[(1,.dat .str x1),(5,.dat (.int .u32) x5),(6,.dat J x6),(7,.dat J x7)],[]⟩
theorem z2c.f_eq (a0:Ty.D (.int .u32)) (a1:Ty.D .str):z2c.f k a0 a1=z2c.l3 k k a1 (fP .u32 a0 4294967295) 0:=by kernel_rfl
theorem z2c.l3_eq (n3:Nat) (x1:Ty.D .str) (x5:Ty.D (.int .u32)) (x6:DJ):z2c.l3 k (n3+1) x1 x5 x6=br (aq x6 (af x1)) (br (bO x6 x1) (z2c.l7 k n3 k x1 (fP .u32 x5 (bj .u32 (bd x1 x6))) x6 0) none) (some (fP .u32 x5 4294967295)):=by kernel_rfl
theorem z2c.l7_eq (n3 n7:Nat) (x1:Ty.D .str) (x5:Ty.D (.int .u32)) (x6 x7:DJ):z2c.l7 k n3 (n7+1) x1 x5 x6 x7=br (aq x7 8) (br (az (As x5 2) 1) (z2c.l7 k n3 n7 x1 (fP .u32 (pG .u32 x5 2) 3988292384) x6 (aH .i64 x7 1)) (z2c.l7 k n3 n7 x1 (pG .u32 x5 2) x6 (aH .i64 x7 1))) (z2c.l3 k n3 x1 x5 (aH .i64 x6 1)):=by kernel_rfl
def z2c.e:=Sg.entry z2c.sg fun x=>z2c.f k x.1 x.2
def z2N.cx:=co (rg 0 [ri [0] [],ri [2] [4]]) [(137,z2c.e k)] k
abbrev z2N.sg:Sg:=⟨[.dat .str],[],.dat (.int .u32),[]⟩
def z2N.f (a0:Ty.D .str):=fo z2N.sg (z2N.cx k) Tryz.f81 a0
theorem z2N.f_eq (a0:Ty.D .str):z2N.f k a0=bnd (z2c.f k 0 a0) fun r0=>some r0:=by kernel_rfl
def z2N.e:=Sg.entry z2N.sg fun x=>z2N.f k x
def z2h.cx:=co (rg 0 [ri [0] [],ri [0,5] [10],ri [0,5,6] [10,12],ri [0,5,6,17] [10,12],rq [2,3,4] [] 6,ri [0,5,6,23] [10,12],ri [2,3,4] [],ri [0,5,6,33] [10,12],ri [2,3,4] [],ri [0,5,7] [10],rq [0,5,7,50] [10] 11,ri [2,3,4] [],rq [2,3,4] [] 12]) [(79,z0z.e k),(81,z2N.e k),(80,yE)] k
abbrev z2h.sg:Sg:=⟨[.dat .str],[],.t3 .str .str J,[]⟩
def z2h.f (a0:Ty.D .str):=fo z2h.sg (z2h.cx k) Tryz.f29 a0
theorem z2h.f_eq (a0:Ty.D .str):z2h.f k a0=bnd (z0z.f k (a0,(0,0))) fun r0=>br (ai (az r0.2.2.2 0)) (some ([],[],r0.2.2.2)) (br (aq 1048576 r0.1) (some ([],[],6)) (br (aq (bw .i64 (bw .i64 (af a0) r0.2.2.1) 4) r0.1) (some ([],[],4)) (br (eE 0 (aH .i64 r0.2.2.1 r0.1) (af a0)) (bnd (z2N.f k (ba a0 0 (aH .i64 r0.2.2.1 r0.1))) fun r1=>bnd (YtfhcammihohmjaaGreatDoor.sumBI r1) fun r2=>br (eE (aH .i64 r0.2.2.1 r0.1) (aH .i64 (aH .i64 r0.2.2.1 r0.1) 4) (af a0)) (br (ai (seq r2 (ba a0 (aH .i64 r0.2.2.1 r0.1) (aH .i64 (aH .i64 r0.2.2.1 r0.1) 4)))) (some ([],[],5)) (br (eE r0.2.2.1 (aH .i64 r0.2.2.1 r0.1) (af a0)) (br (eE (aH .i64 (aH .i64 r0.2.2.1 r0.1) 4) (af a0) (af a0)) (some ((ba a0 r0.2.2.1 (aH .i64 r0.2.2.1 r0.1)),(ba a0 (aH .i64 (aH .i64 r0.2.2.1 r0.1) 4) (af a0)),0)) none) none)) none) none))):=by kernel_rfl
def z15.cx:=co (rg 0 [ri [1] [1],ri [2] []]) [] k
abbrev z15.sg:Sg:=⟨[.dat ah],[],.dat .bool,[]⟩
def z15.f (a0:Ty.D ah):=fo z15.sg (z15.cx k) Tryz.f40 a0
theorem z15.f_eq (a0:Ty.D ah):z15.f k a0=br (bM 0 a0.1) (br (bM a0.1 15) (br (bM 1 a0.2) (some (bM a0.2 1048576)) (some false)) (some false)) (some false):=by kernel_rfl
def z15.e:=Sg.entry z15.sg fun x=>z15.f k x
theorem z15.ok:CallOK Tryz.prog 40 (z15.e k):=GW (z15.cx k) Tryz.func40 trivial
@[reducible] def ref04_Read.sg:Sg:=⟨[.ref],[aN],.dat ah,[aN]⟩
@[reducible] def ref02_Reader_Fail.sg:Sg:=⟨[.ref,.dat (.int .i64)],[aN],.unit,[aN]⟩
@[reducible] def ref02_Reader_Many.sg:Sg:=⟨[.ref,.dat (.int .i64)],[aN],.dat (.int .i64),[aN]⟩
@[reducible] def ref02_Reader_Text.sg:Sg:=⟨[.ref],[aN],.dat .str,[aN]⟩
def z1V.cx:=co (rg 0 [ri [0] [],ri [0,10] [],ri [2,3] [],ri [0,4] [],ri [0,4] [],ri [2,3] [],ri [0,4,14] [],ri [2,3] [],ri [0,4,18] [],ri [0,4,5,6] [],ri [0,4,27] [],ri [0,4,5,6] [],ri [0,4,36] [],ri [0,4,5,6] [],ri [0,4,5,6,48] [],ri [2,3] [],ri [0,4,5,6,7] [],rh [0,4,5,6,7,51] [] [0,4,5,6,7] [],ri [0,4,5,6,7] [],ri [0,4,5,6,7,63] [],ri [2,3] [],ri [0,4,5,6,7] [],ri [4,5,86] [],ri [2,3] [],ri [2,3] []]) [] k
abbrev z1V.sg:Sg:=⟨[.dat .str],[],.t2 (.dat J) (.dat J),[]⟩
def z1V.f (a0:Ty.D .str):=fo z1V.sg (z1V.cx k) Tryz.f246 a0
def z1V.l17 (n:Nat) (x0:Ty.D .str) (x4 x5 x6 x7:DJ):=lo z1V.sg (z1V.cx k) Tryz.f246 [1,1,1,1,1,1,0,1,0] 17 [0,4,5,6,7] [] [] n ⟨[(0,.dat .str x0),(4,.dat J x4),(5,.dat J x5),(6,.dat J x6),(7,.dat J x7)],[]⟩
theorem z1V.f_eq (a0:Ty.D .str):z1V.f k a0=br (az (af a0) 0) (some (0,0)) (br (bO 0 a0) (br (aq (bj .i64 (bd a0 0)) 128) (some ((bj .i64 (bd a0 0)),1)) (br (bM 194 (bj .i64 (bd a0 0))) (br (aq (bj .i64 (bd a0 0)) 224) (br (aq (af a0) 2) (some (0,0)) (z1V.l17 k k a0 (bw .i64 (bj .i64 (bd a0 0)) 192) 2 128 1)) (br (bM 224 (bj .i64 (bd a0 0))) (br (aq (bj .i64 (bd a0 0)) 240) (br (aq (af a0) 3) (some (0,0)) (z1V.l17 k k a0 (bw .i64 (bj .i64 (bd a0 0)) 224) 3 2048 1)) (br (bM 240 (bj .i64 (bd a0 0))) (br (aq (bj .i64 (bd a0 0)) 245) (br (aq (af a0) 4) (some (0,0)) (z1V.l17 k k a0 (bw .i64 (bj .i64 (bd a0 0)) 240) 4 65536 1)) (some (0,0))) (some (0,0)))) (br (bM 240 (bj .i64 (bd a0 0))) (br (aq (bj .i64 (bd a0 0)) 245) (br (aq (af a0) 4) (some (0,0)) (z1V.l17 k k a0 (bw .i64 (bj .i64 (bd a0 0)) 240) 4 65536 1)) (some (0,0))) (some (0,0))))) (br (bM 224 (bj .i64 (bd a0 0))) (br (aq (bj .i64 (bd a0 0)) 240) (br (aq (af a0) 3) (some (0,0)) (z1V.l17 k k a0 (bw .i64 (bj .i64 (bd a0 0)) 224) 3 2048 1)) (br (bM 240 (bj .i64 (bd a0 0))) (br (aq (bj .i64 (bd a0 0)) 245) (br (aq (af a0) 4) (some (0,0)) (z1V.l17 k k a0 (bw .i64 (bj .i64 (bd a0 0)) 240) 4 65536 1)) (some (0,0))) (some (0,0)))) (br (bM 240 (bj .i64 (bd a0 0))) (br (aq (bj .i64 (bd a0 0)) 245) (br (aq (af a0) 4) (some (0,0)) (z1V.l17 k k a0 (bw .i64 (bj .i64 (bd a0 0)) 240) 4 65536 1)) (some (0,0))) (some (0,0)))))) none):=by kernel_rfl
theorem z1V.l17_eq (n17:Nat) (x0:Ty.D .str) (x4 x5 x6 x7:DJ):z1V.l17 k (n17+1) x0 x4 x5 x6 x7=br (aq x7 x5) (br (bO x7 x0) (br (aq (bd x0 x7) 128) (some (0,0)) (br (bO x7 x0) (br (aq 191 (bd x0 x7)) (some (0,0)) (br (bO x7 x0) (z1V.l17 k n17 x0 (bw .i64 (aH .i64 (gB .i64 64 x4) (bj .i64 (bd x0 x7))) 128) x5 x6 (aH .i64 x7 1)) none)) none)) none) (br (aq x4 x6) (some (0,0)) (br (aq 1114111 x4) (some (0,0)) (br (bM 55296 x4) (br (bM x4 57343) (some (0,0)) (some (x4,x5))) (some (x4,x5))))):=by kernel_rfl
def z1V.e:=Sg.entry z1V.sg fun x=>z1V.f k x
theorem z1V.ok:CallOK Tryz.prog 246 (z1V.e k):=GW (z1V.cx k) Tryz.func246 trivial
def z1A.cx:=co (rg 0 [ri [0] [],ri [0,4] [],ri [0,4,5] [],rh [0,4,5,11] [] [0,4,5] [],ri [0,4,5,6,7] [16],ri [0,4,5,6,7,20] [16],ri [2,3] [],rv [0,4,5,7] [16] [0,3,4],ri [0,4,5] [],rv [2,3] [] [0,1]]) [(246,z1V.e k)] k
abbrev z1A.sg:Sg:=⟨[.dat .str],[],.t2 (.dat (.slc J)) (.dat .bool),[]⟩
def z1A.f (a0:Ty.D .str):=fo z1A.sg (z1A.cx k) Tryz.f208 a0
def z1A.l3 (n:Nat) (x0:Ty.D .str) (x4:List (DJ)) (x5:DJ):=lo z1A.sg (z1A.cx k) Tryz.f208 [1,1,0,1,0] 3 [0,4,5] [] [] n ⟨[(0,.dat .str x0),(4,.own J x4),(5,.dat J x5)],[]⟩
theorem z1A.f_eq (a0:Ty.D .str):z1A.f k a0=z1A.l3 k k a0 [] 0:=by kernel_rfl
theorem z1A.l3_eq (n3:Nat) (x0:Ty.D .str) (x4:List (DJ)) (x5:DJ):z1A.l3 k (n3+1) x0 x4 x5=br (aq x5 (af x0)) (br (eE x5 (af x0) (af x0)) (bnd (z1V.f k (ba x0 x5 (af x0))) fun r0=>br (az r0.2 0) (some ([],false)) (br (bm x4 (r0.1::[])) (z1A.l3 k n3 x0 (app x4 (r0.1::[])) (aH .i64 x5 r0.2)) none)) none) (some (x4,true)):=by kernel_rfl
def z1A.e:=Sg.entry z1A.sg fun x=>z1A.f k x
theorem z1A.ok:CallOK Tryz.prog 208 (z1A.e k):=GW (z1A.cx k) Tryz.func208 ⟨z1V.ok k,trivial⟩
def z2m.cx:=co (rg 0 [ri [0] [],ri [2] []]) [] k
abbrev z2m.sg:Sg:=⟨[.dat J],[],.dat .bool,[]⟩
def z2m.f (a0:DJ):=fo z2m.sg (z2m.cx k) Tryz.f245 a0
theorem z2m.f_eq (a0:DJ):z2m.f k a0=br (bM 32 a0) (br (aq a0 127) (some (ai (az a0 65533))) (br (aq 159 a0) (some (ai (az a0 65533))) (some false))) (some false):=by kernel_rfl
def z2m.e:=Sg.entry z2m.sg fun x=>z2m.f k x
theorem z2m.ok:CallOK Tryz.prog 245 (z2m.e k):=GW (z2m.cx k) Tryz.func245 trivial
def z1t.cx:=co (rg 0 [ri [0] [],rv [3,4] [8] [5],ri [3,4,5] [8],rh [3,4,5,14] [8] [3,4,5] [8],ri [3,4,5] [8],ri [3,4,5,22] [8],ri [2] [8],ri [2] [8]]) [(208,z1A.e k),(245,z2m.e k)] k
abbrev z1t.sg:Sg:=⟨[.dat .str],[],.dat .bool,[]⟩
def z1t.f (a0:Ty.D .str):=fo z1t.sg (z1t.cx k) Tryz.f207 a0
def z1t.l3 (n:Nat) (x3:Ty.D (.slc (.int .i64))) (x4:Ty.D .bool) (x5:DJ):=lo z1t.sg (z1t.cx k) Tryz.f207 [1,1,0,1,0] 3 [3,4,5] [8] [] n ⟨[(3,.dat (.slc J) x3),(4,.dat .bool x4),(5,.dat J x5)],[]⟩
theorem z1t.f_eq (a0:Ty.D .str):z1t.f k a0=bnd (z1A.f k a0) fun r0=>z1t.l3 k k r0.1 r0.2 0:=by kernel_rfl
theorem z1t.l3_eq (n3:Nat) (x3:Ty.D (.slc (.int .i64))) (x4:Ty.D .bool) (x5:DJ):z1t.l3 k (n3+1) x3 x4 x5=br (aq x5 (af x3)) (br (bO x5 x3) (bnd (z2m.f k (rd (.int .i64) x3 (aj x5))) fun r0=>br (ai r0) (some false) (z1t.l3 k n3 x3 x4 (aH .i64 x5 1))) none) (br x4 (br (bM 1 (af x3)) (some (bM (af x3) 24)) (some false)) (some false)):=by kernel_rfl
def z1t.e:=Sg.entry z1t.sg fun x=>z1t.f k x
theorem z1t.ok:CallOK Tryz.prog 207 (z1t.e k):=GW (z1t.cx k) Tryz.func207 ⟨z1A.ok k,z2m.ok k,trivial⟩
def z1u.cx:=co (rg 0 [ri [0] [],ri [0,6] [],ri [2] [],ri [0,9] [],ri [2] [],ri [0,3] [],rh [0,3,13] [] [0,3] [],ri [0,3] [],ri [0,3,21] [],ri [2] [],ri [2] []]) [(207,z1t.e k)] k
abbrev z1u.sg:Sg:=⟨[.dat (.slc .str)],[],.dat J,[]⟩
def z1u.f (a0:Ty.D (.slc .str)):=fo z1u.sg (z1u.cx k) Tryz.f151 a0
def z1u.l6 (n:Nat) (x0:Ty.D (.slc .str)) (x3:DJ):=lo z1u.sg (z1u.cx k) Tryz.f151 [1,1,1,0,1,0] 6 [0,3] [] [] n ⟨[(0,.dat (.slc .str) x0),(3,.dat J x3)],[]⟩
theorem z1u.f_eq (a0:Ty.D (.slc .str)):z1u.f k a0=br (az (af a0) 0) (some 8) (br (aq 8 (af a0)) (some 9) (z1u.l6 k k a0 0)):=by kernel_rfl
theorem z1u.l6_eq (n6:Nat) (x0:Ty.D (.slc .str)) (x3:DJ):z1u.l6 k (n6+1) x0 x3=br (aq x3 (af x0)) (br (bO x3 x0) (bnd (z1t.f k (rd .str x0 (aj x3))) fun r0=>br (ai r0) (some 8) (z1u.l6 k n6 x0 (aH .i64 x3 1))) none) (some 0):=by kernel_rfl
def z1u.e:=Sg.entry z1u.sg fun x=>z1u.f k x
theorem z1u.ok:CallOK Tryz.prog 151 (z1u.e k):=GW (z1u.cx k) Tryz.func151 ⟨z1t.ok k,trivial⟩
@[reducible] def ref10_Read.sg:Sg:=⟨[.ref],[aN],.own .str,[aN]⟩
def z11.cx:=co (rg 0 [ri [0] [],ri [0,5] [],ri [2] [],ri [2] []]) [] k
abbrev z11.sg:Sg:=⟨[.dat J],[],.dat J,[]⟩
def z11.f (a0:DJ):=fo z11.sg (z11.cx k) Tryz.f202 a0
theorem z11.f_eq (a0:DJ):z11.f k a0=br (az (As a0 2) 0) (some (pG .i64 a0 2)) (some (bw .i64 (bw .i64 0 (pG .i64 a0 2)) 1)):=by kernel_rfl
def z1w.cx:=co (rg 0 [ri [1] [1],ri [1,7] [1],ri [2] [27],ri [1,23] [1],rv [1,4] [1,27] [6],ri [2] [27],ri [2] [27]]) [(208,z1A.e k)] k
abbrev z1w.sg:Sg:=⟨[.dat cC],[],.dat .bool,[]⟩
def z1w.f (a0:Ty.D cC):=fo z1w.sg (z1w.cx k) Tryz.f152 a0
theorem z1w.f_eq (a0:Ty.D cC):z1w.f k a0=br (az a0.1 1) (br (seq a0.2.2 []) (br (bM (-2147483647) a0.2.1) (some (bM a0.2.1 2147483647)) (some false)) (some false)) (br (az a0.1 2) (bnd (z1A.f k a0.2.2) fun r0=>br (az a0.2.1 0) (br r0.2 (some (bM (af a0.2.2) 64)) (some false)) (some false)) (br (az a0.1 3) (br (seq a0.2.2 []) (br (bM 0 a0.2.1) (some (bM a0.2.1 1)) (some false)) (some false)) (some false))):=by kernel_rfl
def z1w.e:=Sg.entry z1w.sg fun x=>z1w.f k x
theorem z1w.ok:CallOK Tryz.prog 152 (z1w.e k):=GW (z1w.cx k) Tryz.func152 ⟨z1A.ok k,trivial⟩
@[reducible] def ref09_Read.sg:Sg:=⟨[.ref],[aN],.dat cC,[aN]⟩
def z1R.cx:=co (rg 0 [ri [0,1] [],ri [0,1,7] [],ri [4] [],ri [10] [],ri [4] [],ri [4] []]) [] k
abbrev z1R.sg:Sg:=⟨[.dat J,.dat J],[],.dat J,[]⟩
def z1R.f (a0 a1:DJ):=fo z1R.sg (z1R.cx k) Tryz.f150 (a0,a1)
theorem z1R.f_eq (a0 a1:DJ):z1R.f k a0 a1=br (aq a0 a1) (some (-1)) (br (aq a1 a0) (some 1) (some 0)):=by kernel_rfl
def z1R.e:=Sg.entry z1R.sg fun x=>z1R.f k x.1 x.2
theorem z1R.ok:CallOK Tryz.prog 150 (z1R.e k):=GW (z1R.cx k) Tryz.func150 trivial
def z0Q.cx:=co (rg 0 [ri [2,3] [2,3],ri [2,3,9] [2,3],ri [4] [14,19],ri [4] [14,19]]) [(150,z1R.e k)] k
abbrev z0Q.sg:Sg:=⟨[.dat ah,.dat ah],[],.dat J,[]⟩
def z0Q.f (a0 a1:Ty.D ah):=fo z0Q.sg (z0Q.cx k) Tryz.f92 (a0,a1)
theorem z0Q.f_eq (a0 a1:Ty.D ah):z0Q.f k a0 a1=br (ai (az a0.1 a1.1)) (bnd (z1R.f k a0.1 a1.1) fun r0=>some r0) (bnd (z1R.f k a0.2 a1.2) fun r1=>some r1):=by kernel_rfl
def z0Q.e:=Sg.entry z0Q.sg fun x=>z0Q.f k x.1 x.2
theorem z0Q.ok:CallOK Tryz.prog 92 (z0Q.e k):=GW (z0Q.cx k) Tryz.func92 ⟨z1R.ok k,trivial⟩
def z1B.cx:=co (rg 0 [ri [2,3] [2,3],ri [2,3,10] [2,3],ri [4] [15,20],ri [4] [15,20]]) [(92,z0Q.e k),(150,z1R.e k)] k
abbrev z1B.sg:Sg:=⟨[.dat ak,.dat ak],[],.dat J,[]⟩
def z1B.f (a0 a1:Ty.D ak):=fo z1B.sg (z1B.cx k) Tryz.f209 (a0,a1)
theorem z1B.f_eq (a0 a1:Ty.D ak):z1B.f k a0 a1=bnd (z0Q.f k a0.1 a1.1) fun r0=>br (ai (az r0 0)) (bnd (z0Q.f k a0.1 a1.1) fun r1=>some r1) (bnd (z1R.f k a0.2 a1.2) fun r2=>some r2):=by kernel_rfl
def z1B.e:=Sg.entry z1B.sg fun x=>z1B.f k x.1 x.2
theorem z1B.ok:CallOK Tryz.prog 209 (z1B.e k):=GW (z1B.cx k) Tryz.func209 ⟨z0Q.ok k,z1R.ok k,trivial⟩
def z1X.cx:=co (rg 0 [ri [0] [],ri [0,3] [],rh [0,3,7] [] [0,3] [],ri [0,3] [],ri [0,3,32] [],ri [2] [],rq [0,3,47] [] 15,ri [2] [],ri [2] []]) [(40,z15.e k),(209,z1B.e k)] k
abbrev z1X.sg:Sg:=⟨[.dat (.slc ak)],[],.dat .bool,[]⟩
def z1X.f (a0:Ty.D (.slc ak)):=fo z1X.sg (z1X.cx k) Tryz.f153 a0
def z1X.l2 (n:Nat) (x0:Ty.D (.slc ak)) (x3:DJ):=lo z1X.sg (z1X.cx k) Tryz.f153 [1,0,1,0] 2 [0,3] [] [] n ⟨[(0,.dat (.slc ak) x0),(3,.dat J x3)],[]⟩
theorem z1X.f_eq (a0:Ty.D (.slc ak)):z1X.f k a0=z1X.l2 k k a0 0:=by kernel_rfl
theorem z1X.l2_eq (n2:Nat) (x0:Ty.D (.slc ak)) (x3:DJ):z1X.l2 k (n2+1) x0 x3=br (aq x3 (af x0)) (br (bO x3 x0) (bnd (z15.f k ((rd ak x0 (aj x3)).1)) fun r0=>br (ai r0) (some false) (br (bO x3 x0) (br (aq ((rd ak x0 (aj x3)).2) 0) (some false) (br (bO x3 x0) (br (aq 15 ((rd ak x0 (aj x3)).2)) (some false) (br (aq 0 x3) (br (bO (bw .i64 x3 1) x0) (br (bO x3 x0) (bnd (z1B.f k (rd ak x0 (aj (bw .i64 x3 1))) (rd ak x0 (aj x3))) fun r1=>br (ai (az r1 (-1))) (some false) (z1X.l2 k n2 x0 (aH .i64 x3 1))) none) none) (z1X.l2 k n2 x0 (aH .i64 x3 1)))) none)) none)) none) (some true):=by kernel_rfl
def z1X.e:=Sg.entry z1X.sg fun x=>z1X.f k x
theorem z1X.ok:CallOK Tryz.prog 153 (z1X.e k):=GW (z1X.cx k) Tryz.func153 ⟨z15.ok k,z1B.ok k,trivial⟩
end Go.Proofs.YtfhcammihohmjaaGreatDoor
end
noncomputable section
/- The program's functions, as plain equations. -/
namespace Go.Proofs.YtfhcammihohmjaaGreatDoor
open Pal
variable (k:Nat)
set_option maxRecDepth 100000
def z14.cx:=co (rg 0 [rv [1] [1] [0],ri [1,12] [1],ri [2] [15],ri [1,3] [1,15],ri [1,3,17] [1,15],ri [2] [15],ri [1,4] [1,4],ri [1,33] [1],ri [2] [15],ri [1,47] [1],ri [2] [15],ri [1,75] [1],ri [2] [15],ri [1,89] [1],ri [2] [15],ri [1,93] [1],ri [2] [15],ri [97] [],ri [2] [15],ri [2] [15]]) [(151,z1u.e k),(152,z1w.e k),(153,z1X.e k)] k
abbrev z14.sg:Sg:=⟨[.dat eJ],[],.dat J,[]⟩
def z14.f (a0:Ty.D eJ):=fo z14.sg (z14.cx k) Tryz.f95 a0
theorem z14.f_eq (a0:Ty.D eJ):z14.f k a0=br (aq a0.1 1) (some 18) (br (aq 5 a0.1) (some 18) (bnd (z1u.f k a0.2.1) fun r0=>br (ai (az r0 0)) (some r0) (br (az a0.1 3) (br (ai (eQ cC a0.2.2.1 (0,(0,[])))) (some 2) (br (ai (az a0.1 3)) (br (ai (az a0.1 5)) (bnd (z1w.f k a0.2.2.1) fun r1=>br (ai r1) (some 2) (br (ai (az a0.1 3)) (br (ai (az a0.2.2.2.1 0)) (some 2) (br (az a0.1 3) (br (az a0.2.2.2.1 0) (some 2) (br (aq 2147483647 a0.2.2.2.1) (some 2) (br (aq a0.2.2.2.1 (-2147483647)) (some 2) (br (az a0.1 2) (br (aq 0 (af a0.2.2.2.2)) (some 2) (br (aq 256 (af a0.2.2.2.2)) (some 7) (bnd (z1X.f k a0.2.2.2.2) fun r2=>br (ai r2) (some 2) (some 0)))) (br (az a0.1 3) (br (aq 0 (af a0.2.2.2.2)) (some 2) (br (aq 256 (af a0.2.2.2.2)) (some 7) (bnd (z1X.f k a0.2.2.2.2) fun r3=>br (ai r3) (some 2) (some 0)))) (br (aq 256 (af a0.2.2.2.2)) (some 7) (bnd (z1X.f k a0.2.2.2.2) fun r4=>br (ai r4) (some 2) (some 0)))))))) (br (az a0.1 2) (br (aq 0 (af a0.2.2.2.2)) (some 2) (br (aq 256 (af a0.2.2.2.2)) (some 7) (bnd (z1X.f k a0.2.2.2.2) fun r5=>br (ai r5) (some 2) (some 0)))) (br (az a0.1 3) (br (aq 0 (af a0.2.2.2.2)) (some 2) (br (aq 256 (af a0.2.2.2.2)) (some 7) (bnd (z1X.f k a0.2.2.2.2) fun r6=>br (ai r6) (some 2) (some 0)))) (br (aq 256 (af a0.2.2.2.2)) (some 7) (bnd (z1X.f k a0.2.2.2.2) fun r7=>br (ai r7) (some 2) (some 0))))))) (br (az a0.1 3) (br (az a0.2.2.2.1 0) (some 2) (br (aq 2147483647 a0.2.2.2.1) (some 2) (br (aq a0.2.2.2.1 (-2147483647)) (some 2) (br (az a0.1 2) (br (aq 0 (af a0.2.2.2.2)) (some 2) (br (aq 256 (af a0.2.2.2.2)) (some 7) (bnd (z1X.f k a0.2.2.2.2) fun r8=>br (ai r8) (some 2) (some 0)))) (br (az a0.1 3) (br (aq 0 (af a0.2.2.2.2)) (some 2) (br (aq 256 (af a0.2.2.2.2)) (some 7) (bnd (z1X.f k a0.2.2.2.2) fun r9=>br (ai r9) (some 2) (some 0)))) (br (aq 256 (af a0.2.2.2.2)) (some 7) (bnd (z1X.f k a0.2.2.2.2) fun r10=>br (ai r10) (some 2) (some 0)))))))) (br (az a0.1 2) (br (aq 0 (af a0.2.2.2.2)) (some 2) (br (aq 256 (af a0.2.2.2.2)) (some 7) (bnd (z1X.f k a0.2.2.2.2) fun r11=>br (ai r11) (some 2) (some 0)))) (br (az a0.1 3) (br (aq 0 (af a0.2.2.2.2)) (some 2) (br (aq 256 (af a0.2.2.2.2)) (some 7) (bnd (z1X.f k a0.2.2.2.2) fun r12=>br (ai r12) (some 2) (some 0)))) (br (aq 256 (af a0.2.2.2.2)) (some 7) (bnd (z1X.f k a0.2.2.2.2) fun r13=>br (ai r13) (some 2) (some 0)))))))) (br (ai (az a0.1 3)) (br (ai (az a0.2.2.2.1 0)) (some 2) (br (az a0.1 3) (br (az a0.2.2.2.1 0) (some 2) (br (aq 2147483647 a0.2.2.2.1) (some 2) (br (aq a0.2.2.2.1 (-2147483647)) (some 2) (br (az a0.1 2) (br (aq 0 (af a0.2.2.2.2)) (some 2) (br (aq 256 (af a0.2.2.2.2)) (some 7) (bnd (z1X.f k a0.2.2.2.2) fun r14=>br (ai r14) (some 2) (some 0)))) (br (az a0.1 3) (br (aq 0 (af a0.2.2.2.2)) (some 2) (br (aq 256 (af a0.2.2.2.2)) (some 7) (bnd (z1X.f k a0.2.2.2.2) fun r15=>br (ai r15) (some 2) (some 0)))) (br (aq 256 (af a0.2.2.2.2)) (some 7) (bnd (z1X.f k a0.2.2.2.2) fun r16=>br (ai r16) (some 2) (some 0)))))))) (br (az a0.1 2) (br (aq 0 (af a0.2.2.2.2)) (some 2) (br (aq 256 (af a0.2.2.2.2)) (some 7) (bnd (z1X.f k a0.2.2.2.2) fun r17=>br (ai r17) (some 2) (some 0)))) (br (az a0.1 3) (br (aq 0 (af a0.2.2.2.2)) (some 2) (br (aq 256 (af a0.2.2.2.2)) (some 7) (bnd (z1X.f k a0.2.2.2.2) fun r18=>br (ai r18) (some 2) (some 0)))) (br (aq 256 (af a0.2.2.2.2)) (some 7) (bnd (z1X.f k a0.2.2.2.2) fun r19=>br (ai r19) (some 2) (some 0))))))) (br (az a0.1 3) (br (az a0.2.2.2.1 0) (some 2) (br (aq 2147483647 a0.2.2.2.1) (some 2) (br (aq a0.2.2.2.1 (-2147483647)) (some 2) (br (az a0.1 2) (br (aq 0 (af a0.2.2.2.2)) (some 2) (br (aq 256 (af a0.2.2.2.2)) (some 7) (bnd (z1X.f k a0.2.2.2.2) fun r20=>br (ai r20) (some 2) (some 0)))) (br (az a0.1 3) (br (aq 0 (af a0.2.2.2.2)) (some 2) (br (aq 256 (af a0.2.2.2.2)) (some 7) (bnd (z1X.f k a0.2.2.2.2) fun r21=>br (ai r21) (some 2) (some 0)))) (br (aq 256 (af a0.2.2.2.2)) (some 7) (bnd (z1X.f k a0.2.2.2.2) fun r22=>br (ai r22) (some 2) (some 0)))))))) (br (az a0.1 2) (br (aq 0 (af a0.2.2.2.2)) (some 2) (br (aq 256 (af a0.2.2.2.2)) (some 7) (bnd (z1X.f k a0.2.2.2.2) fun r23=>br (ai r23) (some 2) (some 0)))) (br (az a0.1 3) (br (aq 0 (af a0.2.2.2.2)) (some 2) (br (aq 256 (af a0.2.2.2.2)) (some 7) (bnd (z1X.f k a0.2.2.2.2) fun r24=>br (ai r24) (some 2) (some 0)))) (br (aq 256 (af a0.2.2.2.2)) (some 7) (bnd (z1X.f k a0.2.2.2.2) fun r25=>br (ai r25) (some 2) (some 0)))))))) (br (ai (az a0.1 3)) (br (ai (az a0.2.2.2.1 0)) (some 2) (br (az a0.1 3) (br (az a0.2.2.2.1 0) (some 2) (br (aq 2147483647 a0.2.2.2.1) (some 2) (br (aq a0.2.2.2.1 (-2147483647)) (some 2) (br (az a0.1 2) (br (aq 0 (af a0.2.2.2.2)) (some 2) (br (aq 256 (af a0.2.2.2.2)) (some 7) (bnd (z1X.f k a0.2.2.2.2) fun r26=>br (ai r26) (some 2) (some 0)))) (br (az a0.1 3) (br (aq 0 (af a0.2.2.2.2)) (some 2) (br (aq 256 (af a0.2.2.2.2)) (some 7) (bnd (z1X.f k a0.2.2.2.2) fun r27=>br (ai r27) (some 2) (some 0)))) (br (aq 256 (af a0.2.2.2.2)) (some 7) (bnd (z1X.f k a0.2.2.2.2) fun r28=>br (ai r28) (some 2) (some 0)))))))) (br (az a0.1 2) (br (aq 0 (af a0.2.2.2.2)) (some 2) (br (aq 256 (af a0.2.2.2.2)) (some 7) (bnd (z1X.f k a0.2.2.2.2) fun r29=>br (ai r29) (some 2) (some 0)))) (br (az a0.1 3) (br (aq 0 (af a0.2.2.2.2)) (some 2) (br (aq 256 (af a0.2.2.2.2)) (some 7) (bnd (z1X.f k a0.2.2.2.2) fun r30=>br (ai r30) (some 2) (some 0)))) (br (aq 256 (af a0.2.2.2.2)) (some 7) (bnd (z1X.f k a0.2.2.2.2) fun r31=>br (ai r31) (some 2) (some 0))))))) (br (az a0.1 3) (br (az a0.2.2.2.1 0) (some 2) (br (aq 2147483647 a0.2.2.2.1) (some 2) (br (aq a0.2.2.2.1 (-2147483647)) (some 2) (br (az a0.1 2) (br (aq 0 (af a0.2.2.2.2)) (some 2) (br (aq 256 (af a0.2.2.2.2)) (some 7) (bnd (z1X.f k a0.2.2.2.2) fun r32=>br (ai r32) (some 2) (some 0)))) (br (az a0.1 3) (br (aq 0 (af a0.2.2.2.2)) (some 2) (br (aq 256 (af a0.2.2.2.2)) (some 7) (bnd (z1X.f k a0.2.2.2.2) fun r33=>br (ai r33) (some 2) (some 0)))) (br (aq 256 (af a0.2.2.2.2)) (some 7) (bnd (z1X.f k a0.2.2.2.2) fun r34=>br (ai r34) (some 2) (some 0)))))))) (br (az a0.1 2) (br (aq 0 (af a0.2.2.2.2)) (some 2) (br (aq 256 (af a0.2.2.2.2)) (some 7) (bnd (z1X.f k a0.2.2.2.2) fun r35=>br (ai r35) (some 2) (some 0)))) (br (az a0.1 3) (br (aq 0 (af a0.2.2.2.2)) (some 2) (br (aq 256 (af a0.2.2.2.2)) (some 7) (bnd (z1X.f k a0.2.2.2.2) fun r36=>br (ai r36) (some 2) (some 0)))) (br (aq 256 (af a0.2.2.2.2)) (some 7) (bnd (z1X.f k a0.2.2.2.2) fun r37=>br (ai r37) (some 2) (some 0))))))))) (br (az a0.1 5) (br (ai (eQ cC a0.2.2.1 (0,(0,[])))) (some 2) (br (ai (az a0.1 3)) (br (ai (az a0.1 5)) (bnd (z1w.f k a0.2.2.1) fun r38=>br (ai r38) (some 2) (br (ai (az a0.1 3)) (br (ai (az a0.2.2.2.1 0)) (some 2) (br (az a0.1 3) (br (az a0.2.2.2.1 0) (some 2) (br (aq 2147483647 a0.2.2.2.1) (some 2) (br (aq a0.2.2.2.1 (-2147483647)) (some 2) (br (az a0.1 2) (br (aq 0 (af a0.2.2.2.2)) (some 2) (br (aq 256 (af a0.2.2.2.2)) (some 7) (bnd (z1X.f k a0.2.2.2.2) fun r39=>br (ai r39) (some 2) (some 0)))) (br (az a0.1 3) (br (aq 0 (af a0.2.2.2.2)) (some 2) (br (aq 256 (af a0.2.2.2.2)) (some 7) (bnd (z1X.f k a0.2.2.2.2) fun r40=>br (ai r40) (some 2) (some 0)))) (br (aq 256 (af a0.2.2.2.2)) (some 7) (bnd (z1X.f k a0.2.2.2.2) fun r41=>br (ai r41) (some 2) (some 0)))))))) (br (az a0.1 2) (br (aq 0 (af a0.2.2.2.2)) (some 2) (br (aq 256 (af a0.2.2.2.2)) (some 7) (bnd (z1X.f k a0.2.2.2.2) fun r42=>br (ai r42) (some 2) (some 0)))) (br (az a0.1 3) (br (aq 0 (af a0.2.2.2.2)) (some 2) (br (aq 256 (af a0.2.2.2.2)) (some 7) (bnd (z1X.f k a0.2.2.2.2) fun r43=>br (ai r43) (some 2) (some 0)))) (br (aq 256 (af a0.2.2.2.2)) (some 7) (bnd (z1X.f k a0.2.2.2.2) fun r44=>br (ai r44) (some 2) (some 0))))))) (br (az a0.1 3) (br (az a0.2.2.2.1 0) (some 2) (br (aq 2147483647 a0.2.2.2.1) (some 2) (br (aq a0.2.2.2.1 (-2147483647)) (some 2) (br (az a0.1 2) (br (aq 0 (af a0.2.2.2.2)) (some 2) (br (aq 256 (af a0.2.2.2.2)) (some 7) (bnd (z1X.f k a0.2.2.2.2) fun r45=>br (ai r45) (some 2) (some 0)))) (br (az a0.1 3) (br (aq 0 (af a0.2.2.2.2)) (some 2) (br (aq 256 (af a0.2.2.2.2)) (some 7) (bnd (z1X.f k a0.2.2.2.2) fun r46=>br (ai r46) (some 2) (some 0)))) (br (aq 256 (af a0.2.2.2.2)) (some 7) (bnd (z1X.f k a0.2.2.2.2) fun r47=>br (ai r47) (some 2) (some 0)))))))) (br (az a0.1 2) (br (aq 0 (af a0.2.2.2.2)) (some 2) (br (aq 256 (af a0.2.2.2.2)) (some 7) (bnd (z1X.f k a0.2.2.2.2) fun r48=>br (ai r48) (some 2) (some 0)))) (br (az a0.1 3) (br (aq 0 (af a0.2.2.2.2)) (some 2) (br (aq 256 (af a0.2.2.2.2)) (some 7) (bnd (z1X.f k a0.2.2.2.2) fun r49=>br (ai r49) (some 2) (some 0)))) (br (aq 256 (af a0.2.2.2.2)) (some 7) (bnd (z1X.f k a0.2.2.2.2) fun r50=>br (ai r50) (some 2) (some 0)))))))) (br (ai (az a0.1 3)) (br (ai (az a0.2.2.2.1 0)) (some 2) (br (az a0.1 3) (br (az a0.2.2.2.1 0) (some 2) (br (aq 2147483647 a0.2.2.2.1) (some 2) (br (aq a0.2.2.2.1 (-2147483647)) (some 2) (br (az a0.1 2) (br (aq 0 (af a0.2.2.2.2)) (some 2) (br (aq 256 (af a0.2.2.2.2)) (some 7) (bnd (z1X.f k a0.2.2.2.2) fun r51=>br (ai r51) (some 2) (some 0)))) (br (az a0.1 3) (br (aq 0 (af a0.2.2.2.2)) (some 2) (br (aq 256 (af a0.2.2.2.2)) (some 7) (bnd (z1X.f k a0.2.2.2.2) fun r52=>br (ai r52) (some 2) (some 0)))) (br (aq 256 (af a0.2.2.2.2)) (some 7) (bnd (z1X.f k a0.2.2.2.2) fun r53=>br (ai r53) (some 2) (some 0)))))))) (br (az a0.1 2) (br (aq 0 (af a0.2.2.2.2)) (some 2) (br (aq 256 (af a0.2.2.2.2)) (some 7) (bnd (z1X.f k a0.2.2.2.2) fun r54=>br (ai r54) (some 2) (some 0)))) (br (az a0.1 3) (br (aq 0 (af a0.2.2.2.2)) (some 2) (br (aq 256 (af a0.2.2.2.2)) (some 7) (bnd (z1X.f k a0.2.2.2.2) fun r55=>br (ai r55) (some 2) (some 0)))) (br (aq 256 (af a0.2.2.2.2)) (some 7) (bnd (z1X.f k a0.2.2.2.2) fun r56=>br (ai r56) (some 2) (some 0))))))) (br (az a0.1 3) (br (az a0.2.2.2.1 0) (some 2) (br (aq 2147483647 a0.2.2.2.1) (some 2) (br (aq a0.2.2.2.1 (-2147483647)) (some 2) (br (az a0.1 2) (br (aq 0 (af a0.2.2.2.2)) (some 2) (br (aq 256 (af a0.2.2.2.2)) (some 7) (bnd (z1X.f k a0.2.2.2.2) fun r57=>br (ai r57) (some 2) (some 0)))) (br (az a0.1 3) (br (aq 0 (af a0.2.2.2.2)) (some 2) (br (aq 256 (af a0.2.2.2.2)) (some 7) (bnd (z1X.f k a0.2.2.2.2) fun r58=>br (ai r58) (some 2) (some 0)))) (br (aq 256 (af a0.2.2.2.2)) (some 7) (bnd (z1X.f k a0.2.2.2.2) fun r59=>br (ai r59) (some 2) (some 0)))))))) (br (az a0.1 2) (br (aq 0 (af a0.2.2.2.2)) (some 2) (br (aq 256 (af a0.2.2.2.2)) (some 7) (bnd (z1X.f k a0.2.2.2.2) fun r60=>br (ai r60) (some 2) (some 0)))) (br (az a0.1 3) (br (aq 0 (af a0.2.2.2.2)) (some 2) (br (aq 256 (af a0.2.2.2.2)) (some 7) (bnd (z1X.f k a0.2.2.2.2) fun r61=>br (ai r61) (some 2) (some 0)))) (br (aq 256 (af a0.2.2.2.2)) (some 7) (bnd (z1X.f k a0.2.2.2.2) fun r62=>br (ai r62) (some 2) (some 0)))))))) (br (ai (az a0.1 3)) (br (ai (az a0.2.2.2.1 0)) (some 2) (br (az a0.1 3) (br (az a0.2.2.2.1 0) (some 2) (br (aq 2147483647 a0.2.2.2.1) (some 2) (br (aq a0.2.2.2.1 (-2147483647)) (some 2) (br (az a0.1 2) (br (aq 0 (af a0.2.2.2.2)) (some 2) (br (aq 256 (af a0.2.2.2.2)) (some 7) (bnd (z1X.f k a0.2.2.2.2) fun r63=>br (ai r63) (some 2) (some 0)))) (br (az a0.1 3) (br (aq 0 (af a0.2.2.2.2)) (some 2) (br (aq 256 (af a0.2.2.2.2)) (some 7) (bnd (z1X.f k a0.2.2.2.2) fun r64=>br (ai r64) (some 2) (some 0)))) (br (aq 256 (af a0.2.2.2.2)) (some 7) (bnd (z1X.f k a0.2.2.2.2) fun r65=>br (ai r65) (some 2) (some 0)))))))) (br (az a0.1 2) (br (aq 0 (af a0.2.2.2.2)) (some 2) (br (aq 256 (af a0.2.2.2.2)) (some 7) (bnd (z1X.f k a0.2.2.2.2) fun r66=>br (ai r66) (some 2) (some 0)))) (br (az a0.1 3) (br (aq 0 (af a0.2.2.2.2)) (some 2) (br (aq 256 (af a0.2.2.2.2)) (some 7) (bnd (z1X.f k a0.2.2.2.2) fun r67=>br (ai r67) (some 2) (some 0)))) (br (aq 256 (af a0.2.2.2.2)) (some 7) (bnd (z1X.f k a0.2.2.2.2) fun r68=>br (ai r68) (some 2) (some 0))))))) (br (az a0.1 3) (br (az a0.2.2.2.1 0) (some 2) (br (aq 2147483647 a0.2.2.2.1) (some 2) (br (aq a0.2.2.2.1 (-2147483647)) (some 2) (br (az a0.1 2) (br (aq 0 (af a0.2.2.2.2)) (some 2) (br (aq 256 (af a0.2.2.2.2)) (some 7) (bnd (z1X.f k a0.2.2.2.2) fun r69=>br (ai r69) (some 2) (some 0)))) (br (az a0.1 3) (br (aq 0 (af a0.2.2.2.2)) (some 2) (br (aq 256 (af a0.2.2.2.2)) (some 7) (bnd (z1X.f k a0.2.2.2.2) fun r70=>br (ai r70) (some 2) (some 0)))) (br (aq 256 (af a0.2.2.2.2)) (some 7) (bnd (z1X.f k a0.2.2.2.2) fun r71=>br (ai r71) (some 2) (some 0)))))))) (br (az a0.1 2) (br (aq 0 (af a0.2.2.2.2)) (some 2) (br (aq 256 (af a0.2.2.2.2)) (some 7) (bnd (z1X.f k a0.2.2.2.2) fun r72=>br (ai r72) (some 2) (some 0)))) (br (az a0.1 3) (br (aq 0 (af a0.2.2.2.2)) (some 2) (br (aq 256 (af a0.2.2.2.2)) (some 7) (bnd (z1X.f k a0.2.2.2.2) fun r73=>br (ai r73) (some 2) (some 0)))) (br (aq 256 (af a0.2.2.2.2)) (some 7) (bnd (z1X.f k a0.2.2.2.2) fun r74=>br (ai r74) (some 2) (some 0))))))))) (br (ai (az a0.1 3)) (br (ai (az a0.1 5)) (bnd (z1w.f k a0.2.2.1) fun r75=>br (ai r75) (some 2) (br (ai (az a0.1 3)) (br (ai (az a0.2.2.2.1 0)) (some 2) (br (az a0.1 3) (br (az a0.2.2.2.1 0) (some 2) (br (aq 2147483647 a0.2.2.2.1) (some 2) (br (aq a0.2.2.2.1 (-2147483647)) (some 2) (br (az a0.1 2) (br (aq 0 (af a0.2.2.2.2)) (some 2) (br (aq 256 (af a0.2.2.2.2)) (some 7) (bnd (z1X.f k a0.2.2.2.2) fun r76=>br (ai r76) (some 2) (some 0)))) (br (az a0.1 3) (br (aq 0 (af a0.2.2.2.2)) (some 2) (br (aq 256 (af a0.2.2.2.2)) (some 7) (bnd (z1X.f k a0.2.2.2.2) fun r77=>br (ai r77) (some 2) (some 0)))) (br (aq 256 (af a0.2.2.2.2)) (some 7) (bnd (z1X.f k a0.2.2.2.2) fun r78=>br (ai r78) (some 2) (some 0)))))))) (br (az a0.1 2) (br (aq 0 (af a0.2.2.2.2)) (some 2) (br (aq 256 (af a0.2.2.2.2)) (some 7) (bnd (z1X.f k a0.2.2.2.2) fun r79=>br (ai r79) (some 2) (some 0)))) (br (az a0.1 3) (br (aq 0 (af a0.2.2.2.2)) (some 2) (br (aq 256 (af a0.2.2.2.2)) (some 7) (bnd (z1X.f k a0.2.2.2.2) fun r80=>br (ai r80) (some 2) (some 0)))) (br (aq 256 (af a0.2.2.2.2)) (some 7) (bnd (z1X.f k a0.2.2.2.2) fun r81=>br (ai r81) (some 2) (some 0))))))) (br (az a0.1 3) (br (az a0.2.2.2.1 0) (some 2) (br (aq 2147483647 a0.2.2.2.1) (some 2) (br (aq a0.2.2.2.1 (-2147483647)) (some 2) (br (az a0.1 2) (br (aq 0 (af a0.2.2.2.2)) (some 2) (br (aq 256 (af a0.2.2.2.2)) (some 7) (bnd (z1X.f k a0.2.2.2.2) fun r82=>br (ai r82) (some 2) (some 0)))) (br (az a0.1 3) (br (aq 0 (af a0.2.2.2.2)) (some 2) (br (aq 256 (af a0.2.2.2.2)) (some 7) (bnd (z1X.f k a0.2.2.2.2) fun r83=>br (ai r83) (some 2) (some 0)))) (br (aq 256 (af a0.2.2.2.2)) (some 7) (bnd (z1X.f k a0.2.2.2.2) fun r84=>br (ai r84) (some 2) (some 0)))))))) (br (az a0.1 2) (br (aq 0 (af a0.2.2.2.2)) (some 2) (br (aq 256 (af a0.2.2.2.2)) (some 7) (bnd (z1X.f k a0.2.2.2.2) fun r85=>br (ai r85) (some 2) (some 0)))) (br (az a0.1 3) (br (aq 0 (af a0.2.2.2.2)) (some 2) (br (aq 256 (af a0.2.2.2.2)) (some 7) (bnd (z1X.f k a0.2.2.2.2) fun r86=>br (ai r86) (some 2) (some 0)))) (br (aq 256 (af a0.2.2.2.2)) (some 7) (bnd (z1X.f k a0.2.2.2.2) fun r87=>br (ai r87) (some 2) (some 0)))))))) (br (ai (az a0.1 3)) (br (ai (az a0.2.2.2.1 0)) (some 2) (br (az a0.1 3) (br (az a0.2.2.2.1 0) (some 2) (br (aq 2147483647 a0.2.2.2.1) (some 2) (br (aq a0.2.2.2.1 (-2147483647)) (some 2) (br (az a0.1 2) (br (aq 0 (af a0.2.2.2.2)) (some 2) (br (aq 256 (af a0.2.2.2.2)) (some 7) (bnd (z1X.f k a0.2.2.2.2) fun r88=>br (ai r88) (some 2) (some 0)))) (br (az a0.1 3) (br (aq 0 (af a0.2.2.2.2)) (some 2) (br (aq 256 (af a0.2.2.2.2)) (some 7) (bnd (z1X.f k a0.2.2.2.2) fun r89=>br (ai r89) (some 2) (some 0)))) (br (aq 256 (af a0.2.2.2.2)) (some 7) (bnd (z1X.f k a0.2.2.2.2) fun r90=>br (ai r90) (some 2) (some 0)))))))) (br (az a0.1 2) (br (aq 0 (af a0.2.2.2.2)) (some 2) (br (aq 256 (af a0.2.2.2.2)) (some 7) (bnd (z1X.f k a0.2.2.2.2) fun r91=>br (ai r91) (some 2) (some 0)))) (br (az a0.1 3) (br (aq 0 (af a0.2.2.2.2)) (some 2) (br (aq 256 (af a0.2.2.2.2)) (some 7) (bnd (z1X.f k a0.2.2.2.2) fun r92=>br (ai r92) (some 2) (some 0)))) (br (aq 256 (af a0.2.2.2.2)) (some 7) (bnd (z1X.f k a0.2.2.2.2) fun r93=>br (ai r93) (some 2) (some 0))))))) (br (az a0.1 3) (br (az a0.2.2.2.1 0) (some 2) (br (aq 2147483647 a0.2.2.2.1) (some 2) (br (aq a0.2.2.2.1 (-2147483647)) (some 2) (br (az a0.1 2) (br (aq 0 (af a0.2.2.2.2)) (some 2) (br (aq 256 (af a0.2.2.2.2)) (some 7) (bnd (z1X.f k a0.2.2.2.2) fun r94=>br (ai r94) (some 2) (some 0)))) (br (az a0.1 3) (br (aq 0 (af a0.2.2.2.2)) (some 2) (br (aq 256 (af a0.2.2.2.2)) (some 7) (bnd (z1X.f k a0.2.2.2.2) fun r95=>br (ai r95) (some 2) (some 0)))) (br (aq 256 (af a0.2.2.2.2)) (some 7) (bnd (z1X.f k a0.2.2.2.2) fun r96=>br (ai r96) (some 2) (some 0)))))))) (br (az a0.1 2) (br (aq 0 (af a0.2.2.2.2)) (some 2) (br (aq 256 (af a0.2.2.2.2)) (some 7) (bnd (z1X.f k a0.2.2.2.2) fun r97=>br (ai r97) (some 2) (some 0)))) (br (az a0.1 3) (br (aq 0 (af a0.2.2.2.2)) (some 2) (br (aq 256 (af a0.2.2.2.2)) (some 7) (bnd (z1X.f k a0.2.2.2.2) fun r98=>br (ai r98) (some 2) (some 0)))) (br (aq 256 (af a0.2.2.2.2)) (some 7) (bnd (z1X.f k a0.2.2.2.2) fun r99=>br (ai r99) (some 2) (some 0)))))))) (br (ai (az a0.1 3)) (br (ai (az a0.2.2.2.1 0)) (some 2) (br (az a0.1 3) (br (az a0.2.2.2.1 0) (some 2) (br (aq 2147483647 a0.2.2.2.1) (some 2) (br (aq a0.2.2.2.1 (-2147483647)) (some 2) (br (az a0.1 2) (br (aq 0 (af a0.2.2.2.2)) (some 2) (br (aq 256 (af a0.2.2.2.2)) (some 7) (bnd (z1X.f k a0.2.2.2.2) fun r100=>br (ai r100) (some 2) (some 0)))) (br (az a0.1 3) (br (aq 0 (af a0.2.2.2.2)) (some 2) (br (aq 256 (af a0.2.2.2.2)) (some 7) (bnd (z1X.f k a0.2.2.2.2) fun r101=>br (ai r101) (some 2) (some 0)))) (br (aq 256 (af a0.2.2.2.2)) (some 7) (bnd (z1X.f k a0.2.2.2.2) fun r102=>br (ai r102) (some 2) (some 0)))))))) (br (az a0.1 2) (br (aq 0 (af a0.2.2.2.2)) (some 2) (br (aq 256 (af a0.2.2.2.2)) (some 7) (bnd (z1X.f k a0.2.2.2.2) fun r103=>br (ai r103) (some 2) (some 0)))) (br (az a0.1 3) (br (aq 0 (af a0.2.2.2.2)) (some 2) (br (aq 256 (af a0.2.2.2.2)) (some 7) (bnd (z1X.f k a0.2.2.2.2) fun r104=>br (ai r104) (some 2) (some 0)))) (br (aq 256 (af a0.2.2.2.2)) (some 7) (bnd (z1X.f k a0.2.2.2.2) fun r105=>br (ai r105) (some 2) (some 0))))))) (br (az a0.1 3) (br (az a0.2.2.2.1 0) (some 2) (br (aq 2147483647 a0.2.2.2.1) (some 2) (br (aq a0.2.2.2.1 (-2147483647)) (some 2) (br (az a0.1 2) (br (aq 0 (af a0.2.2.2.2)) (some 2) (br (aq 256 (af a0.2.2.2.2)) (some 7) (bnd (z1X.f k a0.2.2.2.2) fun r106=>br (ai r106) (some 2) (some 0)))) (br (az a0.1 3) (br (aq 0 (af a0.2.2.2.2)) (some 2) (br (aq 256 (af a0.2.2.2.2)) (some 7) (bnd (z1X.f k a0.2.2.2.2) fun r107=>br (ai r107) (some 2) (some 0)))) (br (aq 256 (af a0.2.2.2.2)) (some 7) (bnd (z1X.f k a0.2.2.2.2) fun r108=>br (ai r108) (some 2) (some 0)))))))) (br (az a0.1 2) (br (aq 0 (af a0.2.2.2.2)) (some 2) (br (aq 256 (af a0.2.2.2.2)) (some 7) (bnd (z1X.f k a0.2.2.2.2) fun r109=>br (ai r109) (some 2) (some 0)))) (br (az a0.1 3) (br (aq 0 (af a0.2.2.2.2)) (some 2) (br (aq 256 (af a0.2.2.2.2)) (some 7) (bnd (z1X.f k a0.2.2.2.2) fun r110=>br (ai r110) (some 2) (some 0)))) (br (aq 256 (af a0.2.2.2.2)) (some 7) (bnd (z1X.f k a0.2.2.2.2) fun r111=>br (ai r111) (some 2) (some 0)))))))))))):=by kernel_rfl
def z14.e:=Sg.entry z14.sg fun x=>z14.f k x
theorem z14.ok:CallOK Tryz.prog 95 (z14.e k):=GW (z14.cx k) Tryz.func95 ⟨z1u.ok k,z1w.ok k,z1X.ok k,trivial⟩
@[reducible] def ref11_Read.sg:Sg:=⟨[.ref],[aN],.dat eJ,[aN]⟩
def z1I.cx:=co (rg 0 [rv [1] [1] [0],ri [1,3] [1,3],ri [2] []]) [] k
abbrev z1I.sg:Sg:=⟨[.dat eJ],[],.dat .bool,[]⟩
def z1I.f (a0:Ty.D eJ):=fo z1I.sg (z1I.cx k) Tryz.f96 a0
theorem z1I.f_eq (a0:Ty.D eJ):z1I.f k a0=br (az a0.1 0) (br (az (af a0.2.1) 0) (br (eQ cC a0.2.2.1 (0,(0,[]))) (br (az a0.2.2.2.1 0) (some (az (af a0.2.2.2.2) 0)) (some false)) (some false)) (some false)) (some false):=by kernel_rfl
def z1I.e:=Sg.entry z1I.sg fun x=>z1I.f k x
theorem z1I.ok:CallOK Tryz.prog 96 (z1I.e k):=GW (z1I.cx k) Tryz.func96 trivial
def z17.cx:=co (rg 0 [rv [1] [1] [0],ri [1,28] [1],ri [2] [49],ri [1,32] [1],ri [2] [49],ri [1,36] [1],ri [2] [49],ri [1,3] [1],rh [1,3,41] [1] [1,3] [1],ri [1,3] [1],ri [1,3,4] [1,49],ri [1,3,4,64] [1,49],ri [2] [49],ri [2] [49]]) [(40,z15.e k),(95,z14.e k),(96,z1I.e k)] k
abbrev z17.sg:Sg:=⟨[.dat aJ],[],.dat J,[]⟩
def z17.f (a0:Ty.D aJ):=fo z17.sg (z17.cx k) Tryz.f39 a0
def z17.l8 (n:Nat) (x3:DJ) (m1:Ty.D aJ):=lo z17.sg (z17.cx k) Tryz.f39 [1,1,1,1,0,1,0] 8 [1,3] [1] [] n ⟨[(1,.ref 1 []),(3,.dat J x3)],[(1,.dat aJ m1)]⟩
theorem z17.f_eq (a0:Ty.D aJ):z17.f k a0=bnd (z15.f k a0.1) fun r0=>br (ai r0) (some 2) (br (aq a0.2.1 0) (some 2) (br (aq 7 a0.2.1) (some 2) (br (aq a0.2.2.1 1) (some 2) (br (aq 1099511627776 a0.2.2.1) (some 2) (br (az (af a0.2.2.2.2) 0) (some 11) (br (aq 16 (af a0.2.2.2.2)) (some 7) (z17.l8 k k 0 a0))))))):=by kernel_rfl
theorem z17.l8_eq (n8:Nat) (x3:DJ) (m1:Ty.D aJ):z17.l8 k (n8+1) x3 m1=br (aq x3 (af m1.2.2.2.2)) (br (bO x3 m1.2.2.2.2) (bnd (z14.f k (rd eJ m1.2.2.2.2 (aj x3))) fun r0=>br (ai (az r0 0)) (br m1.2.2.2.1 (br (bO x3 m1.2.2.2.2) (bnd (z1I.f k (rd eJ m1.2.2.2.2 (aj x3))) fun r1=>br (ai r1) (some r0) (z17.l8 k n8 (aH .i64 x3 1) m1)) none) (br (ai false) (some r0) (z17.l8 k n8 (aH .i64 x3 1) m1))) (z17.l8 k n8 (aH .i64 x3 1) m1)) none) (some 0):=by kernel_rfl
def z17.e:=Sg.entry z17.sg fun x=>z17.f k x
theorem z17.ok:CallOK Tryz.prog 39 (z17.e k):=GW (z17.cx k) Tryz.func39 ⟨z15.ok k,z14.ok k,z1I.ok k,trivial⟩
@[reducible] def ref12_Read.sg:Sg:=⟨[.ref],[aN],.dat aJ,[aN]⟩
def z1y.cx:=co (rg 0 [ri [0] [],ri [0,3] [],rh [0,3,7] [] [0,3] [],ri [0,3] [],rq [0,3,22] [] 13,ri [2] [],ri [2] []]) [(92,z0Q.e k)] k
abbrev z1y.sg:Sg:=⟨[.dat (.slc aJ)],[],.dat .bool,[]⟩
def z1y.f (a0:Ty.D (.slc aJ)):=fo z1y.sg (z1y.cx k) Tryz.f36 a0
def z1y.l2 (n:Nat) (x0:Ty.D (.slc aJ)) (x3:DJ):=lo z1y.sg (z1y.cx k) Tryz.f36 [1,0,1,0] 2 [0,3] [] [] n ⟨[(0,.dat (.slc aJ) x0),(3,.dat J x3)],[]⟩
theorem z1y.f_eq (a0:Ty.D (.slc aJ)):z1y.f k a0=z1y.l2 k k a0 1:=by kernel_rfl
theorem z1y.l2_eq (n2:Nat) (x0:Ty.D (.slc aJ)) (x3:DJ):z1y.l2 k (n2+1) x0 x3=br (aq x3 (af x0)) (br (bO (bw .i64 x3 1) x0) (br (bO x3 x0) (bnd (z0Q.f k ((rd aJ x0 (aj (bw .i64 x3 1))).1) ((rd aJ x0 (aj x3)).1)) fun r0=>br (ai (az r0 (-1))) (some false) (z1y.l2 k n2 x0 (aH .i64 x3 1))) none) none) (some true):=by kernel_rfl
def z1y.e:=Sg.entry z1y.sg fun x=>z1y.f k x
theorem z1y.ok:CallOK Tryz.prog 36 (z1y.e k):=GW (z1y.cx k) Tryz.func36 ⟨z0Q.ok k,trivial⟩
@[reducible] def ref12_ReadList.sg:Sg:=⟨[.ref,.dat (.int .i64)],[aN],.own aJ,[aN]⟩
def z2i.cx:=co (rg 0 [ri [1] [1],ri [2] [5]]) [(40,z15.e k)] k
abbrev z2i.sg:Sg:=⟨[.dat ak],[],.dat .bool,[]⟩
def z2i.f (a0:Ty.D ak):=fo z2i.sg (z2i.cx k) Tryz.f93 a0
theorem z2i.f_eq (a0:Ty.D ak):z2i.f k a0=bnd (z15.f k a0.1) fun r0=>br r0 (br (bM 1 a0.2) (some (bM a0.2 64)) (some false)) (some false):=by kernel_rfl
def z2i.e:=Sg.entry z2i.sg fun x=>z2i.f k x
theorem z2i.ok:CallOK Tryz.prog 93 (z2i.e k):=GW (z2i.cx k) Tryz.func93 ⟨z15.ok k,trivial⟩
def z1f.cx:=co (rg 0 [ri [0] [],ri [0,3] [],rh [0,3,7] [] [0,3] [],ri [0,3] [],rq [0,3,34] [] 25,ri [2] [],ri [2] []]) [(93,z2i.e k),(92,z0Q.e k)] k
abbrev z1f.sg:Sg:=⟨[.dat (.slc ak)],[],.dat .bool,[]⟩
def z1f.f (a0:Ty.D (.slc ak)):=fo z1f.sg (z1f.cx k) Tryz.f37 a0
def z1f.l2 (n:Nat) (x0:Ty.D (.slc ak)) (x3:DJ):=lo z1f.sg (z1f.cx k) Tryz.f37 [1,0,1,0] 2 [0,3] [] [] n ⟨[(0,.dat (.slc ak) x0),(3,.dat J x3)],[]⟩
theorem z1f.f_eq (a0:Ty.D (.slc ak)):z1f.f k a0=z1f.l2 k k a0 0:=by kernel_rfl
theorem z1f.l2_eq (n2:Nat) (x0:Ty.D (.slc ak)) (x3:DJ):z1f.l2 k (n2+1) x0 x3=br (aq x3 (af x0)) (br (bO x3 x0) (bnd (z2i.f k (rd ak x0 (aj x3))) fun r0=>br (ai r0) (some false) (br (aq 0 x3) (br (bO (bw .i64 x3 1) x0) (br (bO x3 x0) (bnd (z0Q.f k ((rd ak x0 (aj (bw .i64 x3 1))).1) ((rd ak x0 (aj x3)).1)) fun r1=>br (ai (az r1 (-1))) (some false) (z1f.l2 k n2 x0 (aH .i64 x3 1))) none) none) (z1f.l2 k n2 x0 (aH .i64 x3 1)))) none) (some true):=by kernel_rfl
def z1f.e:=Sg.entry z1f.sg fun x=>z1f.f k x
theorem z1f.ok:CallOK Tryz.prog 37 (z1f.e k):=GW (z1f.cx k) Tryz.func37 ⟨z2i.ok k,z0Q.ok k,trivial⟩
@[reducible] def ref08_Read.sg:Sg:=⟨[.ref,.dat (.int .i64)],[aN],.own ak,[aN]⟩
@[reducible] def ref06_ReadList.sg:Sg:=⟨[.ref,.dat (.int .i64)],[aN],.own ah,[aN]⟩
@[reducible] def ref23_ReadDelta.sg:Sg:=⟨[.ref],[aN],.dat bI,[aN]⟩
def z18.cx:=co (rg 0 [ri [1] [1],ri [1,3] [1],rh [1,3,5] [1] [1,3] [1],ri [1,3] [1],ri [1,3,17] [1],ri [2] [],ri [2] []]) [] k
abbrev z18.sg:Sg:=⟨[.dat bc],[],.dat .bool,[]⟩
def z18.f (a0:Ty.D bc):=fo z18.sg (z18.cx k) Tryz.f94 a0
def z18.l2 (n:Nat) (x3:DJ) (m1:Ty.D bc):=lo z18.sg (z18.cx k) Tryz.f94 [1,0,1,0] 2 [1,3] [1] [] n ⟨[(1,.ref 1 []),(3,.dat J x3)],[(1,.dat bc m1)]⟩
theorem z18.f_eq (a0:Ty.D bc):z18.f k a0=z18.l2 k k 0 a0:=by kernel_rfl
theorem z18.l2_eq (n2:Nat) (x3:DJ) (m1:Ty.D bc):z18.l2 k (n2+1) x3 m1=br (aq x3 16) (br (gh x3 16) (br (aq (rd (.int .i64) m1 (aj x3)) 0) (some false) (br (gh x3 16) (br (aq 1048576 (rd (.int .i64) m1 (aj x3))) (some false) (z18.l2 k n2 (aH .i64 x3 1) m1)) none)) none) (some true):=by kernel_rfl
def z18.e:=Sg.entry z18.sg fun x=>z18.f k x
theorem z18.ok:CallOK Tryz.prog 94 (z18.e k):=GW (z18.cx k) Tryz.func94 trivial
@[reducible] def ref05_Read.sg:Sg:=⟨[.ref],[aN],.dat bc,[aN]⟩
def z1e.cx:=co (rg 0 [rv [1] [1] [0],ri [1,14] [1],ri [2] [],ri [1,3] [1],rh [1,3,19] [1] [1,3] [1],ri [1,3] [1],ri [1,3,4] [1,4],rq [1,3,4,40] [1,4] 14,ri [2] [],rq [1,3,53] [1] 13,ri [2] [],ri [2] []]) [(94,z18.e k),(40,z15.e k),(92,z0Q.e k)] k
abbrev z1e.sg:Sg:=⟨[.dat bp],[],.dat .bool,[]⟩
def z1e.f (a0:Ty.D bp):=fo z1e.sg (z1e.cx k) Tryz.f38 a0
def z1e.l4 (n:Nat) (x3:DJ) (m1:Ty.D bp):=lo z1e.sg (z1e.cx k) Tryz.f38 [1,1,0,1,0] 4 [1,3] [1] [] n ⟨[(1,.ref 1 []),(3,.dat J x3)],[(1,.dat bp m1)]⟩
theorem z1e.f_eq (a0:Ty.D bp):z1e.f k a0=bnd (z18.f k a0.1) fun r0=>br (ai r0) (some false) (br (aq 4096 (af a0.2)) (some false) (z1e.l4 k k 0 a0)):=by kernel_rfl
theorem z1e.l4_eq (n4:Nat) (x3:DJ) (m1:Ty.D bp):z1e.l4 k (n4+1) x3 m1=br (aq x3 (af m1.2)) (br (bO x3 m1.2) (bnd (z15.f k (rd ah m1.2 (aj x3))) fun r0=>br (ai r0) (some false) (br (gh ((rd ah m1.2 (aj x3)).1) 16) (br (bM (bw .i64 ((rd ah m1.2 (aj x3)).2) 1) (rd (.int .i64) m1.1 (aj ((rd ah m1.2 (aj x3)).1)))) (some false) (br (aq 0 x3) (br (bO (bw .i64 x3 1) m1.2) (bnd (z0Q.f k (rd ah m1.2 (aj (bw .i64 x3 1))) (rd ah m1.2 (aj x3))) fun r1=>br (ai (az r1 (-1))) (some false) (z1e.l4 k n4 (aH .i64 x3 1) m1)) none) (z1e.l4 k n4 (aH .i64 x3 1) m1))) none)) none) (some true):=by kernel_rfl
def z1e.e:=Sg.entry z1e.sg fun x=>z1e.f k x
theorem z1e.ok:CallOK Tryz.prog 38 (z1e.e k):=GW (z1e.cx k) Tryz.func38 ⟨z18.ok k,z15.ok k,z0Q.ok k,trivial⟩
@[reducible] def ref06_Read.sg:Sg:=⟨[.ref],[aN],.dat bp,[aN]⟩
def z2y.cx:=co (rg 0 [ri [2,3] [2,3],rq [4] [6] 11]) [(40,z15.e k)] k
abbrev z2y.sg:Sg:=⟨[.dat bc,.dat ah],[],.dat .bool,[]⟩
def z2y.f (a0:Ty.D bc) (a1:Ty.D ah):=fo z2y.sg (z2y.cx k) Tryz.f210 (a0,a1)
theorem z2y.f_eq (a0:Ty.D bc) (a1:Ty.D ah):z2y.f k a0 a1=bnd (z15.f k a1) fun r0=>br r0 (br (gh a1.1 16) (some (bM a1.2 (rd (.int .i64) a0 (aj a1.1)))) none) (some false):=by kernel_rfl
def z2y.e:=Sg.entry z2y.sg fun x=>z2y.f k x.1 x.2
theorem z2y.ok:CallOK Tryz.prog 210 (z2y.e k):=GW (z2y.cx k) Tryz.func210 ⟨z15.ok k,trivial⟩
def z2K.cx:=co (rg 0 [rv [2,3] [2,3] [0],ri [2,3,9] [2,3,9],ri [4] [],ri [2,3,5] [2,3],rh [2,3,5,14] [2,3] [2,3,5] [2,3],ri [2,3,5] [2,3],rq [2,3,5,23] [2,3] 7,ri [4] [],ri [4] []]) [(210,z2y.e k)] k
abbrev z2K.sg:Sg:=⟨[.dat bp,.dat ah],[],.dat .bool,[]⟩
def z2K.f (a0:Ty.D bp) (a1:Ty.D ah):=fo z2K.sg (z2K.cx k) Tryz.f154 (a0,a1)
def z2K.l4 (n:Nat) (x5:DJ) (m2:Ty.D bp) (m3:Ty.D ah):=lo z2K.sg (z2K.cx k) Tryz.f154 [1,1,0,1,0] 4 [2,3,5] [2,3] [] n ⟨[(2,.ref 2 []),(3,.ref 3 []),(5,.dat J x5)],[(2,.dat bp m2),(3,.dat ah m3)]⟩
theorem z2K.f_eq (a0:Ty.D bp) (a1:Ty.D ah):z2K.f k a0 a1=bnd (z2y.f k a0.1 a1) fun r0=>br r0 (some true) (z2K.l4 k k 0 a0 a1):=by kernel_rfl
theorem z2K.l4_eq (n4:Nat) (x5:DJ) (m2:Ty.D bp) (m3:Ty.D ah):z2K.l4 k (n4+1) x5 m2 m3=br (aq x5 (af m2.2)) (br (bO x5 m2.2) (br (eQ ah (rd ah m2.2 (aj x5)) m3) (some true) (z2K.l4 k n4 (aH .i64 x5 1) m2 m3)) none) (some false):=by kernel_rfl
def z2K.e:=Sg.entry z2K.sg fun x=>z2K.f k x.1 x.2
theorem z2K.ok:CallOK Tryz.prog 154 (z2K.e k):=GW (z2K.cx k) Tryz.func154 ⟨z2y.ok k,trivial⟩
def z0W.cx:=co (rg 0 [rv [1,2] [1,2] [0],rv [1,2,3] [1,2,3] [4],ri [1,2,3,4] [1,2,3],rh [1,2,3,4,13] [1,2,3] [1,2,3,4] [1,2,3],ri [1,2,3,4] [1,2,3],ri [1,2,3,4,5] [1,2,3,5],rq [1,2,3,4,5,29] [1,2,3,5] 9,ri [1,2,3,4] [1,2,3],rq [1,2,3,4,5,43] [1,2,3,5] 8,rv [1,2,3,4] [1,2,3] [1,4,6],rv [2] [2] [1]]) [] k
abbrev z0W.sg:Sg:=⟨[.dat bp],[],.dat bp,[]⟩
def z0W.f (a0:Ty.D bp):=fo z0W.sg (z0W.cx k) Tryz.f155 a0
def z0W.l3 (n:Nat) (x4:DJ) (m1:Ty.D bp) (m2a:Ty.D bc) (m2b:List (Ty.D ah)) (m3a:Ty.D bc) (m3b:List (Ty.D ah)):=lo z0W.sg (z0W.cx k) Tryz.f155 [1,1,0,1,0] 3 [1,2,3,4] [1,2,3] [] n ⟨[(1,.ref 1 []),(2,.ref 2 []),(3,.ref 3 []),(4,.dat J x4)],[(1,.dat bp m1),(2,.pr (.dat bc m2a) (.own ah m2b)),(3,.pr (.dat bc m3a) (.own ah m3b))]⟩
theorem z0W.f_eq (a0:Ty.D bp):z0W.f k a0=z0W.l3 k k 0 a0 (aV 16 0) [] a0.1 []:=by kernel_rfl
theorem z0W.l3_eq (n3:Nat) (x4:DJ) (m1:Ty.D bp) (m2a:Ty.D bc) (m2b:List (Ty.D ah)) (m3a:Ty.D bc) (m3b:List (Ty.D ah)):z0W.l3 k (n3+1) x4 m1 m2a m2b m3a m3b=br (aq x4 (af m1.2)) (br (bO x4 m1.2) (br (gh ((rd ah m1.2 (aj x4)).1) 16) (br (az ((rd ah m1.2 (aj x4)).2) (aH .i64 (rd (.int .i64) m3a (aj ((rd ah m1.2 (aj x4)).1))) 1)) (br (gh ((rd ah m1.2 (aj x4)).1) 16) (z0W.l3 k n3 (aH .i64 x4 1) m1 m2a m2b (ja m3a (aj ((rd ah m1.2 (aj x4)).1)) ((rd ah m1.2 (aj x4)).2)) m3b) none) (br (gh ((rd ah m1.2 (aj x4)).1) 16) (br (aq (rd (.int .i64) m3a (aj ((rd ah m1.2 (aj x4)).1))) ((rd ah m1.2 (aj x4)).2)) (br (bm m3b ((rd ah m1.2 (aj x4))::[])) (z0W.l3 k n3 (aH .i64 x4 1) m1 m2a m2b m3a (app m3b ((rd ah m1.2 (aj x4))::[]))) none) (z0W.l3 k n3 (aH .i64 x4 1) m1 m2a m2b m3a m3b)) none)) none) none) (some (m3a,m3b)):=by kernel_rfl
def z0W.e:=Sg.entry z0W.sg fun x=>z0W.f k x
theorem z0W.ok:CallOK Tryz.prog 155 (z0W.e k):=GW (z0W.cx k) Tryz.func155 trivial
def z2C.cx:=co (rg 0 [rv [2,3,4] [2,3,4] [0],ri [2,3,4,15] [2,3,4,14],rv [4] [4] [1],ri [2,3,4,5] [2,3,4],ri [2,3,4,5,6] [2,3,4],ri [2,3,4,5,6,7] [2,3,4],rh [2,3,4,5,6,7,21] [2,3,4] [2,3,4,5,6,7] [2,3,4],ri [2,3,4,5,6,7] [2,3,4],rq [2,3,4,5,6,7,35] [2,3,4] 12,rv [2,3,4,5,7] [2,3,4] [0,3,4],ri [2,3,4,5,6,7] [2,3,4],rv [2,3,4,5,6,7] [2,3,4] [0,7,8],ri [2,3,4,5,49] [2,3,4],rv [2,4,5] [2,4] [0,3,4],rv [4] [4] [5]]) [(40,z15.e k),(154,z2K.e k),(92,z0Q.e k),(155,z0W.e k)] k
abbrev z2C.sg:Sg:=⟨[.dat bp,.dat ah],[],.dat bp,[]⟩
def z2C.f (a0:Ty.D bp) (a1:Ty.D ah):=fo z2C.sg (z2C.cx k) Tryz.f97 (a0,a1)
def z2C.l6 (n:Nat) (x5:List (Ty.D ah)) (x6:Ty.D .bool) (x7:DJ) (m2:Ty.D bp) (m3:Ty.D ah) (m4a:Ty.D bc) (m4b:List (Ty.D ah)):=lo z2C.sg (z2C.cx k) Tryz.f97 [1,1,1,1,0,1,0] 6 [2,3,4,5,6,7] [2,3,4] [] n ⟨[(2,.ref 2 []),(3,.ref 3 []),(4,.ref 4 []),(5,.own ah x5),(6,.dat .bool x6),(7,.dat J x7)],[(2,.dat bp m2),(3,.dat ah m3),(4,.pr (.dat bc m4a) (.own ah m4b))]⟩
theorem z2C.f_eq (a0:Ty.D bp) (a1:Ty.D ah):z2C.f k a0 a1=bnd (z15.f k a1) fun r0=>br (ai r0) (some a0) (bnd (z2K.f k a0 a1) fun r1=>br r1 (some a0) (z2C.l6 k k [] false 0 a0 a1 (aV 16 0) [])):=by kernel_rfl
theorem z2C.l6_eq (n6:Nat) (x5:List (Ty.D ah)) (x6:Ty.D .bool) (x7:DJ) (m2:Ty.D bp) (m3:Ty.D ah) (m4a:Ty.D bc) (m4b:List (Ty.D ah)):z2C.l6 k (n6+1) x5 x6 x7 m2 m3 m4a m4b=br (aq x7 (af m2.2)) (br (ai x6) (br (bO x7 m2.2) (bnd (z0Q.f k m3 (rd ah m2.2 (aj x7))) fun r0=>br (aq r0 0) (br (bm x5 (m3::[])) (br (bO x7 m2.2) (br (bm (app x5 (m3::[])) ((rd ah m2.2 (aj x7))::[])) (z2C.l6 k n6 (app (app x5 (m3::[])) ((rd ah m2.2 (aj x7))::[])) true (aH .i64 x7 1) m2 m3 m4a m4b) none) none) none) (br (bO x7 m2.2) (br (bm x5 ((rd ah m2.2 (aj x7))::[])) (z2C.l6 k n6 (app x5 ((rd ah m2.2 (aj x7))::[])) x6 (aH .i64 x7 1) m2 m3 m4a m4b) none) none)) none) (br (bO x7 m2.2) (br (bm x5 ((rd ah m2.2 (aj x7))::[])) (z2C.l6 k n6 (app x5 ((rd ah m2.2 (aj x7))::[])) x6 (aH .i64 x7 1) m2 m3 m4a m4b) none) none)) (br (ai x6) (br (bm x5 (m3::[])) (bnd (z0W.f k (m2.1,(app x5 (m3::[])))) fun r1=>some r1) none) (bnd (z0W.f k (m2.1,x5)) fun r2=>some r2)):=by kernel_rfl
def z2C.e:=Sg.entry z2C.sg fun x=>z2C.f k x.1 x.2
theorem z2C.ok:CallOK Tryz.prog 97 (z2C.e k):=GW (z2C.cx k) Tryz.func97 ⟨z15.ok k,z2K.ok k,z0Q.ok k,z0W.ok k,trivial⟩
def z1a.cx:=co (rg 0 [ri [0,2] [2],rv [0,2,3] [2,3] [2],ri [0,2,3,4] [2,3],rh [0,2,3,4,9] [2,3] [0,2,10000003,4] [2,10000003],ri [0,2,3,4] [2,3],⟨[0,2,3,4],[2,3],[7],[],7,[],[],[],[[],[],[],[],[],[],[0,5],[0,5]],[],[],[]⟩,rv [2] [2] [1]]) [(97,z2C.e k)] k
abbrev z1a.sg:Sg:=⟨[.dat (.slc aJ)],[],.dat bp,[]⟩
def z1a.f (a0:Ty.D (.slc aJ)):=fo z1a.sg (z1a.cx k) Tryz.f41 a0
def z1a.l3 (n:Nat) (x0:Ty.D (.slc aJ)) (x4:DJ) (m2a:Ty.D bc) (m2b:List (Ty.D ah)) (m3:Ty.D bp):=lo z1a.sg (z1a.cx k) Tryz.f41 [1,1,0,1,0] 3 [0,2,10000003,4] [2,10000003] [] n ⟨[(0,.dat (.slc aJ) x0),(2,.ref 2 []),(3,.ref 3 []),(4,.dat J x4)],[(2,.pr (.dat bc m2a) (.own ah m2b)),(3,.dat bp m3)]⟩
theorem z1a.f_eq (a0:Ty.D (.slc aJ)):z1a.f k a0=z1a.l3 k k a0 0 (aV 16 0) [] ((aV 16 0),[]):=by kernel_rfl
theorem z1a.l3_eq (n3:Nat) (x0:Ty.D (.slc aJ)) (x4:DJ) (m2a:Ty.D bc) (m2b:List (Ty.D ah)) (m3:Ty.D bp):z1a.l3 k (n3+1) x0 x4 m2a m2b m3=br (aq x4 (af x0)) (br (bO x4 x0) (bnd (z2C.f k m3 ((rd aJ x0 (aj x4)).1)) fun r0=>z1a.l3 k n3 x0 (aH .i64 x4 1) m2a m2b r0) none) (some m3):=by kernel_rfl
def z1a.e:=Sg.entry z1a.sg fun x=>z1a.f k x
theorem z1a.ok:CallOK Tryz.prog 41 (z1a.e k):=GW (z1a.cx k) Tryz.func41 ⟨z2C.ok k,trivial⟩
def z1E.cx:=co (rg 0 [ri [0,1] [],ri [0,1,10] [],ri [4] [],ri [0,1,5] [],rh [0,1,5,14] [] [0,1,5] [],ri [0,1,5] [],rq [0,1,5,25] [] 9,ri [4] [],ri [4] []]) [] k
abbrev z1E.sg:Sg:=⟨[.dat (.slc ah),.dat (.slc ah)],[],.dat .bool,[]⟩
def z1E.f (a0 a1:Ty.D (.slc ah)):=fo z1E.sg (z1E.cx k) Tryz.f32 (a0,a1)
def z1E.l4 (n:Nat) (x0 x1:Ty.D (.slc ah)) (x5:DJ):=lo z1E.sg (z1E.cx k) Tryz.f32 [1,1,0,1,0] 4 [0,1,5] [] [] n ⟨[(0,.dat (.slc ah) x0),(1,.dat (.slc ah) x1),(5,.dat J x5)],[]⟩
theorem z1E.f_eq (a0 a1:Ty.D (.slc ah)):z1E.f k a0 a1=br (ai (az (af a0) (af a1))) (some false) (z1E.l4 k k a0 a1 0):=by kernel_rfl
theorem z1E.l4_eq (n4:Nat) (x0 x1:Ty.D (.slc ah)) (x5:DJ):z1E.l4 k (n4+1) x0 x1 x5=br (aq x5 (af x0)) (br (bO x5 x0) (br (bO x5 x1) (br (ai (eQ ah (rd ah x0 (aj x5)) (rd ah x1 (aj x5)))) (some false) (z1E.l4 k n4 x0 x1 (aH .i64 x5 1))) none) none) (some true):=by kernel_rfl
def z1E.e:=Sg.entry z1E.sg fun x=>z1E.f k x.1 x.2
theorem z1E.ok:CallOK Tryz.prog 32 (z1E.e k):=GW (z1E.cx k) Tryz.func32 trivial
def z1Z.cx:=co (rg 0 [rv [2,3] [2,3] [0,1],ri [4] [15]]) [(32,z1E.e k)] k
abbrev z1Z.sg:Sg:=⟨[.dat bp,.dat bp],[],.dat .bool,[]⟩
def z1Z.f (a0 a1:Ty.D bp):=fo z1Z.sg (z1Z.cx k) Tryz.f35 (a0,a1)
theorem z1Z.f_eq (a0 a1:Ty.D bp):z1Z.f k a0 a1=br (eQ bc a0.1 a1.1) (bnd (z1E.f k a0.2 a1.2) fun r0=>some r0) (some false):=by kernel_rfl
def z1Z.e:=Sg.entry z1Z.sg fun x=>z1Z.f k x.1 x.2
theorem z1Z.ok:CallOK Tryz.prog 35 (z1Z.e k):=GW (z1Z.cx k) Tryz.func35 ⟨z1E.ok k,trivial⟩
def z1o.cx:=co (rg 0 [rv [1] [1] [0],ri [1,27] [1],ri [2] [72,79],ri [1,3] [1],rh [1,3,32] [1] [1,3] [1],ri [1,3] [1],ri [1,3,41] [1],ri [2] [72,79],ri [1,4] [1],rh [1,4,43] [1] [1,4] [1],ri [1,4] [1],ri [1,4,51] [1],ri [2] [72,79],ri [1,4,5] [1],rh [1,4,5,58] [1] [1,4,5] [1],ri [1,4,5] [1],ri [1,4,5,69] [1],ri [2] [72,79],rq [2] [72,79] 11]) [(36,z1y.e k),(37,z1f.e k),(38,z1e.e k),(39,z17.e k),(40,z15.e k),(41,z1a.e k),(35,z1Z.e k)] k
abbrev z1o.sg:Sg:=⟨[.dat aI],[],.dat .bool,[]⟩
def z1o.f (a0:Ty.D aI):=fo z1o.sg (z1o.cx k) Tryz.f10 a0
def z1o.l4 (n:Nat) (x3:DJ) (m1:Ty.D aI):=lo z1o.sg (z1o.cx k) Tryz.f10 [1,1,0,1,0] 4 [1,3] [1] [] n ⟨[(1,.ref 1 []),(3,.dat J x3)],[(1,.dat aI m1)]⟩
def z1o.l9 (n:Nat) (x4:DJ) (m1:Ty.D aI):=lo z1o.sg (z1o.cx k) Tryz.f10 [1,1,1,0,1,0] 9 [1,4] [1] [] n ⟨[(1,.ref 1 []),(4,.dat J x4)],[(1,.dat aI m1)]⟩
def z1o.l14 (n9 n:Nat) (x4 x5:DJ) (m1:Ty.D aI):=lo z1o.sg (z1o.cx k) Tryz.f10 [1,1,1,0,1,0,0,1,0,0,1,1,0] 14 [1,4,5] [1] [n9] n ⟨[(1,.ref 1 []),(4,.dat J x4),(5,.dat J x5)],[(1,.dat aI m1)]⟩
theorem z1o.f_eq (a0:Ty.D aI):z1o.f k a0=br (aq 1000 (af a0.1)) (some false) (bnd (z1y.f k a0.1) fun r0=>br (ai r0) (some false) (bnd (z1f.f k a0.2.1) fun r1=>br (ai r1) (some false) (bnd (z1e.f k a0.2.2.2.1) fun r2=>br (ai r2) (some false) (z1o.l4 k k 0 a0)))):=by kernel_rfl
theorem z1o.l4_eq (n4:Nat) (x3:DJ) (m1:Ty.D aI):z1o.l4 k (n4+1) x3 m1=br (aq x3 (af m1.1)) (br (bO x3 m1.1) (bnd (z17.f k (rd aJ m1.1 (aj x3))) fun r0=>br (ai (az r0 0)) (some false) (z1o.l4 k n4 (aH .i64 x3 1) m1)) none) (z1o.l9 k k 0 m1):=by kernel_rfl
theorem z1o.l9_eq (n9:Nat) (x4:DJ) (m1:Ty.D aI):z1o.l9 k (n9+1) x4 m1=br (aq x4 8) (br (gh x4 8) (br (aq 1000 (af (rd (.slc ah) m1.2.2.2.2 (aj x4)))) (some false) (z1o.l14 k n9 k x4 0 m1)) none) (bnd (z1e.f k m1.2.2.1) fun r0=>br r0 (bnd (z1a.f k m1.1) fun r1=>bnd (z1Z.f k m1.2.2.1 r1) fun r2=>some r2) (some false)):=by kernel_rfl
theorem z1o.l14_eq (n9 n14:Nat) (x4 x5:DJ) (m1:Ty.D aI):z1o.l14 k n9 (n14+1) x4 x5 m1=br (gh x4 8) (br (aq x5 (af (rd (.slc ah) m1.2.2.2.2 (aj x4)))) (br (gh x4 8) (br (bO x5 (rd (.slc ah) m1.2.2.2.2 (aj x4))) (bnd (z15.f k (rd ah (rd (.slc ah) m1.2.2.2.2 (aj x4)) (aj x5))) fun r0=>br (ai r0) (some false) (z1o.l14 k n9 n14 x4 (aH .i64 x5 1) m1)) none) none) (z1o.l9 k n9 (aH .i64 x4 1) m1)) none:=by kernel_rfl
def z1o.e:=Sg.entry z1o.sg fun x=>z1o.f k x
theorem z1o.ok:CallOK Tryz.prog 10 (z1o.e k):=GW (z1o.cx k) Tryz.func10 ⟨z1y.ok k,z1f.ok k,z1e.ok k,z17.ok k,z15.ok k,z1a.ok k,z1Z.ok k,trivial⟩
@[reducible] def ref22_Read.sg:Sg:=⟨[.ref],[aN],.dat aI,[aN]⟩
def z0m.cx:=co (rg 0 [ri [0] [1000000,1000000],ri [0,7] [1000000,1000000],ri [2] [1000000],rq [2] [1000000] 10]) [] k
abbrev z0m.sg:Sg:=⟨[.ref],[aN],.dat J,[aN]⟩
def z0m.f (o0:Ty.D aN):=fo z0m.sg (z0m.cx k) Tryz.f144 o0
theorem z0m.f_eq (o0:Ty.D aN):z0m.f k o0=br (ai (az o0.2.2 0)) (some (0,o0)) (some ((bw .i64 (af o0.1) o0.2.1),o0)):=by kernel_rfl
@[reducible] def ref02_Reader_End.sg:Sg:=⟨[.ref],[aN],.dat (.int .i64),[aN]⟩
def z0s.cx:=co (rg 0 [rv [1] [1] [0],ri [1,20] [1],ri [2] [],ri [1,3] [1],rh [1,3,25] [1] [1,3] [1],ri [1,3] [1],ri [1,3,34] [1],ri [2] [],ri [1,4] [1],rh [1,4,39] [1] [1,4] [1],ri [1,4] [1],ri [1,4,48] [1],ri [2] [],ri [2] []]) [(36,z1y.e k),(37,z1f.e k),(39,z17.e k),(40,z15.e k)] k
abbrev z0s.sg:Sg:=⟨[.dat bI],[],.dat .bool,[]⟩
def z0s.f (a0:Ty.D bI):=fo z0s.sg (z0s.cx k) Tryz.f46 a0
def z0s.l4 (n:Nat) (x3:DJ) (m1:Ty.D bI):=lo z0s.sg (z0s.cx k) Tryz.f46 [1,1,0,1,0] 4 [1,3] [1] [] n ⟨[(1,.ref 1 []),(3,.dat J x3)],[(1,.dat bI m1)]⟩
def z0s.l9 (n:Nat) (x4:DJ) (m1:Ty.D bI):=lo z0s.sg (z0s.cx k) Tryz.f46 [1,1,1,0,1,0] 9 [1,4] [1] [] n ⟨[(1,.ref 1 []),(4,.dat J x4)],[(1,.dat bI m1)]⟩
theorem z0s.f_eq (a0:Ty.D bI):z0s.f k a0=br (aq 1000 (af a0.1)) (some false) (bnd (z1y.f k a0.1) fun r0=>br (ai r0) (some false) (bnd (z1f.f k a0.2.1) fun r1=>br (ai r1) (some false) (z0s.l4 k k 0 a0))):=by kernel_rfl
theorem z0s.l4_eq (n4:Nat) (x3:DJ) (m1:Ty.D bI):z0s.l4 k (n4+1) x3 m1=br (aq x3 (af m1.1)) (br (bO x3 m1.1) (bnd (z17.f k (rd aJ m1.1 (aj x3))) fun r0=>br (ai (az r0 0)) (some false) (z0s.l4 k n4 (aH .i64 x3 1) m1)) none) (z0s.l9 k k 0 m1):=by kernel_rfl
theorem z0s.l9_eq (n9:Nat) (x4:DJ) (m1:Ty.D bI):z0s.l9 k (n9+1) x4 m1=br (aq x4 (af m1.2.2)) (br (bO x4 m1.2.2) (bnd (z15.f k (rd ah m1.2.2 (aj x4))) fun r0=>br (ai r0) (some false) (z0s.l9 k n9 (aH .i64 x4 1) m1)) none) (some true):=by kernel_rfl
def z0s.e:=Sg.entry z0s.sg fun x=>z0s.f k x
theorem z0s.ok:CallOK Tryz.prog 46 (z0s.e k):=GW (z0s.cx k) Tryz.func46 ⟨z1y.ok k,z1f.ok k,z17.ok k,z15.ok k,trivial⟩
def z1k.cx:=co (rg 0 [rv [1] [1] [0],ri [1,4] [1],ri [1,4,5] [1],ri [2] [25,41,46],ri [1,4,11] [1],ri [2] [25,41,46],ri [1,4,37] [1],ri [2] [25,41,46],ri [1,42] [1],ri [2] [25,41,46],ri [2] [25,41,46]]) [(39,z17.e k),(37,z1f.e k),(46,z0s.e k),(10,z1o.e k)] k
abbrev z1k.sg:Sg:=⟨[.dat b7],[],.dat .bool,[]⟩
def z1k.f (a0:Ty.D b7):=fo z1k.sg (z1k.cx k) Tryz.f14 a0
theorem z1k.f_eq (a0:Ty.D b7):z1k.f k a0=br (az a0.1 1) (bnd (z17.f k a0.2.1) fun r0=>some (az r0 0)) (br (az a0.1 2) (br (bM 0 a0.2.2.1) (br (bM a0.2.2.1 7) (bnd (z1f.f k (a0.2.2.2.1::[])) fun r1=>br r1 (br (bM 0 a0.2.2.2.2.1) (some (bM a0.2.2.2.2.1 2)) (some false)) (some false)) (some false)) (some false)) (br (az a0.1 3) (bnd (z0s.f k a0.2.2.2.2.2.1) fun r2=>some r2) (br (az a0.1 4) (bnd (z1o.f k a0.2.2.2.2.2.2) fun r3=>some r3) (some false)))):=by kernel_rfl
def z1k.e:=Sg.entry z1k.sg fun x=>z1k.f k x
theorem z1k.ok:CallOK Tryz.prog 14 (z1k.e k):=GW (z1k.cx k) Tryz.func14 ⟨z17.ok k,z1f.ok k,z0s.ok k,z1o.ok k,trivial⟩
@[reducible] def ref23_Parse.sg:Sg:=⟨[.dat .str],[],.t2 (.dat b7) (.dat (.int .i64)),[]⟩
def z1G.cx:=co (rg 0 [ri [0,3] [3],ri [0,3,5] [3],rh [0,3,5,9] [3] [0,3,5] [3],ri [0,3,5] [3],rq [0,3,5,18] [3] 7,ri [4] [],ri [4] []]) [] k
abbrev z1G.sg:Sg:=⟨[.dat (.slc aJ),.dat ah],[],.dat J,[]⟩
def z1G.f (a0:Ty.D (.slc aJ)) (a1:Ty.D ah):=fo z1G.sg (z1G.cx k) Tryz.f145 (a0,a1)
def z1G.l2 (n:Nat) (x0:Ty.D (.slc aJ)) (x5:DJ) (m3:Ty.D ah):=lo z1G.sg (z1G.cx k) Tryz.f145 [1,0,1,0] 2 [0,3,5] [3] [] n ⟨[(0,.dat (.slc aJ) x0),(3,.ref 3 []),(5,.dat J x5)],[(3,.dat ah m3)]⟩
theorem z1G.f_eq (a0:Ty.D (.slc aJ)) (a1:Ty.D ah):z1G.f k a0 a1=z1G.l2 k k a0 0 a1:=by kernel_rfl
theorem z1G.l2_eq (n2:Nat) (x0:Ty.D (.slc aJ)) (x5:DJ) (m3:Ty.D ah):z1G.l2 k (n2+1) x0 x5 m3=br (aq x5 (af x0)) (br (bO x5 x0) (br (eQ ah ((rd aJ x0 (aj x5)).1) m3) (some x5) (z1G.l2 k n2 x0 (aH .i64 x5 1) m3)) none) (some (-1)):=by kernel_rfl
def z1G.e:=Sg.entry z1G.sg fun x=>z1G.f k x.1 x.2
def z2A.cx:=co (rg 0 [rv [0,3] [3] [0],ri [0,3,12] [3],rv [4] [] [0,1],ri [0,3,5] [3],ri [0,3,5,6] [3],ri [0,3,5,6,7] [3],rh [0,3,5,6,7,17] [3] [0,3,5,6,7] [3],ri [0,3,5,6,7] [3],rq [0,3,5,6,7,32] [3] 13,rv [0,3,5,7] [3] [0,3,4],ri [0,3,5,6,7] [3],rv [0,3,5,6,7] [3] [0,6,7],ri [3,5,45] [3],rv [5] [] [0,3,4],rv [4] [] [0,1]]) [(145,z1G.e k),(92,z0Q.e k)] k
abbrev z2A.sg:Sg:=⟨[.dat (.slc aJ),.dat aJ],[],.dat (.slc aJ),[]⟩
def z2A.f (a0:Ty.D (.slc aJ)) (a1:Ty.D aJ):=fo z2A.sg (z2A.cx k) Tryz.f146 (a0,a1)
def z2A.l6 (n:Nat) (x0:Ty.D (.slc aJ)) (x5:List (Ty.D aJ)) (x6:Ty.D .bool) (x7:DJ) (m3:Ty.D aJ):=lo z2A.sg (z2A.cx k) Tryz.f146 [1,1,1,1,0,1,0] 6 [0,3,5,6,7] [3] [] n ⟨[(0,.dat (.slc aJ) x0),(3,.ref 3 []),(5,.own aJ x5),(6,.dat .bool x6),(7,.dat J x7)],[(3,.dat aJ m3)]⟩
theorem z2A.f_eq (a0:Ty.D (.slc aJ)) (a1:Ty.D aJ):z2A.f k a0 a1=bnd (z1G.f k a0 a1.1) fun r0=>br (bM 0 r0) (some a0) (z2A.l6 k k a0 [] false 0 a1):=by kernel_rfl
theorem z2A.l6_eq (n6:Nat) (x0:Ty.D (.slc aJ)) (x5:List (Ty.D aJ)) (x6:Ty.D .bool) (x7:DJ) (m3:Ty.D aJ):z2A.l6 k (n6+1) x0 x5 x6 x7 m3=br (aq x7 (af x0)) (br (ai x6) (br (bO x7 x0) (bnd (z0Q.f k m3.1 ((rd aJ x0 (aj x7)).1)) fun r0=>br (aq r0 0) (br (bm x5 (m3::[])) (br (bO x7 x0) (br (bm (app x5 (m3::[])) ((rd aJ x0 (aj x7))::[])) (z2A.l6 k n6 x0 (app (app x5 (m3::[])) ((rd aJ x0 (aj x7))::[])) true (aH .i64 x7 1) m3) none) none) none) (br (bO x7 x0) (br (bm x5 ((rd aJ x0 (aj x7))::[])) (z2A.l6 k n6 x0 (app x5 ((rd aJ x0 (aj x7))::[])) x6 (aH .i64 x7 1) m3) none) none)) none) (br (bO x7 x0) (br (bm x5 ((rd aJ x0 (aj x7))::[])) (z2A.l6 k n6 x0 (app x5 ((rd aJ x0 (aj x7))::[])) x6 (aH .i64 x7 1) m3) none) none)) (br (ai x6) (br (bm x5 (m3::[])) (some (app x5 (m3::[]))) none) (some x5)):=by kernel_rfl
def z2A.e:=Sg.entry z2A.sg fun x=>z2A.f k x.1 x.2
def z2H.cx:=co (rg 0 [rv [2,3,4] [2,3,4] [0,1],ri [2,3,4,10] [2,3,4],rv [4] [4] [1],rv [2,3,4] [2,3,4] [5],rv [2,4] [2,4] [6],rv [4] [4] [1]]) [(145,z1G.e k),(146,z2A.e k),(97,z2C.e k)] k
abbrev z2H.sg:Sg:=⟨[.dat aI,.dat aJ],[],.dat aI,[]⟩
def z2H.f (a0:Ty.D aI) (a1:Ty.D aJ):=fo z2H.sg (z2H.cx k) Tryz.f88 (a0,a1)
theorem z2H.f_eq (a0:Ty.D aI) (a1:Ty.D aJ):z2H.f k a0 a1=bnd (z1G.f k a0.1 a1.1) fun r0=>br (bM 0 r0) (some a0) (bnd (z2A.f k a0.1 a1) fun r1=>bnd (z2C.f k a0.2.2.1 a1.1) fun r2=>some (r1,(a0.2.1,(r2,a0.2.2.2)))):=by kernel_rfl
def z2H.e:=Sg.entry z2H.sg fun x=>z2H.f k x.1 x.2
def z2p.cx:=co (rg 0 [ri [0,3] [3],ri [0,3,5] [3],rh [0,3,5,9] [3] [0,3,5] [3],ri [0,3,5] [3],rq [0,3,5,18] [3] 7,ri [4] [],ri [4] []]) [] k
abbrev z2p.sg:Sg:=⟨[.dat (.slc ak),.dat ah],[],.dat J,[]⟩
def z2p.f (a0:Ty.D (.slc ak)) (a1:Ty.D ah):=fo z2p.sg (z2p.cx k) Tryz.f244 (a0,a1)
def z2p.l2 (n:Nat) (x0:Ty.D (.slc ak)) (x5:DJ) (m3:Ty.D ah):=lo z2p.sg (z2p.cx k) Tryz.f244 [1,0,1,0] 2 [0,3,5] [3] [] n ⟨[(0,.dat (.slc ak) x0),(3,.ref 3 []),(5,.dat J x5)],[(3,.dat ah m3)]⟩
theorem z2p.f_eq (a0:Ty.D (.slc ak)) (a1:Ty.D ah):z2p.f k a0 a1=z2p.l2 k k a0 0 a1:=by kernel_rfl
theorem z2p.l2_eq (n2:Nat) (x0:Ty.D (.slc ak)) (x5:DJ) (m3:Ty.D ah):z2p.l2 k (n2+1) x0 x5 m3=br (aq x5 (af x0)) (br (bO x5 x0) (br (eQ ah ((rd ak x0 (aj x5)).1) m3) (br (bO x5 x0) (some ((rd ak x0 (aj x5)).2)) none) (z2p.l2 k n2 x0 (aH .i64 x5 1) m3)) none) (some 0):=by kernel_rfl
def z2p.e:=Sg.entry z2p.sg fun x=>z2p.f k x.1 x.2
def z2r.cx:=co (rg 0 [ri [0,3] [3],rq [0,3,20] [3] 12,rv [4] [] [0,1],ri [0,3,5] [3],ri [0,3,5,6] [3],ri [0,3,5,6,7] [3],rh [0,3,5,6,7,25] [3] [0,3,5,6,7] [3],ri [0,3,5,6,7] [3],rq [0,3,5,6,7,8] [3,35] 8,ri [0,3,5,6,7,8,41] [3,35],rv [0,3,5,7,8] [3,35] [0,3,4],ri [0,3,5,6,7,8] [3,35],ri [0,3,5,6,7,47] [3],rv [0,3,5,6,7] [3] [0,6,7],ri [3,5,56] [3],rv [5] [] [0,3,4],rv [4] [] [0,1]]) [(93,z2i.e k),(244,z2p.e k),(92,z0Q.e k)] k
abbrev z2r.sg:Sg:=⟨[.dat (.slc ak),.dat ak],[],.dat (.slc ak),[]⟩
def z2r.f (a0:Ty.D (.slc ak)) (a1:Ty.D ak):=fo z2r.sg (z2r.cx k) Tryz.f205 (a0,a1)
def z2r.l6 (n:Nat) (x0:Ty.D (.slc ak)) (x5:List (Ty.D ak)) (x6:Ty.D .bool) (x7:DJ) (m3:Ty.D ak):=lo z2r.sg (z2r.cx k) Tryz.f205 [1,1,1,1,0,1,0] 6 [0,3,5,6,7] [3] [] n ⟨[(0,.dat (.slc ak) x0),(3,.ref 3 []),(5,.own ak x5),(6,.dat .bool x6),(7,.dat J x7)],[(3,.dat ak m3)]⟩
theorem z2r.f_eq (a0:Ty.D (.slc ak)) (a1:Ty.D ak):z2r.f k a0 a1=bnd (z2i.f k a1) fun r0=>br (ai r0) (some a0) (bnd (z2p.f k a0 a1.1) fun r1=>br (bM a1.2 r1) (some a0) (z2r.l6 k k a0 [] false 0 a1)):=by kernel_rfl
theorem z2r.l6_eq (n6:Nat) (x0:Ty.D (.slc ak)) (x5:List (Ty.D ak)) (x6:Ty.D .bool) (x7:DJ) (m3:Ty.D ak):z2r.l6 k (n6+1) x0 x5 x6 x7 m3=br (aq x7 (af x0)) (br (bO x7 x0) (bnd (z0Q.f k m3.1 ((rd ak x0 (aj x7)).1)) fun r0=>br (ai x6) (br (bM r0 0) (br (bm x5 (m3::[])) (br (ai (az r0 0)) (br (bO x7 x0) (br (bm (app x5 (m3::[])) ((rd ak x0 (aj x7))::[])) (z2r.l6 k n6 x0 (app (app x5 (m3::[])) ((rd ak x0 (aj x7))::[])) true (aH .i64 x7 1) m3) none) none) (z2r.l6 k n6 x0 (app x5 (m3::[])) true (aH .i64 x7 1) m3)) none) (br (ai (az r0 0)) (br (bO x7 x0) (br (bm x5 ((rd ak x0 (aj x7))::[])) (z2r.l6 k n6 x0 (app x5 ((rd ak x0 (aj x7))::[])) x6 (aH .i64 x7 1) m3) none) none) (z2r.l6 k n6 x0 x5 x6 (aH .i64 x7 1) m3))) (br (ai (az r0 0)) (br (bO x7 x0) (br (bm x5 ((rd ak x0 (aj x7))::[])) (z2r.l6 k n6 x0 (app x5 ((rd ak x0 (aj x7))::[])) x6 (aH .i64 x7 1) m3) none) none) (z2r.l6 k n6 x0 x5 x6 (aH .i64 x7 1) m3))) none) (br (ai x6) (br (bm x5 (m3::[])) (some (app x5 (m3::[]))) none) (some x5)):=by kernel_rfl
def z2r.e:=Sg.entry z2r.sg fun x=>z2r.f k x.1 x.2
def z1T.cx:=co (rg 0 [ri [0,1] [],rv [1,5] [19] [0,1],ri [1,5,6] [19],rh [1,5,6,11] [19] [1,5,6] [19],ri [1,5,6] [19],rv [1,5,6] [19] [6],rv [4] [19] [0,1]]) [(205,z2r.e k)] k
abbrev z1T.sg:Sg:=⟨[.dat (.slc ak),.dat (.slc ak)],[],.dat (.slc ak),[]⟩
def z1T.f (a0 a1:Ty.D (.slc ak)):=fo z1T.sg (z1T.cx k) Tryz.f147 (a0,a1)
def z1T.l3 (n:Nat) (x1 x5:Ty.D (.slc ak)) (x6:DJ):=lo z1T.sg (z1T.cx k) Tryz.f147 [1,1,0,1,0] 3 [1,5,6] [19] [] n ⟨[(1,.dat (.slc ak) x1),(5,.dat (.slc ak) x5),(6,.dat J x6)],[]⟩
theorem z1T.f_eq (a0 a1:Ty.D (.slc ak)):z1T.f k a0 a1=z1T.l3 k k a1 a0 0:=by kernel_rfl
theorem z1T.l3_eq (n3:Nat) (x1 x5:Ty.D (.slc ak)) (x6:DJ):z1T.l3 k (n3+1) x1 x5 x6=br (aq x6 (af x1)) (br (bO x6 x1) (bnd (z2r.f k x5 (rd ak x1 (aj x6))) fun r0=>z1T.l3 k n3 x1 r0 (aH .i64 x6 1)) none) (some x5):=by kernel_rfl
def z1T.e:=Sg.entry z1T.sg fun x=>z1T.f k x.1 x.2
def z1l.cx:=co (rg 0 [rv [1,2,4] [2,4] [0],rv [2,4] [2,4] [5],rv [4] [4] [1]]) [(147,z1T.e k)] k
abbrev z1l.sg:Sg:=⟨[.dat aI,.dat (.slc ak)],[],.dat aI,[]⟩
def z1l.f (a0:Ty.D aI) (a1:Ty.D (.slc ak)):=fo z1l.sg (z1l.cx k) Tryz.f89 (a0,a1)
theorem z1l.f_eq (a0:Ty.D aI) (a1:Ty.D (.slc ak)):z1l.f k a0 a1=bnd (z1T.f k a0.2.1 a1) fun r0=>some (a0.1,(r0,a0.2.2)):=by kernel_rfl
def z1l.e:=Sg.entry z1l.sg fun x=>z1l.f k x.1 x.2
def z26.cx:=co (rg 0 [rv [1,2,4] [2,4] [0],ri [1,2,4,5] [2,4],rh [1,2,4,5,9] [2,4] [1,2,4,5] [2,4],ri [1,2,4,5] [2,4],⟨[1,2,4,5],[2,4],[8],[],7,[],[],[],[[],[],[],[],[],[],[1,5],[1,5],[1,5]],[],[],[]⟩,rv [4] [4] [1]]) [(97,z2C.e k)] k
abbrev z26.sg:Sg:=⟨[.dat aI,.dat (.slc ah)],[],.dat aI,[]⟩
def z26.f (a0:Ty.D aI) (a1:Ty.D (.slc ah)):=fo z26.sg (z26.cx k) Tryz.f148 (a0,a1)
def z26.l2 (n:Nat) (x1:Ty.D (.slc ah)) (x5:DJ) (m2:Ty.D aI) (m4a:List (Ty.D aJ)) (m4ba:List (Ty.D ak)) (m4bbaa:Ty.D bc) (m4bbab:List (Ty.D ah)) (m4bbbaa:Ty.D bc) (m4bbbab:List (Ty.D ah)) (m4bbbb:Ty.D (.arr 8 (.slc ah))):=lo z26.sg (z26.cx k) Tryz.f148 [1,0,1,0] 2 [1,2,4,5] [2,4] [] n ⟨[(1,.dat (.slc ah) x1),(2,.ref 2 []),(4,.ref 4 []),(5,.dat J x5)],[(2,.dat aI m2),(4,.pr (.own aJ m4a) (.pr (.own ak m4ba) (.pr (.pr (.dat bc m4bbaa) (.own ah m4bbab)) (.pr (.pr (.dat bc m4bbbaa) (.own ah m4bbbab)) (.dat (.arr 8 (.slc ah)) m4bbbb)))))]⟩
theorem z26.f_eq (a0:Ty.D aI) (a1:Ty.D (.slc ah)):z26.f k a0 a1=z26.l2 k k a1 0 a0 [] [] (aV 16 0) [] (aV 16 0) [] (aV 8 []):=by kernel_rfl
theorem z26.l2_eq (n2:Nat) (x1:Ty.D (.slc ah)) (x5:DJ) (m2:Ty.D aI) (m4a:List (Ty.D aJ)) (m4ba:List (Ty.D ak)) (m4bbaa:Ty.D bc) (m4bbab:List (Ty.D ah)) (m4bbbaa:Ty.D bc) (m4bbbab:List (Ty.D ah)) (m4bbbb:Ty.D (.arr 8 (.slc ah))):z26.l2 k (n2+1) x1 x5 m2 m4a m4ba m4bbaa m4bbab m4bbbaa m4bbbab m4bbbb=br (aq x5 (af x1)) (br (bO x5 x1) (bnd (z2C.f k m2.2.2.2.1 (rd ah x1 (aj x5))) fun r0=>z26.l2 k n2 x1 (aH .i64 x5 1) (m2.1,(m2.2.1,(m2.2.2.1,(r0,m2.2.2.2.2)))) m4a m4ba m4bbaa m4bbab m4bbbaa m4bbbab m4bbbb) none) (some m2):=by kernel_rfl
def z26.e:=Sg.entry z26.sg fun x=>z26.f k x.1 x.2
def z13.cx:=co (rg 0 [rv [2,3,4] [2,3,4] [0,1],ri [2,3,4,5] [2,3,4],rh [2,3,4,5,10] [2,3,4] [2,3,4,5] [2,3,4],ri [2,3,4,5] [2,3,4],⟨[2,3,4,5],[2,3,4],[7],[],7,[],[],[],[[],[],[],[],[2],[2],[0,5,2],[0,5,2]],[],[],[]⟩,rv [2,3,4] [2,3,4] [4],rv [4] [4] [4]]) [(88,z2H.e k),(89,z1l.e k),(148,z26.e k)] k
abbrev z13.sg:Sg:=⟨[.dat aI,.dat bI],[],.dat aI,[]⟩
def z13.f (a0:Ty.D aI) (a1:Ty.D bI):=fo z13.sg (z13.cx k) Tryz.f90 (a0,a1)
def z13.l2 (n:Nat) (x5:DJ) (m2:Ty.D aI) (m3:Ty.D bI) (m4a:List (Ty.D aJ)) (m4ba:List (Ty.D ak)) (m4bbaa:Ty.D bc) (m4bbab:List (Ty.D ah)) (m4bbbaa:Ty.D bc) (m4bbbab:List (Ty.D ah)) (m4bbbb:Ty.D (.arr 8 (.slc ah))):=lo z13.sg (z13.cx k) Tryz.f90 [1,0,1,0] 2 [2,3,4,5] [2,3,4] [] n ⟨[(2,.ref 2 []),(3,.ref 3 []),(4,.ref 4 []),(5,.dat J x5)],[(2,.dat aI m2),(3,.dat bI m3),(4,.pr (.own aJ m4a) (.pr (.own ak m4ba) (.pr (.pr (.dat bc m4bbaa) (.own ah m4bbab)) (.pr (.pr (.dat bc m4bbbaa) (.own ah m4bbbab)) (.dat (.arr 8 (.slc ah)) m4bbbb)))))]⟩
theorem z13.f_eq (a0:Ty.D aI) (a1:Ty.D bI):z13.f k a0 a1=z13.l2 k k 0 a0 a1 [] [] (aV 16 0) [] (aV 16 0) [] (aV 8 []):=by kernel_rfl
theorem z13.l2_eq (n2:Nat) (x5:DJ) (m2:Ty.D aI) (m3:Ty.D bI) (m4a:List (Ty.D aJ)) (m4ba:List (Ty.D ak)) (m4bbaa:Ty.D bc) (m4bbab:List (Ty.D ah)) (m4bbbaa:Ty.D bc) (m4bbbab:List (Ty.D ah)) (m4bbbb:Ty.D (.arr 8 (.slc ah))):z13.l2 k (n2+1) x5 m2 m3 m4a m4ba m4bbaa m4bbab m4bbbaa m4bbbab m4bbbb=br (aq x5 (af m3.1)) (br (bO x5 m3.1) (bnd (z2H.f k m2 (rd aJ m3.1 (aj x5))) fun r0=>z13.l2 k n2 (aH .i64 x5 1) r0 m3 m4a m4ba m4bbaa m4bbab m4bbbaa m4bbbab m4bbbb) none) (bnd (z1l.f k m2 m3.2.1) fun r1=>bnd (z26.f k r1 m3.2.2) fun r2=>some r2):=by kernel_rfl
def z13.e:=Sg.entry z13.sg fun x=>z13.f k x.1 x.2
end Go.Proofs.YtfhcammihohmjaaGreatDoor
end
