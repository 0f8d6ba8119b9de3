/- The functions that the statement reaches, and what they come to. Part 2. -/
import Derived.Test.YtfhcammihohmjaaGreatDoorFw1
import Derived.Test.YtfhcammihohmjaaGreatDoorFw2
import Derived.Test.YtfhcammihohmjaaGreatDoorFw3
import Derived.Test.YtfhcammihohmjaaGreatDoorJournalSnaps1
set_option linter.unusedVariables false
set_option linter.unusedSimpArgs false
set_option linter.unusedSectionVars false
noncomputable section
/- The program's functions, as plain equations. -/
namespace Go.Proofs.YtfhcammihohmjaaGreatDoor
open Pal
variable (k:Nat)
set_option maxRecDepth 100000
def z2l.cx:=co (rg 0 [ri [0] [],ri [2] [5]]) [] k
abbrev z2l.sg:Sg:=⟨[.dat .str],[],.new,[ag]⟩
def z2l.f (a0:Ty.D .str):=fo z2l.sg (z2l.cx k) Tryz.f69 a0
theorem z2l.f_eq (a0:Ty.D .str):z2l.f k a0=some ((),(a0,0)):=by kernel_rfl
def z2l.e:=Sg.entry z2l.sg fun x=>z2l.f k x
theorem z2l.ok:CallOK Tryz.prog 69 (z2l.e k):=GW (z2l.cx k) Tryz.func69 trivial
def z0q.cx:=co (rg 0 [ri [0] [1000000,1000000],ri [2] [1000000]]) [] k
abbrev z0q.sg:Sg:=⟨[.ref],[ag],.dat .bool,[ag]⟩
def z0q.f (o0:Ty.D ag):=fo z0q.sg (z0q.cx k) Tryz.f125 o0
theorem z0q.f_eq (o0:Ty.D ag):z0q.f k o0=some ((az o0.2 0),o0):=by kernel_rfl
def z0q.e:=Sg.entry z0q.sg fun x=>z0q.f k x
theorem z0q.ok:CallOK Tryz.prog 125 (z0q.e k):=GW (z0q.cx k) Tryz.func125 trivial
def z0r.cx:=co (rg 0 [ri [0,1,5] [5,1000000,1000000],ri [] [1000000]]) [(125,z0q.e k)] k
abbrev z0r.sg:Sg:=⟨[.ref,.dat J],[ag],.unit,[ag]⟩
def z0r.f (a1:DJ) (o0:Ty.D ag):=fo z0r.sg (z0r.cx k) Tryz.f75 (a1,o0)
theorem z0r.f_eq (a1:DJ) (o0:Ty.D ag):z0r.f k a1 o0=bnd (z0q.f k o0) fun r0=>br r0.1 (some ((),(r0.2.1,a1))) (some ((),r0.2)):=by kernel_rfl
def z0r.e:=Sg.entry z0r.sg fun x=>z0r.f k x.1 x.2
theorem z0r.ok:CallOK Tryz.prog 75 (z0r.e k):=GW (z0r.cx k) Tryz.func75 ⟨z0q.ok k,trivial⟩
def z0G.cx:=co (rg 0 [ri [0] [1000000,1000000],ri [0,3] [1000000,1000000],ri [0,3,4] [1000000,1000000],rh [0,3,4,7] [7,1000000,1000000] [0,3,4] [1000000,1000000],ri [0,3,4] [1000000,1000000],ri [0,3,4,10] [1000000,1000000],ri [0,3,4] [1000000,1000000],ri [0,3,4,15] [1000000,1000000],ri [0,3,4] [1000000,1000000],ri [0,3,4,5] [1000000,1000000],ri [0,3,4,5] [1000000,1000000],ri [0,3,4,5,39] [1000000,1000000],ri [0,3,4,42] [1000000,1000000],ri [0,3,4] [1000000,1000000],ri [3] [1000000],ri [2] [1000000],ri [2] [1000000]]) [(125,z0q.e k),(75,z0r.e k)] k
abbrev z0G.sg:Sg:=⟨[.ref],[ag],.dat J,[ag]⟩
def z0G.f (o0:Ty.D ag):=fo z0G.sg (z0G.cx k) Tryz.f70 o0
def z0G.l3 (n:Nat) (x3 x4:DJ) (m1000000:Ty.D ag):=lo z0G.sg (z0G.cx k) Tryz.f70 [1,1,0,1,0] 3 [0,3,4] [1000000,1000000] [] n ⟨[(0,.ref 1000000 []),(3,.dat J x3),(4,.dat J x4)],[(1000000,.dat ag m1000000)]⟩
theorem z0G.f_eq (o0:Ty.D ag):z0G.f k o0=z0G.l3 k k 0 0 o0:=by kernel_rfl
theorem z0G.l3_eq (n3:Nat) (x3 x4:DJ) (m1000000:Ty.D ag):z0G.l3 k (n3+1) x3 x4 m1000000=bnd (z0q.f k m1000000) fun r0=>br r0.1 (br (az x4 8) (bnd (z0r.f k 6 r0.2) fun r1=>z0G.l3 k n3 x3 (aH .i64 x4 1) r1.2) (br (bM (af r0.2.1) x4) (bnd (z0r.f k 4 r0.2) fun r2=>z0G.l3 k n3 x3 (aH .i64 x4 1) r2.2) (br (bO x4 r0.2.1) (br (aq (gB .i64 7 x4) 0) none (br (bM 128 (bj .i64 (bd r0.2.1 x4))) (z0G.l3 k n3 (FL .i64 x3 (xp .i64 (jL .i64 (bj .i64 (bd r0.2.1 x4)) 127) (gB .i64 7 x4))) (aH .i64 x4 1) r0.2) (br (az (bj .i64 (bd r0.2.1 x4)) 0) (br (aq 0 x4) (bnd (z0r.f k 3 r0.2) fun r3=>z0G.l3 k n3 (FL .i64 x3 (xp .i64 (jL .i64 (bj .i64 (bd r0.2.1 x4)) 127) (gB .i64 7 x4))) (aH .i64 x4 1) r3.2) (br (eE (aH .i64 x4 1) (af r0.2.1) (af r0.2.1)) (some ((FL .i64 x3 (xp .i64 (jL .i64 (bj .i64 (bd r0.2.1 x4)) 127) (gB .i64 7 x4))),((ba r0.2.1 (aH .i64 x4 1) (af r0.2.1)),r0.2.2))) none)) (br (eE (aH .i64 x4 1) (af r0.2.1) (af r0.2.1)) (some ((FL .i64 x3 (xp .i64 (jL .i64 (bj .i64 (bd r0.2.1 x4)) 127) (gB .i64 7 x4))),((ba r0.2.1 (aH .i64 x4 1) (af r0.2.1)),r0.2.2))) none)))) none))) (some (0,r0.2)):=by kernel_rfl
def z0G.e:=Sg.entry z0G.sg fun x=>z0G.f k x
theorem z0G.ok:CallOK Tryz.prog 70 (z0G.e k):=GW (z0G.cx k) Tryz.func70 ⟨z0q.ok k,z0r.ok k,trivial⟩
def z0t.cx:=co (rg 0 [ri [0] [1000000,1000000],ri [0,5] [1000000,1000000],ri [2] [1000000],ri [2] [1000000]]) [(125,z0q.e k)] k
abbrev z0t.sg:Sg:=⟨[.ref],[ag],.dat J,[ag]⟩
def z0t.f (o0:Ty.D ag):=fo z0t.sg (z0t.cx k) Tryz.f122 o0
theorem z0t.f_eq (o0:Ty.D ag):z0t.f k o0=bnd (z0q.f k o0) fun r0=>br (ai r0.1) (some (0,r0.2)) (some ((af r0.2.1),r0.2)):=by kernel_rfl
def z0t.e:=Sg.entry z0t.sg fun x=>z0t.f k x
theorem z0t.ok:CallOK Tryz.prog 122 (z0t.e k):=GW (z0t.cx k) Tryz.func122 ⟨z0q.ok k,trivial⟩
def z0p.cx:=co (rg 0 [ri [0] [1000000,1000000],ri [0,4] [1000000,1000000],ri [2] [1000000],ri [2] [1000000]]) [] k
abbrev z0p.sg:Sg:=⟨[.ref],[ag],.dat J,[ag]⟩
def z0p.f (o0:Ty.D ag):=fo z0p.sg (z0p.cx k) Tryz.f123 o0
theorem z0p.f_eq (o0:Ty.D ag):z0p.f k o0=some (o0.2,o0):=by kernel_rfl
def z0p.e:=Sg.entry z0p.sg fun x=>z0p.f k x
theorem z0p.ok:CallOK Tryz.prog 123 (z0p.e k):=GW (z0p.cx k) Tryz.func123 trivial
def z2k.cx:=co (rg 0 [ri [0] [0],ri [0,1] [0,1],ri [0,1,4] [0,1],rh [0,1,4,5] [0,1] [0,1,4] [0,1],ri [0,1,2,4] [0,1],ri [0,1,2,3,4] [0,1],ri [0,1,2,3,4,9] [0,1],rh [0,1,2,3,4,9,10] [0,1] [0,1,2,3,4,9] [0,1],ri [0,1,2,3,4,9,13] [0,1],ri [0,1,2,3,4,9] [0,1],ri [0,1,2,3,4,9] [0,1],ri [0,1,2,3,4,9] [0,1],ri [0,1,4] [0,1],ri [0,1,4] [0,1],ri [0] [0]]) [] k
abbrev z2k.sg:Sg:=⟨[],[],.dat (.arr 16 (.int .u32)),[]⟩
def z2k.f:=fo z2k.sg (z2k.cx k) Tryz.f242 ()
def z2k.l3 (n:Nat) (x4:DJ) (m0 m1:Ty.D (.arr 16 (.int .u32))):=lo z2k.sg (z2k.cx k) Tryz.f242 [1,1,0,1,0] 3 [0,1,4] [0,1] [] n ⟨[(0,.ref 0 []),(1,.ref 1 []),(4,.dat J x4)],[(0,.dat (.arr 16 (.int .u32)) m0),(1,.dat (.arr 16 (.int .u32)) m1)]⟩
def z2k.l7 (n3 n:Nat) (x2:DJ) (x3:Ty.D (.int .u32)) (x4 x9:DJ) (m0 m1:Ty.D (.arr 16 (.int .u32))):=lo z2k.sg (z2k.cx k) Tryz.f242 [1,1,0,1,0,0,1,1,0,0,1,1,0,1,0] 7 [0,1,2,3,4,9] [0,1] [n3] n ⟨[(0,.ref 0 []),(1,.ref 1 []),(2,.dat J x2),(3,.dat (.int .u32) x3),(4,.dat J x4),(9,.dat J x9)],[(0,.dat (.arr 16 (.int .u32)) m0),(1,.dat (.arr 16 (.int .u32)) m1)]⟩
theorem z2k.f_eq:z2k.f k=z2k.l3 k k 0 (aV 16 0) (aV 16 0):=by kernel_rfl
theorem z2k.l3_eq (n3:Nat) (x4:DJ) (m0 m1:Ty.D (.arr 16 (.int .u32))):z2k.l3 k (n3+1) x4 m0 m1=br (aq x4 16) (z2k.l7 k n3 k x4 (bj .u32 x4) x4 0 m0 m1) (some m1):=by kernel_rfl
theorem z2k.l7_eq (n3 n7:Nat) (x2:DJ) (x3:Ty.D (.int .u32)) (x4 x9:DJ) (m0 m1:Ty.D (.arr 16 (.int .u32))):z2k.l7 k n3 (n7+1) x2 x3 x4 x9 m0 m1=br (aq x9 4) (br (az (jL .u32 x3 1) 1) (z2k.l7 k n3 n7 x2 (fP .u32 (gZ .u32 x3 1) 3988292384) x4 (aH .i64 x9 1) m0 m1) (z2k.l7 k n3 n7 x2 (gZ .u32 x3 1) x4 (aH .i64 x9 1) m0 m1)) (br (gh x2 16) (z2k.l3 k n3 (aH .i64 x4 1) m0 (ja m1 (aj x2) x3)) none):=by kernel_rfl
def z2k.e:=Sg.entry z2k.sg fun x=>z2k.f k
theorem z2k.ok:CallOK Tryz.prog 242 (z2k.e k):=GW (z2k.cx k) Tryz.func242 trivial
def z2V.cx:=co (rg 0 [ri [0,1] [],ri [0,1,5] [5],ri [1,5,6] [5],ri [1,5,6,12,13] [5],rh [1,5,6,12,13,14] [5] [1,5,6,12,13] [5],ri [1,5,6,7,12,13] [5],ri [1,5,6,12,13] [5],ri [1,5,6,12,13] [5],ri [1,5,6,12,13] [5],ri [1,5,6,12,13] [5],ri [4] []]) [(242,z2k.e k)] k
abbrev z2V.sg:Sg:=⟨[.dat (.int .u32),.dat .str],[],.dat (.int .u32),[]⟩
def z2V.f (a0:Ty.D (.int .u32)) (a1:Ty.D .str):=fo z2V.sg (z2V.cx k) Tryz.f200 (a0,a1)
def z2V.l4 (n:Nat) (x1:Ty.D .str) (x6:Ty.D (.int .u32)) (x12 x13:DJ) (m5:Ty.D (.arr 16 (.int .u32))):=lo z2V.sg (z2V.cx k) Tryz.f200 [1,1,1,0,1,0] 4 [1,5,6,12,13] [5] [] n ⟨[(1,.dat .str x1),(5,.ref 5 []),(6,.dat (.int .u32) x6),(12,.dat J x12),(13,.dat J x13)],[(5,.dat (.arr 16 (.int .u32)) m5)]⟩
theorem z2V.f_eq (a0:Ty.D (.int .u32)) (a1:Ty.D .str):z2V.f k a0 a1=bnd (z2k.f k) fun r0=>z2V.l4 k k a1 (fP .u32 4294967295 a0) (af a1) 0 r0:=by kernel_rfl
theorem z2V.l4_eq (n4:Nat) (x1:Ty.D .str) (x6:Ty.D (.int .u32)) (x12 x13:DJ) (m5:Ty.D (.arr 16 (.int .u32))):z2V.l4 k (n4+1) x1 x6 x12 x13 m5=br (aq x13 x12) (br (bO x13 x1) (br (gh (jL .u32 (fP .u32 x6 (bj .u32 (bd x1 x13))) 15) 16) (br (gh (jL .u32 (fP .u32 (gZ .u32 (fP .u32 x6 (bj .u32 (bd x1 x13))) 4) (rd (.int .u32) m5 (aj (jL .u32 (fP .u32 x6 (bj .u32 (bd x1 x13))) 15)))) 15) 16) (z2V.l4 k n4 x1 (fP .u32 (gZ .u32 (fP .u32 (gZ .u32 (fP .u32 x6 (bj .u32 (bd x1 x13))) 4) (rd (.int .u32) m5 (aj (jL .u32 (fP .u32 x6 (bj .u32 (bd x1 x13))) 15)))) 4) (rd (.int .u32) m5 (aj (jL .u32 (fP .u32 (gZ .u32 (fP .u32 x6 (bj .u32 (bd x1 x13))) 4) (rd (.int .u32) m5 (aj (jL .u32 (fP .u32 x6 (bj .u32 (bd x1 x13))) 15)))) 15)))) x12 (aH .i64 x13 1) m5) none) none) none) (some (fP .u32 4294967295 x6)):=by kernel_rfl
def z2V.e:=Sg.entry z2V.sg fun x=>z2V.f k x.1 x.2
theorem z2V.ok:CallOK Tryz.prog 200 (z2V.e k):=GW (z2V.cx k) Tryz.func200 ⟨z2k.ok k,trivial⟩
def z3e.cx:=co (rg 0 [ri [0] [],ri [2] [4]]) [(200,z2V.e k)] k
abbrev z3e.sg:Sg:=⟨[.dat .str],[],.dat (.int .u32),[]⟩
def z3e.f (a0:Ty.D .str):=fo z3e.sg (z3e.cx k) Tryz.f136 a0
theorem z3e.f_eq (a0:Ty.D .str):z3e.f k a0=bnd (z2V.f k 0 a0) fun r0=>some r0:=by kernel_rfl
def z3e.e:=Sg.entry z3e.sg fun x=>z3e.f k x
theorem z3e.ok:CallOK Tryz.prog 136 (z3e.e k):=GW (z3e.cx k) Tryz.func136 ⟨z2V.ok k,trivial⟩
def z32.cx:=co (rg 0 [ri [0] [],ri [0,4] [],rq [0,4,20] [] 13,ri [2,3] [],ri [2,3] []]) [(136,z3e.e k),(135,yE)] k
abbrev z32.sg:Sg:=⟨[.dat .str],[],.t2 (.dat .str) (.dat .bool),[]⟩
def z32.f (a0:Ty.D .str):=fo z32.sg (z32.cx k) Tryz.f124 a0
theorem z32.f_eq (a0:Ty.D .str):z32.f k a0=br (aq (bw .i64 (af a0) 4) 0) (some ([],false)) (br (eE 0 (bw .i64 (af a0) 4) (af a0)) (bnd (z3e.f k (ba a0 0 (bw .i64 (af a0) 4))) fun r0=>bnd (YtfhcammihohmjaaGreatDoor.sumBI r0) fun r1=>br (eE (bw .i64 (af a0) 4) (af a0) (af a0)) (br (ai (seq r1 (ba a0 (bw .i64 (af a0) 4) (af a0)))) (some ([],false)) (br (eE 0 (bw .i64 (af a0) 4) (af a0)) (some ((ba a0 0 (bw .i64 (af a0) 4)),true)) none)) none) none):=by kernel_rfl
def z32.e:=Sg.entry z32.sg fun x=>z32.f k x
theorem z32.ok:CallOK Tryz.prog 124 (z32.e k):=GW (z32.cx k) Tryz.func124 ⟨z3e.ok k,o8,trivial⟩
def z2x.cx:=co (rg 0 [ri [0] [],ri [0,5] [11],ri [0,5,6] [11,13],ri [0,5,6,7] [11,13],ri [0,5,6,7,19] [11,13],ri [2,3,4] [24,41],ri [0,5,6,7,25] [11,13],ri [2,3,4] [24,41],ri [0,6,7,28] [13],ri [2,3,4] [24,41],ri [0,6,7,8,9] [13,41],ri [0,6,7,8,45] [13,41],ri [2,3,4] [24,41],rq [2,3,4] [24,41] 10]) [(69,z2l.e k),(70,z0G.e k),(122,z0t.e k),(123,z0p.e k),(124,z32.e k)] k
abbrev z2x.sg:Sg:=⟨[.dat .str],[],.t3 .str .str J,[]⟩
def z2x.f (a0:Ty.D .str):=fo z2x.sg (z2x.cx k) Tryz.f68 a0
theorem z2x.f_eq (a0:Ty.D .str):z2x.f k a0=bnd (z2l.f k a0) fun r0=>bnd (z0G.f k r0.2) fun r1=>bnd (z0t.f k r1.2) fun r2=>bnd (z0p.f k r2.2) fun r3=>br (ai (az r3.1 0)) (bnd (z0p.f k r3.2) fun r4=>some ([],[],r4.1)) (br (aq 1048576 r1.1) (some ([],[],6)) (bnd (z0t.f k r3.2) fun r5=>br (aq r5.1 (aH .i64 r1.1 4)) (some ([],[],4)) (br (eE 0 (aH .i64 (aH .i64 (bw .i64 (af a0) r2.1) r1.1) 4) (af a0)) (bnd (z32.f k (ba a0 0 (aH .i64 (aH .i64 (bw .i64 (af a0) r2.1) r1.1) 4))) fun r6=>br (ai r6.2) (some ([],[],5)) (br (eE (bw .i64 (af a0) r2.1) (af r6.1) (af r6.1)) (br (eE (aH .i64 (aH .i64 (bw .i64 (af a0) r2.1) r1.1) 4) (af a0) (af a0)) (some ((ba r6.1 (bw .i64 (af a0) r2.1) (af r6.1)),(ba a0 (aH .i64 (aH .i64 (bw .i64 (af a0) r2.1) r1.1) 4) (af a0)),0)) none) none)) none))):=by kernel_rfl
def z2x.e:=Sg.entry z2x.sg fun x=>z2x.f k x
theorem z2x.ok:CallOK Tryz.prog 68 (z2x.e k):=GW (z2x.cx k) Tryz.func68 ⟨z2l.ok k,z0G.ok k,z0t.ok k,z0p.ok k,z32.ok k,trivial⟩
def z1N.cx:=co (rg 0 [ri [0] [],ri [0,4] [],ri [0,4,5] [14],rh [0,4,5,11] [14] [0,4,5] [14],ri [0,4,5,6,7,8] [14],ri [0,4,5,6,7,19] [14],rv [0,4,7] [14] [0,3,4],ri [0,4,5] [14],rv [2,3] [] [0,6]]) [(68,z2x.e k)] k
abbrev z1N.sg:Sg:=⟨[.dat .str],[],.t2 (.dat (.slc .str)) (.dat J),[]⟩
def z1N.f (a0:Ty.D .str):=fo z1N.sg (z1N.cx k) Tryz.f26 a0
def z1N.l3 (n:Nat) (x0:Ty.D .str) (x4:List (Ty.D .str)) (x5:Ty.D .str):=lo z1N.sg (z1N.cx k) Tryz.f26 [1,1,1,0,0] 3 [0,4,5] [14] [] n ⟨[(0,.dat .str x0),(4,.own .str x4),(5,.dat .str x5)],[]⟩
theorem z1N.f_eq (a0:Ty.D .str):z1N.f k a0=z1N.l3 k k a0 [] a0:=by kernel_rfl
theorem z1N.l3_eq (n3:Nat) (x0:Ty.D .str) (x4:List (Ty.D .str)) (x5:Ty.D .str):z1N.l3 k (n3+1) x0 x4 x5=br (ai (seq x5 [])) (bnd (z2x.f k x5) fun r0=>br (ai (az r0.2.2 0)) (some (x4,(bw .i64 (af x0) (af x5)))) (br (bm x4 (r0.1::[])) (z1N.l3 k n3 x0 (app x4 (r0.1::[])) r0.2.1) none)) (some (x4,(bw .i64 (af x0) (af x5)))):=by kernel_rfl
def z1N.e:=Sg.entry z1N.sg fun x=>z1N.f k x
theorem z1N.ok:CallOK Tryz.prog 26 (z1N.e k):=GW (z1N.cx k) Tryz.func26 ⟨z2x.ok k,trivial⟩
def z2O.cx:=co (rg 0 [ri [0,2] [2,1000000,1000000],ri [0,2,3] [2,3,1000000,1000000],ri [0,2,3,16] [2,3,1000000,1000000],ri [0,2,3] [2,3,1000000,1000000],ri [2,3,21] [2,3,1000000],ri [2] [2,1000000],ri [2] [2,1000000]]) [(70,z0G.e k),(123,z0p.e k),(128,z2F.e k),(75,z0r.e k)] k
abbrev z2O.sg:Sg:=⟨[.ref],[ag],.dat ah,[ag]⟩
def z2O.f (o0:Ty.D ag):=fo z2O.sg (z2O.cx k) Tryz.f72 o0
theorem z2O.f_eq (o0:Ty.D ag):z2O.f k o0=bnd (z0G.f k o0) fun r0=>bnd (z0G.f k r0.2) fun r1=>bnd (z0p.f k r1.2) fun r2=>br (az r2.1 0) (bnd (z2F.f k (r0.1,r1.1)) fun r3=>br (ai r3) (bnd (z0r.f k 2 r2.2) fun r4=>bnd (z0p.f k r4.2) fun r5=>br (ai (az r5.1 0)) (some ((0,0),r5.2)) (some ((r0.1,r1.1),r5.2))) (bnd (z0p.f k r2.2) fun r6=>br (ai (az r6.1 0)) (some ((0,0),r6.2)) (some ((r0.1,r1.1),r6.2)))) (bnd (z0p.f k r2.2) fun r7=>br (ai (az r7.1 0)) (some ((0,0),r7.2)) (some ((r0.1,r1.1),r7.2))):=by kernel_rfl
def z2O.e:=Sg.entry z2O.sg fun x=>z2O.f k x
theorem z2O.ok:CallOK Tryz.prog 72 (z2O.e k):=GW (z2O.cx k) Tryz.func72 ⟨z0G.ok k,z0p.ok k,z2F.ok k,z0r.ok k,trivial⟩
def z0y.cx:=co (rg 0 [ri [0,1] [1000000,1000000],ri [0,1,5] [7,1000000,1000000],ri [0,1,5,8] [7,1000000,1000000],ri [4] [7,1000000],ri [0,5,12] [7,1000000,1000000],ri [] [1000000],ri [4] [7,1000000],ri [0,5,18] [7,1000000,1000000],ri [] [1000000],ri [4] [7,1000000],ri [4] [7,1000000]]) [(70,z0G.e k),(125,z0q.e k),(75,z0r.e k)] k
abbrev z0y.sg:Sg:=⟨[.ref,.dat J],[ag],.dat J,[ag]⟩
def z0y.f (a1:DJ) (o0:Ty.D ag):=fo z0y.sg (z0y.cx k) Tryz.f126 (a1,o0)
theorem z0y.f_eq (a1:DJ) (o0:Ty.D ag):z0y.f k a1 o0=bnd (z0G.f k o0) fun r0=>bnd (z0q.f k r0.2) fun r1=>br (ai r1.1) (some (0,r1.2)) (br (aq a1 r0.1) (bnd (z0r.f k 6 r1.2) fun r2=>some (0,r2.2)) (br (aq (af r1.2.1) r0.1) (bnd (z0r.f k 4 r1.2) fun r3=>some (0,r3.2)) (some (r0.1,r1.2)))):=by kernel_rfl
def z0y.e:=Sg.entry z0y.sg fun x=>z0y.f k x.1 x.2
theorem z0y.ok:CallOK Tryz.prog 126 (z0y.e k):=GW (z0y.cx k) Tryz.func126 ⟨z0G.ok k,z0q.ok k,z0r.ok k,trivial⟩
def z0B.cx:=co (rg 0 [ri [0] [1000000,1000000],ri [0,3] [6,1000000,1000000],ri [0,3,17] [6,8,1000000,1000000],ri [0,3] [6,1000000,1000000],ri [0,3,22] [6,1000000,1000000],ri [2] [6,1000000],ri [0,3,4] [6,1000000,1000000],ri [4] [6,1000000],ri [2] [6,1000000]]) [(70,z0G.e k),(125,z0q.e k),(75,z0r.e k)] k
abbrev z0B.sg:Sg:=⟨[.ref],[ag],.dat .str,[ag]⟩
def z0B.f (o0:Ty.D ag):=fo z0B.sg (z0B.cx k) Tryz.f238 o0
theorem z0B.f_eq (o0:Ty.D ag):z0B.f k o0=bnd (z0G.f k o0) fun r0=>bnd (z0q.f k r0.2) fun r1=>br r1.1 (br (aq (af r1.2.1) r0.1) (bnd (z0r.f k 4 r1.2) fun r2=>bnd (z0q.f k r2.2) fun r3=>br (ai r3.1) (some ([],r3.2)) (br (eE 0 r0.1 (af r3.2.1)) (br (eE r0.1 (af r3.2.1) (af r3.2.1)) (some ((ba r3.2.1 0 r0.1),((ba r3.2.1 r0.1 (af r3.2.1)),r3.2.2))) none) none)) (bnd (z0q.f k r1.2) fun r4=>br (ai r4.1) (some ([],r4.2)) (br (eE 0 r0.1 (af r4.2.1)) (br (eE r0.1 (af r4.2.1) (af r4.2.1)) (some ((ba r4.2.1 0 r0.1),((ba r4.2.1 r0.1 (af r4.2.1)),r4.2.2))) none) none))) (bnd (z0q.f k r1.2) fun r5=>br (ai r5.1) (some ([],r5.2)) (br (eE 0 r0.1 (af r5.2.1)) (br (eE r0.1 (af r5.2.1) (af r5.2.1)) (some ((ba r5.2.1 0 r0.1),((ba r5.2.1 r0.1 (af r5.2.1)),r5.2.2))) none) none)):=by kernel_rfl
def z0B.e:=Sg.entry z0B.sg fun x=>z0B.f k x
theorem z0B.ok:CallOK Tryz.prog 238 (z0B.e k):=GW (z0B.cx k) Tryz.func238 ⟨z0G.ok k,z0q.ok k,z0r.ok k,trivial⟩
def z2R.cx:=co (rg 0 [ri [0] [],ri [0,3] [],ri [0,3] [],ri [2] [],ri [2] []]) [] k
abbrev z2R.sg:Sg:=⟨[.dat (.int .i32)],[],.dat .bool,[]⟩
def z2R.f (a0:Ty.D (.int .i32)):=fo z2R.sg (z2R.cx k) Tryz.f274 a0
theorem z2R.f_eq (a0:Ty.D (.int .i32)):z2R.f k a0=br (aq a0 32) (br (aq a0 32) (some false) (some (ai (az a0 65533)))) (br (bM 127 a0) (br (aq a0 160) (some false) (some (ai (az a0 65533)))) (some (ai (az a0 65533)))):=by kernel_rfl
def z2R.e:=Sg.entry z2R.sg fun x=>z2R.f k x
theorem z2R.ok:CallOK Tryz.prog 274 (z2R.e k):=GW (z2R.cx k) Tryz.func274 trivial
def z1K.cx:=co (rg 0 [ri [0] [],rv [3,4] [9] [5],ri [3,23] [9],ri [2] [],ri [24,25,26] [9],rh [24,25,26,27] [9] [24,25,26] [9],ri [6,24,25,26] [9],ri [24,25,26,32] [9],ri [2] [],ri [24,25,26] [9],ri [2] []]) [(262,yA),(274,z2R.e k)] k
abbrev z1K.sg:Sg:=⟨[.dat .str],[],.dat .bool,[]⟩
def z1K.f (a0:Ty.D .str):=fo z1K.sg (z1K.cx k) Tryz.f249 a0
def z1K.l5 (n:Nat) (x24:Ty.D (.slc (.int .i32))) (x25 x26:DJ):=lo z1K.sg (z1K.cx k) Tryz.f249 [1,1,1,0,1,0] 5 [24,25,26] [9] [] n ⟨[(24,.dat (.slc (.int .i32)) x24),(25,.dat J x25),(26,.dat J x26)],[]⟩
theorem z1K.f_eq (a0:Ty.D .str):z1K.f k a0=bnd (gz a0) fun r0=>br (ai r0.2) (some false) (br (az (af r0.1) 0) (some false) (br (aq 24 (af r0.1)) (some false) (z1K.l5 k k r0.1 (af r0.1) 0))):=by kernel_rfl
theorem z1K.l5_eq (n5:Nat) (x24:Ty.D (.slc (.int .i32))) (x25 x26:DJ):z1K.l5 k (n5+1) x24 x25 x26=br (aq x26 x25) (br (bO x26 x24) (bnd (z2R.f k (rd (.int .i32) x24 (aj x26))) fun r0=>br (ai r0) (some false) (z1K.l5 k n5 x24 x25 (aH .i64 x26 1))) none) (some true):=by kernel_rfl
def z1K.e:=Sg.entry z1K.sg fun x=>z1K.f k x
theorem z1K.ok:CallOK Tryz.prog 249 (z1K.e k):=GW (z1K.cx k) Tryz.func249 ⟨vi,z2R.ok k,trivial⟩
def z0Z.cx:=co (rg 0 [ri [0] [],ri [2] []]) [(249,z1K.e k)] k
abbrev z0Z.sg:Sg:=⟨[.dat .str],[],.dat .bool,[]⟩
def z0Z.f (a0:Ty.D .str):=fo z0Z.sg (z0Z.cx k) Tryz.f248 a0
theorem z0Z.f_eq (a0:Ty.D .str):z0Z.f k a0=bnd (z1K.f k a0) fun r0=>some (ai r0):=by kernel_rfl
def z0Z.e:=Sg.entry z0Z.sg fun x=>z0Z.f k x
theorem z0Z.ok:CallOK Tryz.prog 248 (z0Z.e k):=GW (z0Z.cx k) Tryz.func248 ⟨z1K.ok k,trivial⟩
def z0c.cx:=co (rg 0 [ri [0,1] [],ri [0,1,7,8] [],rh [0,1,7,8,9] [] [0,1,7,8] [],ri [0,1,5,7,8] [],ri [0,1,5,7,8,16] [16],ri [4] [],ri [0,1,7,8] [],ri [4] []]) [(248,z0Z.e k)] k
abbrev z0c.sg:Sg:=⟨[.dat (.slc .str),.fn 248 0],[],.dat J,[]⟩
def z0c.f (a0:Ty.D (.slc .str)):=fo z0c.sg (z0c.cx k) Tryz.f273 a0
def z0c.l2 (n:Nat) (x0:Ty.D (.slc .str)) (x7 x8:DJ):=lo z0c.sg (z0c.cx k) Tryz.f273 [1,0,1,0] 2 [0,1,7,8] [] [] n ⟨[(0,.dat (.slc .str) x0),(1,.fn 248 []),(7,.dat J x7),(8,.dat J x8)],[]⟩
theorem z0c.f_eq (a0:Ty.D (.slc .str)):z0c.f k a0=z0c.l2 k k a0 (af a0) 0:=by kernel_rfl
theorem z0c.l2_eq (n2:Nat) (x0:Ty.D (.slc .str)) (x7 x8:DJ):z0c.l2 k (n2+1) x0 x7 x8=br (aq x8 x7) (br (bO x8 x0) (bnd (z0Z.f k (rd .str x0 (aj x8))) fun r0=>br r0 (some x8) (z0c.l2 k n2 x0 x7 (aH .i64 x8 1))) none) (some (-1)):=by kernel_rfl
def z0c.e:=Sg.entry z0c.sg fun x=>z0c.f k x
theorem z0c.ok:CallOK Tryz.prog 273 (z0c.e k):=GW (z0c.cx k) Tryz.func273 ⟨z0Z.ok k,trivial⟩
def z09.cx:=co (rg 0 [ri [0,1] [],ri [4] []]) [(273,z0c.e k),(248,z0Z.e k)] k
abbrev z09.sg:Sg:=⟨[.dat (.slc .str),.fn 248 0],[],.dat .bool,[]⟩
def z09.f (a0:Ty.D (.slc .str)):=fo z09.sg (z09.cx k) Tryz.f247 a0
theorem z09.f_eq (a0:Ty.D (.slc .str)):z09.f k a0=bnd (z0c.f k a0) fun r0=>some (bM 0 r0):=by kernel_rfl
def z09.e:=Sg.entry z09.sg fun x=>z09.f k x
theorem z09.ok:CallOK Tryz.prog 247 (z09.e k):=GW (z09.cx k) Tryz.func247 ⟨z0c.ok k,z0Z.ok k,trivial⟩
def z1Q.cx:=co (rg 0 [ri [0] [],ri [0,3] [],ri [2] [],ri [0,7] [],ri [2] [],ri [11] [13],ri [2] [],ri [2] []]) [(247,z09.e k),(248,z0Z.e k)] k
abbrev z1Q.sg:Sg:=⟨[.dat (.slc .str)],[],.dat J,[]⟩
def z1Q.f (a0:Ty.D (.slc .str)):=fo z1Q.sg (z1Q.cx k) Tryz.f211 a0
theorem z1Q.f_eq (a0:Ty.D (.slc .str)):z1Q.f k a0=br (az (af a0) 0) (some 8) (br (aq 8 (af a0)) (some 9) (bnd (z09.f k a0) fun r0=>br r0 (some 8) (some 0))):=by kernel_rfl
def z1Q.e:=Sg.entry z1Q.sg fun x=>z1Q.f k x
theorem z1Q.ok:CallOK Tryz.prog 211 (z1Q.e k):=GW (z1Q.cx k) Tryz.func211 ⟨z09.ok k,z0Z.ok k,trivial⟩
def z2J.cx:=co (rg 0 [ri [0] [1000000,1000000],ri [0,3] [1000000,1000000],ri [0,3,5,6] [5,1000000,1000000],rh [0,3,5,6,7] [5,1000000,1000000] [0,3,5,6] [5,1000000,1000000],rv [0,3,5,6] [5,1000000,1000000] [0,4,5],ri [0,3,5,6] [5,1000000,1000000],ri [0,3,16] [1000000,1000000],ri [0,3] [1000000,1000000],ri [3,23] [1000000],ri [2] [1000000],rv [2] [1000000] [0,1]]) [(126,z0y.e k),(238,z0B.e k),(123,z0p.e k),(211,z1Q.e k),(75,z0r.e k)] k
abbrev z2J.sg:Sg:=⟨[.ref],[ag],.own .str,[ag]⟩
def z2J.f (o0:Ty.D ag):=fo z2J.sg (z2J.cx k) Tryz.f192 o0
def z2J.l3 (n:Nat) (x3:List (Ty.D .str)) (x5 x6:DJ) (m1000000:Ty.D ag):=lo z2J.sg (z2J.cx k) Tryz.f192 [1,1,0,1,0] 3 [0,3,5,6] [5,1000000,1000000] [] n ⟨[(0,.ref 1000000 []),(3,.own .str x3),(5,.dat J x5),(6,.dat J x6)],[(1000000,.dat ag m1000000)]⟩
theorem z2J.f_eq (o0:Ty.D ag):z2J.f k o0=bnd (z0y.f k 8 o0) fun r0=>z2J.l3 k k [] r0.1 0 r0.2:=by kernel_rfl
theorem z2J.l3_eq (n3:Nat) (x3:List (Ty.D .str)) (x5 x6:DJ) (m1000000:Ty.D ag):z2J.l3 k (n3+1) x3 x5 x6 m1000000=br (aq x6 x5) (bnd (z0B.f k m1000000) fun r0=>br (bm x3 (r0.1::[])) (z2J.l3 k n3 (app x3 (r0.1::[])) x5 (aH .i64 x6 1) r0.2) none) (bnd (z0p.f k m1000000) fun r1=>br (az r1.1 0) (bnd (z1Q.f k x3) fun r2=>bnd (z0r.f k r2 r1.2) fun r3=>bnd (z0p.f k r3.2) fun r4=>br (ai (az r4.1 0)) (some ([],r4.2)) (some (x3,r4.2))) (bnd (z0p.f k r1.2) fun r5=>br (ai (az r5.1 0)) (some ([],r5.2)) (some (x3,r5.2)))):=by kernel_rfl
def z2J.e:=Sg.entry z2J.sg fun x=>z2J.f k x
theorem z2J.ok:CallOK Tryz.prog 192 (z2J.e k):=GW (z2J.cx k) Tryz.func192 ⟨z0y.ok k,z0B.ok k,z0p.ok k,z1Q.ok k,z0r.ok k,trivial⟩
def z0Y.cx:=co (rg 0 [ri [0] [],ri [0,5] [],ri [2] [],ri [2] []]) [] k
abbrev z0Y.sg:Sg:=⟨[.dat J],[],.dat J,[]⟩
def z0Y.f (a0:DJ):=fo z0Y.sg (z0Y.cx k) Tryz.f193 a0
theorem z0Y.f_eq (a0:DJ):z0Y.f k a0=br (az (As a0 2) 1) (some (pG .i64 (bw .i64 0 (aH .i64 a0 1)) 2)) (some (pG .i64 a0 2)):=by kernel_rfl
def z0Y.e:=Sg.entry z0Y.sg fun x=>z0Y.f k x
theorem z0Y.ok:CallOK Tryz.prog 193 (z0Y.e k):=GW (z0Y.cx k) Tryz.func193 trivial
def z1r.cx:=co (rg 0 [ri [1] [1],ri [1,6] [1],ri [1,6,7] [1],ri [2] [27],ri [1,6,22] [1],rv [1,4] [1,27] [6],ri [2] [27],ri [1,42] [1],ri [2] [27],ri [2] [27]]) [(262,yA)] k
abbrev z1r.sg:Sg:=⟨[.dat cC],[],.dat .bool,[]⟩
def z1r.f (a0:Ty.D cC):=fo z1r.sg (z1r.cx k) Tryz.f239 a0
theorem z1r.f_eq (a0:Ty.D cC):z1r.f k a0=br (az a0.1 1) (br (seq a0.2.2 []) (br (bM (-2147483647) a0.2.1) (some (bM a0.2.1 2147483647)) (some false)) (some false)) (br (az a0.1 2) (bnd (gz a0.2.2) fun r0=>br r0.2 (br (az a0.2.1 0) (some (bM (af a0.2.2) 64)) (some false)) (some false)) (br (az a0.1 3) (br (seq a0.2.2 []) (br (az a0.2.1 0) (some true) (some (az a0.2.1 1))) (some false)) (some false))):=by kernel_rfl
def z1r.e:=Sg.entry z1r.sg fun x=>z1r.f k x
theorem z1r.ok:CallOK Tryz.prog 239 (z1r.e k):=GW (z1r.cx k) Tryz.func239 ⟨vi,trivial⟩
def z23.cx:=co (rg 0 [ri [0,2] [2,1000000,1000000],ri [0,2,3] [2,3,1000000,1000000],ri [0,2,3,9] [2,3,1000000,1000000],ri [0,2,3] [2,3,1000000,1000000],ri [0,2,3] [2,3,1000000,1000000],ri [0,2,3,24] [2,3,1000000,1000000],ri [0,2,3] [2,3,1000000,1000000],ri [2,3,29] [2,3,1000000],ri [2] [2,1000000],ri [2] [2,1000000]]) [(70,z0G.e k),(238,z0B.e k),(193,z0Y.e k),(123,z0p.e k),(239,z1r.e k),(75,z0r.e k)] k
abbrev z23.sg:Sg:=⟨[.ref],[ag],.dat cC,[ag]⟩
def z23.f (o0:Ty.D ag):=fo z23.sg (z23.cx k) Tryz.f194 o0
theorem z23.f_eq (o0:Ty.D ag):z23.f k o0=bnd (z0G.f k o0) fun r0=>br (az r0.1 2) (bnd (z0B.f k r0.2) fun r1=>bnd (z0p.f k r1.2) fun r2=>br (az r2.1 0) (bnd (z1r.f k (r0.1,(0,r1.1))) fun r3=>br (ai r3) (bnd (z0r.f k 2 r2.2) fun r4=>bnd (z0p.f k r4.2) fun r5=>br (ai (az r5.1 0)) (some ((0,(0,[])),r5.2)) (some ((r0.1,(0,r1.1)),r5.2))) (bnd (z0p.f k r2.2) fun r6=>br (ai (az r6.1 0)) (some ((0,(0,[])),r6.2)) (some ((r0.1,(0,r1.1)),r6.2)))) (bnd (z0p.f k r2.2) fun r7=>br (ai (az r7.1 0)) (some ((0,(0,[])),r7.2)) (some ((r0.1,(0,r1.1)),r7.2)))) (bnd (z0G.f k r0.2) fun r8=>bnd (z0Y.f k r8.1) fun r9=>bnd (z0p.f k r8.2) fun r10=>br (az r10.1 0) (bnd (z1r.f k (r0.1,(r9,[]))) fun r11=>br (ai r11) (bnd (z0r.f k 2 r10.2) fun r12=>bnd (z0p.f k r12.2) fun r13=>br (ai (az r13.1 0)) (some ((0,(0,[])),r13.2)) (some ((r0.1,(r9,[])),r13.2))) (bnd (z0p.f k r10.2) fun r14=>br (ai (az r14.1 0)) (some ((0,(0,[])),r14.2)) (some ((r0.1,(r9,[])),r14.2)))) (bnd (z0p.f k r10.2) fun r15=>br (ai (az r15.1 0)) (some ((0,(0,[])),r15.2)) (some ((r0.1,(r9,[])),r15.2)))):=by kernel_rfl
def z23.e:=Sg.entry z23.sg fun x=>z23.f k x
theorem z23.ok:CallOK Tryz.prog 194 (z23.e k):=GW (z23.cx k) Tryz.func194 ⟨z0G.ok k,z0B.ok k,z0Y.ok k,z0p.ok k,z1r.ok k,z0r.ok k,trivial⟩
def z3a.cx:=co (rg 0 [ri [0] [1000000,1000000],ri [0,3] [1000000,1000000],ri [0,3,5,6] [5,1000000,1000000],rh [0,3,5,6,7] [5,1000000,1000000] [0,3,5,6] [5,1000000,1000000],rv [0,3,5,6] [5,1000000,1000000] [0,7,8],ri [0,3,5,6] [5,1000000,1000000],rv [2] [1000000] [0,1]]) [(126,z0y.e k),(72,z2O.e k),(70,z0G.e k)] k
abbrev z3a.sg:Sg:=⟨[.ref],[ag],.own ak,[ag]⟩
def z3a.f (o0:Ty.D ag):=fo z3a.sg (z3a.cx k) Tryz.f195 o0
def z3a.l3 (n:Nat) (x3:List (Ty.D ak)) (x5 x6:DJ) (m1000000:Ty.D ag):=lo z3a.sg (z3a.cx k) Tryz.f195 [1,1,0,1,0] 3 [0,3,5,6] [5,1000000,1000000] [] n ⟨[(0,.ref 1000000 []),(3,.own ak x3),(5,.dat J x5),(6,.dat J x6)],[(1000000,.dat ag m1000000)]⟩
theorem z3a.f_eq (o0:Ty.D ag):z3a.f k o0=bnd (z0y.f k 256 o0) fun r0=>z3a.l3 k k [] r0.1 0 r0.2:=by kernel_rfl
theorem z3a.l3_eq (n3:Nat) (x3:List (Ty.D ak)) (x5 x6:DJ) (m1000000:Ty.D ag):z3a.l3 k (n3+1) x3 x5 x6 m1000000=br (aq x6 x5) (bnd (z2O.f k m1000000) fun r0=>bnd (z0G.f k r0.2) fun r1=>br (bm x3 ((r0.1,r1.1)::[])) (z3a.l3 k n3 (app x3 ((r0.1,r1.1)::[])) x5 (aH .i64 x6 1) r1.2) none) (some (x3,m1000000)):=by kernel_rfl
def z3a.e:=Sg.entry z3a.sg fun x=>z3a.f k x
theorem z3a.ok:CallOK Tryz.prog 195 (z3a.e k):=GW (z3a.cx k) Tryz.func195 ⟨z0y.ok k,z2O.ok k,z0G.ok k,trivial⟩
def z2u.cx:=co (rg 0 [rv [1] [1] [0],ri [1,10] [1],ri [2] [17],ri [2] [17]]) [(239,z1r.e k)] k
abbrev z2u.sg:Sg:=⟨[.dat eJ],[],.dat .bool,[]⟩
def z2u.f (a0:Ty.D eJ):=fo z2u.sg (z2u.cx k) Tryz.f212 a0
theorem z2u.f_eq (a0:Ty.D eJ):z2u.f k a0=br (az a0.1 3) (some (eQ cC a0.2.2.1 (0,(0,[])))) (br (az a0.1 5) (some (eQ cC a0.2.2.1 (0,(0,[])))) (bnd (z1r.f k a0.2.2.1) fun r0=>some r0)):=by kernel_rfl
def z2u.e:=Sg.entry z2u.sg fun x=>z2u.f k x
theorem z2u.ok:CallOK Tryz.prog 212 (z2u.e k):=GW (z2u.cx k) Tryz.func212 ⟨z1r.ok k,trivial⟩
def z2B.cx:=co (rg 0 [rv [1] [1] [0],ri [1,5] [1],ri [2] [],ri [2] []]) [] k
abbrev z2B.sg:Sg:=⟨[.dat eJ],[],.dat .bool,[]⟩
def z2B.f (a0:Ty.D eJ):=fo z2B.sg (z2B.cx k) Tryz.f213 a0
theorem z2B.f_eq (a0:Ty.D eJ):z2B.f k a0=br (az a0.1 3) (br (ai (az a0.2.2.2.1 0)) (br (bM (-2147483647) a0.2.2.2.1) (some (bM a0.2.2.2.1 2147483647)) (some false)) (some false)) (some (az a0.2.2.2.1 0)):=by kernel_rfl
def z2B.e:=Sg.entry z2B.sg fun x=>z2B.f k x
theorem z2B.ok:CallOK Tryz.prog 213 (z2B.e k):=GW (z2B.cx k) Tryz.func213 trivial
def z33.cx:=co (rg 0 [ri [2,3] [2,3],rq [4] [16] 12]) [(178,z1d.e k),(225,z0D.e k),(224,z1F.e k)] k
abbrev z33.sg:Sg:=⟨[.dat ak,.dat ak],[],.dat J,[]⟩
def z33.f (a0 a1:Ty.D ak):=fo z33.sg (z33.cx k) Tryz.f250 (a0,a1)
theorem z33.f_eq (a0 a1:Ty.D ak):z33.f k a0 a1=bnd (z1d.f k a0.1 a1.1) fun r0=>bnd (z0D.f k a0.2 a1.2) fun r1=>bnd (z1F.f k (r0::(r1::[]))) fun r2=>some r2:=by kernel_rfl
def z33.e:=Sg.entry z33.sg fun x=>z33.f k x.1 x.2
theorem z33.ok:CallOK Tryz.prog 250 (z33.e k):=GW (z33.cx k) Tryz.func250 ⟨z1d.ok k,z0D.ok k,z1F.ok k,trivial⟩
def z3d.cx:=co (rg 0 [ri [0] [],ri [0,5,6,7] [],rh [0,5,6,7,8] [] [0,5,6,7] [],ri [0,3,4,5,6,7] [4],rq [0,5,6,7,39] [] 28,ri [2] [],ri [0,5,6,7] [],ri [2] []]) [(128,z2F.e k),(250,z33.e k)] k
abbrev z3d.sg:Sg:=⟨[.dat (.slc ak)],[],.dat .bool,[]⟩
def z3d.f (a0:Ty.D (.slc ak)):=fo z3d.sg (z3d.cx k) Tryz.f214 a0
def z3d.l2 (n:Nat) (x0 x5:Ty.D (.slc ak)) (x6 x7:DJ):=lo z3d.sg (z3d.cx k) Tryz.f214 [1,0,1,0] 2 [0,5,6,7] [] [] n ⟨[(0,.dat (.slc ak) x0),(5,.dat (.slc ak) x5),(6,.dat J x6),(7,.dat J x7)],[]⟩
theorem z3d.f_eq (a0:Ty.D (.slc ak)):z3d.f k a0=z3d.l2 k k a0 a0 (af a0) 0:=by kernel_rfl
theorem z3d.l2_eq (n2:Nat) (x0 x5:Ty.D (.slc ak)) (x6 x7:DJ):z3d.l2 k (n2+1) x0 x5 x6 x7=br (aq x7 x6) (br (bO x7 x5) (bnd (z2F.f k ((rd ak x5 (aj x7)).1)) fun r0=>br (ai r0) (some false) (br (aq ((rd ak x5 (aj x7)).2) 0) (some false) (br (bM 16 ((rd ak x5 (aj x7)).2)) (some false) (br (aq 0 x7) (br (bO (bw .i64 x7 1) x0) (bnd (z33.f k (rd ak x0 (aj (bw .i64 x7 1))) (rd ak x5 (aj x7))) fun r1=>br (bM 0 r1) (some false) (z3d.l2 k n2 x0 x5 x6 (aH .i64 x7 1))) none) (z3d.l2 k n2 x0 x5 x6 (aH .i64 x7 1)))))) none) (some true):=by kernel_rfl
def z3d.e:=Sg.entry z3d.sg fun x=>z3d.f k x
theorem z3d.ok:CallOK Tryz.prog 214 (z3d.e k):=GW (z3d.cx k) Tryz.func214 ⟨z2F.ok k,z33.ok k,trivial⟩
def z2Z.cx:=co (rg 0 [rv [1] [1] [0],ri [1,12] [1],ri [2] [15],ri [1,3] [1,15],ri [1,3,17] [1,15],ri [2] [15],ri [1,4] [1],ri [1,4,32] [1],ri [1,4,32] [1],ri [1,32] [1],ri [2] [15],ri [1,47] [1],ri [2] [15],ri [52] [],ri [2] [15],ri [2] [15]]) [(211,z1Q.e k),(212,z2u.e k),(213,z2B.e k),(214,z3d.e k)] k
abbrev z2Z.sg:Sg:=⟨[.dat eJ],[],.dat J,[]⟩
def z2Z.f (a0:Ty.D eJ):=fo z2Z.sg (z2Z.cx k) Tryz.f158 a0
theorem z2Z.f_eq (a0:Ty.D eJ):z2Z.f k a0=br (aq a0.1 1) (some 18) (br (aq 5 a0.1) (some 18) (bnd (z1Q.f k a0.2.1) fun r0=>br (ai (az r0 0)) (some r0) (br (az a0.1 1) (bnd (z2u.f k a0) fun r1=>br (ai r1) (br (ai r1) (some 2) (br (aq 256 (af a0.2.2.2.2)) (some 7) (bnd (z3d.f k a0.2.2.2.2) fun r2=>br (ai r2) (some 2) (some 0)))) (bnd (z2B.f k a0) fun r3=>br (ai r3) (br (ai r3) (some 2) (br (aq 256 (af a0.2.2.2.2)) (some 7) (bnd (z3d.f k a0.2.2.2.2) fun r4=>br (ai r4) (some 2) (some 0)))) (br (ai true) (br (aq 0 (af a0.2.2.2.2)) (some 2) (br (aq 256 (af a0.2.2.2.2)) (some 7) (bnd (z3d.f k a0.2.2.2.2) fun r5=>br (ai r5) (some 2) (some 0)))) (br (aq 256 (af a0.2.2.2.2)) (some 7) (bnd (z3d.f k a0.2.2.2.2) fun r6=>br (ai r6) (some 2) (some 0)))))) (br (az a0.1 4) (bnd (z2u.f k a0) fun r7=>br (ai r7) (br (ai r7) (some 2) (br (aq 256 (af a0.2.2.2.2)) (some 7) (bnd (z3d.f k a0.2.2.2.2) fun r8=>br (ai r8) (some 2) (some 0)))) (bnd (z2B.f k a0) fun r9=>br (ai r9) (br (ai r9) (some 2) (br (aq 256 (af a0.2.2.2.2)) (some 7) (bnd (z3d.f k a0.2.2.2.2) fun r10=>br (ai r10) (some 2) (some 0)))) (br (ai true) (br (aq 0 (af a0.2.2.2.2)) (some 2) (br (aq 256 (af a0.2.2.2.2)) (some 7) (bnd (z3d.f k a0.2.2.2.2) fun r11=>br (ai r11) (some 2) (some 0)))) (br (aq 256 (af a0.2.2.2.2)) (some 7) (bnd (z3d.f k a0.2.2.2.2) fun r12=>br (ai r12) (some 2) (some 0)))))) (bnd (z2u.f k a0) fun r13=>br (ai r13) (br (ai r13) (some 2) (br (aq 256 (af a0.2.2.2.2)) (some 7) (bnd (z3d.f k a0.2.2.2.2) fun r14=>br (ai r14) (some 2) (some 0)))) (bnd (z2B.f k a0) fun r15=>br (ai r15) (br (ai r15) (some 2) (br (aq 256 (af a0.2.2.2.2)) (some 7) (bnd (z3d.f k a0.2.2.2.2) fun r16=>br (ai r16) (some 2) (some 0)))) (br (ai (az a0.1 5)) (br (aq 0 (af a0.2.2.2.2)) (some 2) (br (aq 256 (af a0.2.2.2.2)) (some 7) (bnd (z3d.f k a0.2.2.2.2) fun r17=>br (ai r17) (some 2) (some 0)))) (br (aq 256 (af a0.2.2.2.2)) (some 7) (bnd (z3d.f k a0.2.2.2.2) fun r18=>br (ai r18) (some 2) (some 0)))))))))):=by kernel_rfl
def z2Z.e:=Sg.entry z2Z.sg fun x=>z2Z.f k x
theorem z2Z.ok:CallOK Tryz.prog 158 (z2Z.e k):=GW (z2Z.cx k) Tryz.func158 ⟨z1Q.ok k,z2u.ok k,z2B.ok k,z3d.ok k,trivial⟩
def z36.cx:=co (rg 0 [ri [0,2] [2,1000000,1000000],rv [0,2,3] [2,3,1000000,1000000] [4],ri [0,2,3,9] [2,3,1000000,1000000],rv [2] [2,1000000] [1],rv [0,2,3] [2,3,1000000,1000000] [3],ri [0,2,3,15] [2,3,1000000,1000000],ri [0,2,3,15,16] [2,3,1000000,1000000],ri [0,2,3] [2,3,1000000,1000000],ri [0,2,3,15,22] [2,3,1000000,1000000],ri [0,2,3,15,22] [2,3,1000000,1000000],ri [0,2,3] [2,3,1000000,1000000],rv [0,2,3] [2,3,1000000,1000000] [3],ri [0,2,3,15,31] [2,3,1000000,1000000],ri [0,2,3] [2,3,1000000,1000000],ri [0,2,3,36] [2,3,1000000,1000000],rv [0,2,3] [2,3,1000000,1000000] [3],ri [0,2,3,43] [2,3,1000000,1000000],ri [0,2,3] [2,3,1000000,1000000],ri [2,3,50] [2,3,1000000],rv [2] [2,1000000] [1],rv [2] [2,1000000] [1]]) [(70,z0G.e k),(192,z2J.e k),(193,z0Y.e k),(194,z23.e k),(195,z3a.e k),(123,z0p.e k),(158,z2Z.e k),(75,z0r.e k)] k
abbrev z36.sg:Sg:=⟨[.ref],[ag],.dat eJ,[ag]⟩
def z36.f (o0:Ty.D ag):=fo z36.sg (z36.cx k) Tryz.f127 o0
theorem z36.f_eq (o0:Ty.D ag):z36.f k o0=bnd (z0G.f k o0) fun r0=>br (az r0.1 0) (some ((r0.1,([],((0,(0,[])),(0,[])))),r0.2)) (bnd (z2J.f k r0.2) fun r1=>br (az r0.1 3) (bnd (z0G.f k r1.2) fun r2=>bnd (z0Y.f k r2.1) fun r3=>bnd (z0p.f k r2.2) fun r4=>br (az r4.1 0) (bnd (z2Z.f k (r0.1,(r1.1,((0,(0,[])),(r3,[]))))) fun r5=>bnd (z0r.f k r5 r4.2) fun r6=>bnd (z0p.f k r6.2) fun r7=>br (ai (az r7.1 0)) (some ((0,([],((0,(0,[])),(0,[])))),r7.2)) (some ((r0.1,(r1.1,((0,(0,[])),(r3,[])))),r7.2))) (bnd (z0p.f k r4.2) fun r8=>br (ai (az r8.1 0)) (some ((0,([],((0,(0,[])),(0,[])))),r8.2)) (some ((r0.1,(r1.1,((0,(0,[])),(r3,[])))),r8.2)))) (br (az r0.1 1) (br (az r0.1 1) (bnd (z23.f k r1.2) fun r9=>bnd (z3a.f k r9.2) fun r10=>bnd (z0p.f k r10.2) fun r11=>br (az r11.1 0) (bnd (z2Z.f k (r0.1,(r1.1,(r9.1,(0,r10.1))))) fun r12=>bnd (z0r.f k r12 r11.2) fun r13=>bnd (z0p.f k r13.2) fun r14=>br (ai (az r14.1 0)) (some ((0,([],((0,(0,[])),(0,[])))),r14.2)) (some ((r0.1,(r1.1,(r9.1,(0,r10.1)))),r14.2))) (bnd (z0p.f k r11.2) fun r15=>br (ai (az r15.1 0)) (some ((0,([],((0,(0,[])),(0,[])))),r15.2)) (some ((r0.1,(r1.1,(r9.1,(0,r10.1)))),r15.2)))) (br (az r0.1 2) (bnd (z23.f k r1.2) fun r16=>bnd (z0p.f k r16.2) fun r17=>br (az r17.1 0) (bnd (z2Z.f k (r0.1,(r1.1,(r16.1,(0,[]))))) fun r18=>bnd (z0r.f k r18 r17.2) fun r19=>bnd (z0p.f k r19.2) fun r20=>br (ai (az r20.1 0)) (some ((0,([],((0,(0,[])),(0,[])))),r20.2)) (some ((r0.1,(r1.1,(r16.1,(0,[])))),r20.2))) (bnd (z0p.f k r17.2) fun r21=>br (ai (az r21.1 0)) (some ((0,([],((0,(0,[])),(0,[])))),r21.2)) (some ((r0.1,(r1.1,(r16.1,(0,[])))),r21.2)))) (br (az r0.1 5) (bnd (z3a.f k r1.2) fun r22=>bnd (z0p.f k r22.2) fun r23=>br (az r23.1 0) (bnd (z2Z.f k (r0.1,(r1.1,((0,(0,[])),(0,r22.1))))) fun r24=>bnd (z0r.f k r24 r23.2) fun r25=>bnd (z0p.f k r25.2) fun r26=>br (ai (az r26.1 0)) (some ((0,([],((0,(0,[])),(0,[])))),r26.2)) (some ((r0.1,(r1.1,((0,(0,[])),(0,r22.1)))),r26.2))) (bnd (z0p.f k r23.2) fun r27=>br (ai (az r27.1 0)) (some ((0,([],((0,(0,[])),(0,[])))),r27.2)) (some ((r0.1,(r1.1,((0,(0,[])),(0,r22.1)))),r27.2)))) (bnd (z0p.f k r1.2) fun r28=>br (az r28.1 0) (bnd (z2Z.f k (r0.1,(r1.1,((0,(0,[])),(0,[]))))) fun r29=>bnd (z0r.f k r29 r28.2) fun r30=>bnd (z0p.f k r30.2) fun r31=>br (ai (az r31.1 0)) (some ((0,([],((0,(0,[])),(0,[])))),r31.2)) (some ((r0.1,(r1.1,((0,(0,[])),(0,[])))),r31.2))) (bnd (z0p.f k r28.2) fun r32=>br (ai (az r32.1 0)) (some ((0,([],((0,(0,[])),(0,[])))),r32.2)) (some ((r0.1,(r1.1,((0,(0,[])),(0,[])))),r32.2))))))) (br (az r0.1 4) (bnd (z23.f k r1.2) fun r33=>bnd (z3a.f k r33.2) fun r34=>bnd (z0p.f k r34.2) fun r35=>br (az r35.1 0) (bnd (z2Z.f k (r0.1,(r1.1,(r33.1,(0,r34.1))))) fun r36=>bnd (z0r.f k r36 r35.2) fun r37=>bnd (z0p.f k r37.2) fun r38=>br (ai (az r38.1 0)) (some ((0,([],((0,(0,[])),(0,[])))),r38.2)) (some ((r0.1,(r1.1,(r33.1,(0,r34.1)))),r38.2))) (bnd (z0p.f k r35.2) fun r39=>br (ai (az r39.1 0)) (some ((0,([],((0,(0,[])),(0,[])))),r39.2)) (some ((r0.1,(r1.1,(r33.1,(0,r34.1)))),r39.2)))) (br (az r0.1 2) (bnd (z23.f k r1.2) fun r40=>bnd (z0p.f k r40.2) fun r41=>br (az r41.1 0) (bnd (z2Z.f k (r0.1,(r1.1,(r40.1,(0,[]))))) fun r42=>bnd (z0r.f k r42 r41.2) fun r43=>bnd (z0p.f k r43.2) fun r44=>br (ai (az r44.1 0)) (some ((0,([],((0,(0,[])),(0,[])))),r44.2)) (some ((r0.1,(r1.1,(r40.1,(0,[])))),r44.2))) (bnd (z0p.f k r41.2) fun r45=>br (ai (az r45.1 0)) (some ((0,([],((0,(0,[])),(0,[])))),r45.2)) (some ((r0.1,(r1.1,(r40.1,(0,[])))),r45.2)))) (br (az r0.1 5) (bnd (z3a.f k r1.2) fun r46=>bnd (z0p.f k r46.2) fun r47=>br (az r47.1 0) (bnd (z2Z.f k (r0.1,(r1.1,((0,(0,[])),(0,r46.1))))) fun r48=>bnd (z0r.f k r48 r47.2) fun r49=>bnd (z0p.f k r49.2) fun r50=>br (ai (az r50.1 0)) (some ((0,([],((0,(0,[])),(0,[])))),r50.2)) (some ((r0.1,(r1.1,((0,(0,[])),(0,r46.1)))),r50.2))) (bnd (z0p.f k r47.2) fun r51=>br (ai (az r51.1 0)) (some ((0,([],((0,(0,[])),(0,[])))),r51.2)) (some ((r0.1,(r1.1,((0,(0,[])),(0,r46.1)))),r51.2)))) (bnd (z0p.f k r1.2) fun r52=>br (az r52.1 0) (bnd (z2Z.f k (r0.1,(r1.1,((0,(0,[])),(0,[]))))) fun r53=>bnd (z0r.f k r53 r52.2) fun r54=>bnd (z0p.f k r54.2) fun r55=>br (ai (az r55.1 0)) (some ((0,([],((0,(0,[])),(0,[])))),r55.2)) (some ((r0.1,(r1.1,((0,(0,[])),(0,[])))),r55.2))) (bnd (z0p.f k r52.2) fun r56=>br (ai (az r56.1 0)) (some ((0,([],((0,(0,[])),(0,[])))),r56.2)) (some ((r0.1,(r1.1,((0,(0,[])),(0,[])))),r56.2))))))))):=by kernel_rfl
def z36.e:=Sg.entry z36.sg fun x=>z36.f k x
theorem z36.ok:CallOK Tryz.prog 127 (z36.e k):=GW (z36.cx k) Tryz.func127 ⟨z0G.ok k,z2J.ok k,z0Y.ok k,z23.ok k,z3a.ok k,z0p.ok k,z2Z.ok k,z0r.ok k,trivial⟩
def z35.cx:=co (rg 0 [rv [1] [1] [0],ri [2] []]) [] k
abbrev z35.sg:Sg:=⟨[.dat eJ],[],.dat .bool,[]⟩
def z35.f (a0:Ty.D eJ):=fo z35.sg (z35.cx k) Tryz.f157 a0
theorem z35.f_eq (a0:Ty.D eJ):z35.f k a0=br (az a0.1 0) (br (az (af a0.2.1) 0) (br (eQ cC a0.2.2.1 (0,(0,[]))) (br (az a0.2.2.2.1 0) (some (az (af a0.2.2.2.2) 0)) (some false)) (some false)) (some false)) (some false):=by kernel_rfl
def z35.e:=Sg.entry z35.sg fun x=>z35.f k x
theorem z35.ok:CallOK Tryz.prog 157 (z35.e k):=GW (z35.cx k) Tryz.func157 trivial
def z2D.cx:=co (rg 0 [rv [1] [1] [0],ri [1,6] [1],ri [1,6] [1],ri [1,6] [1],ri [2] [51],ri [1,27] [1],ri [2] [51],ri [1,32] [1],ri [2] [51],ri [1,38,39,40] [1],rh [1,38,39,40,41] [1] [1,38,39,40] [1],rv [1,4,38,39,40] [1,4] [3],ri [1,4,38,39,40,49] [1,4,48],ri [1,5,38,39,40] [1,51],ri [1,5,38,39,40,53] [1,51],ri [2] [51],ri [1,38,39,40] [1],ri [2] [51]]) [(128,z2F.e k),(157,z35.e k),(158,z2Z.e k)] k
abbrev z2D.sg:Sg:=⟨[.dat aJ],[],.dat J,[]⟩
def z2D.f (a0:Ty.D aJ):=fo z2D.sg (z2D.cx k) Tryz.f99 a0
def z2D.l10 (n:Nat) (x38:Ty.D (.slc eJ)) (x39 x40:DJ) (m1:Ty.D aJ):=lo z2D.sg (z2D.cx k) Tryz.f99 [1,1,0,1,0] 10 [1,38,39,40] [1] [] n ⟨[(1,.ref 1 []),(38,.dat (.slc eJ) x38),(39,.dat J x39),(40,.dat J x40)],[(1,.dat aJ m1)]⟩
theorem z2D.f_eq (a0:Ty.D aJ):z2D.f k a0=bnd (z2F.f k a0.1) fun r0=>br (ai r0) (br (ai r0) (some 2) (br (az (af a0.2.2.2.2) 0) (some 11) (br (aq 16 (af a0.2.2.2.2)) (some 7) (z2D.l10 k k a0.2.2.2.2 (af a0.2.2.2.2) 0 a0)))) (br (aq a0.2.1 0) (some 2) (br (bM 8 a0.2.1) (br (bM 8 a0.2.1) (some 2) (br (az (af a0.2.2.2.2) 0) (some 11) (br (aq 16 (af a0.2.2.2.2)) (some 7) (z2D.l10 k k a0.2.2.2.2 (af a0.2.2.2.2) 0 a0)))) (br (aq a0.2.2.1 1) (some 2) (br (aq 1099511627776 a0.2.2.1) (some 2) (br (az (af a0.2.2.2.2) 0) (some 11) (br (aq 16 (af a0.2.2.2.2)) (some 7) (z2D.l10 k k a0.2.2.2.2 (af a0.2.2.2.2) 0 a0))))))):=by kernel_rfl
theorem z2D.l10_eq (n10:Nat) (x38:Ty.D (.slc eJ)) (x39 x40:DJ) (m1:Ty.D aJ):z2D.l10 k (n10+1) x38 x39 x40 m1=br (aq x40 x39) (br (bO x40 x38) (br m1.2.2.2.1 (bnd (z35.f k (rd eJ x38 (aj x40))) fun r0=>br r0 (z2D.l10 k n10 x38 x39 (aH .i64 x40 1) m1) (bnd (z2Z.f k (rd eJ x38 (aj x40))) fun r1=>br (ai (az r1 0)) (some r1) (z2D.l10 k n10 x38 x39 (aH .i64 x40 1) m1))) (bnd (z2Z.f k (rd eJ x38 (aj x40))) fun r2=>br (ai (az r2 0)) (some r2) (z2D.l10 k n10 x38 x39 (aH .i64 x40 1) m1))) none) (some 0):=by kernel_rfl
def z2D.e:=Sg.entry z2D.sg fun x=>z2D.f k x
theorem z2D.ok:CallOK Tryz.prog 99 (z2D.e k):=GW (z2D.cx k) Tryz.func99 ⟨z2F.ok k,z35.ok k,z2Z.ok k,trivial⟩
def z2Q.cx:=co (rg 0 [ri [0,2] [2,1000000,1000000],rv [0,2,3] [2,3,1000000,1000000] [8],ri [0,2,3,4] [2,3,13,1000000,1000000],ri [0,2,3,4] [2,3,13,1000000,1000000],ri [0,2,3,23] [2,3,1000000,1000000],ri [0,2,3] [2,3,1000000,1000000],ri [0,2,3,27,28] [2,3,27,1000000,1000000],rh [0,2,3,27,28,29] [2,3,27,1000000,1000000] [0,2,3,27,28] [2,3,27,1000000,1000000],⟨[0,2,3,27,28],[2,3,27,1000000,1000000],[1,5,7],[],6,[],[],[],[[],[],[],[],[3],[1,3],[1,3],[1,3]],[],[],[]⟩,ri [0,2,3,27,28] [2,3,27,1000000,1000000],ri [0,2,3,40] [2,3,1000000,1000000],ri [0,2,3] [2,3,1000000,1000000],ri [2,3,47] [2,3,1000000],rv [2] [2,1000000] [1],rv [2] [2,1000000] [1]]) [(72,z2O.e k),(70,z0G.e k),(123,z0p.e k),(75,z0r.e k),(126,z0y.e k),(127,z36.e k),(99,z2D.e k)] k
abbrev z2Q.sg:Sg:=⟨[.ref],[ag],.dat aJ,[ag]⟩
def z2Q.f (o0:Ty.D ag):=fo z2Q.sg (z2Q.cx k) Tryz.f71 o0
def z2Q.l7 (n:Nat) (x27 x28:DJ) (m2a:Ty.D ah) (m2ba m2bba:DJ) (m2bbba:Ty.D .bool) (m2bbbb:List (Ty.D eJ)) (m3a:Ty.D ah) (m3ba m3bba:DJ) (m3bbba:Ty.D .bool) (m3bbbb:List (Ty.D eJ)) (m1000000:Ty.D ag):=lo z2Q.sg (z2Q.cx k) Tryz.f71 [1,1,1,1,1,0,1,0] 7 [0,2,3,27,28] [2,3,27,1000000,1000000] [] n ⟨[(0,.ref 1000000 []),(2,.ref 2 []),(3,.ref 3 []),(27,.dat J x27),(28,.dat J x28)],[(2,.pr (.dat ah m2a) (.pr (.dat J m2ba) (.pr (.dat J m2bba) (.pr (.dat .bool m2bbba) (.own eJ m2bbbb))))),(3,.pr (.dat ah m3a) (.pr (.dat J m3ba) (.pr (.dat J m3bba) (.pr (.dat .bool m3bbba) (.own eJ m3bbbb))))),(1000000,.dat ag m1000000)]⟩
theorem z2Q.f_eq (o0:Ty.D ag):z2Q.f k o0=bnd (z2O.f k o0) fun r0=>bnd (z0G.f k r0.2) fun r1=>bnd (z0G.f k r1.2) fun r2=>bnd (z0G.f k r2.2) fun r3=>bnd (z0p.f k r3.2) fun r4=>br (az r4.1 0) (br (aq 1 r3.1) (bnd (z0r.f k 3 r4.2) fun r5=>bnd (z0y.f k 16 r5.2) fun r6=>z2Q.l7 k k r6.1 0 (0,0) 0 0 false [] r0.1 r1.1 r2.1 (az r3.1 1) [] r6.2) (bnd (z0y.f k 16 r4.2) fun r7=>z2Q.l7 k k r7.1 0 (0,0) 0 0 false [] r0.1 r1.1 r2.1 (az r3.1 1) [] r7.2)) (bnd (z0y.f k 16 r4.2) fun r8=>z2Q.l7 k k r8.1 0 (0,0) 0 0 false [] r0.1 r1.1 r2.1 (az r3.1 1) [] r8.2):=by kernel_rfl
theorem z2Q.l7_eq (n7:Nat) (x27 x28:DJ) (m2a:Ty.D ah) (m2ba m2bba:DJ) (m2bbba:Ty.D .bool) (m2bbbb:List (Ty.D eJ)) (m3a:Ty.D ah) (m3ba m3bba:DJ) (m3bbba:Ty.D .bool) (m3bbbb:List (Ty.D eJ)) (m1000000:Ty.D ag):z2Q.l7 k (n7+1) x27 x28 m2a m2ba m2bba m2bbba m2bbbb m3a m3ba m3bba m3bbba m3bbbb m1000000=br (aq x28 x27) (bnd (z36.f k m1000000) fun r0=>br (bm m3bbbb (r0.1::[])) (z2Q.l7 k n7 x27 (aH .i64 x28 1) m2a m2ba m2bba m2bbba m2bbbb m3a m3ba m3bba m3bbba (app m3bbbb (r0.1::[])) r0.2) none) (bnd (z0p.f k m1000000) fun r1=>br (az r1.1 0) (bnd (z2D.f k (m3a,(m3ba,(m3bba,(m3bbba,m3bbbb))))) fun r2=>bnd (z0r.f k r2 r1.2) fun r3=>bnd (z0p.f k r3.2) fun r4=>br (ai (az r4.1 0)) (some (((0,0),(0,(0,(false,[])))),r4.2)) (some ((m3a,(m3ba,(m3bba,(m3bbba,m3bbbb)))),r4.2))) (bnd (z0p.f k r1.2) fun r5=>br (ai (az r5.1 0)) (some (((0,0),(0,(0,(false,[])))),r5.2)) (some ((m3a,(m3ba,(m3bba,(m3bbba,m3bbbb)))),r5.2)))):=by kernel_rfl
def z2Q.e:=Sg.entry z2Q.sg fun x=>z2Q.f k x
theorem z2Q.ok:CallOK Tryz.prog 71 (z2Q.e k):=GW (z2Q.cx k) Tryz.func71 ⟨z2O.ok k,z0G.ok k,z0p.ok k,z0r.ok k,z0y.ok k,z36.ok k,z2D.ok k,trivial⟩
def z2G.cx:=co (rg 0 [ri [0] [],ri [0,5,6,7] [],rh [0,5,6,7,8] [] [0,5,6,7] [],rv [0,3,4,5,6,7] [4] [5],rq [0,5,6,7,25] [] 14,ri [2] [],ri [0,5,6,7] [],ri [2] []]) [(178,z1d.e k)] k
abbrev z2G.sg:Sg:=⟨[.dat (.slc aJ)],[],.dat .bool,[]⟩
def z2G.f (a0:Ty.D (.slc aJ)):=fo z2G.sg (z2G.cx k) Tryz.f162 a0
def z2G.l2 (n:Nat) (x0 x5:Ty.D (.slc aJ)) (x6 x7:DJ):=lo z2G.sg (z2G.cx k) Tryz.f162 [1,0,1,0] 2 [0,5,6,7] [] [] n ⟨[(0,.dat (.slc aJ) x0),(5,.dat (.slc aJ) x5),(6,.dat J x6),(7,.dat J x7)],[]⟩
theorem z2G.f_eq (a0:Ty.D (.slc aJ)):z2G.f k a0=z2G.l2 k k a0 a0 (af a0) 0:=by kernel_rfl
theorem z2G.l2_eq (n2:Nat) (x0 x5:Ty.D (.slc aJ)) (x6 x7:DJ):z2G.l2 k (n2+1) x0 x5 x6 x7=br (aq x7 x6) (br (bO x7 x5) (br (aq 0 x7) (br (bO (bw .i64 x7 1) x0) (bnd (z1d.f k ((rd aJ x0 (aj (bw .i64 x7 1))).1) ((rd aJ x5 (aj x7)).1)) fun r0=>br (bM 0 r0) (some false) (z2G.l2 k n2 x0 x5 x6 (aH .i64 x7 1))) none) (z2G.l2 k n2 x0 x5 x6 (aH .i64 x7 1))) none) (some true):=by kernel_rfl
def z2G.e:=Sg.entry z2G.sg fun x=>z2G.f k x
theorem z2G.ok:CallOK Tryz.prog 162 (z2G.e k):=GW (z2G.cx k) Tryz.func162 ⟨z1d.ok k,trivial⟩
def z0V.cx:=co (rg 0 [ri [0,1] [1000000,1000000],ri [0,1,5] [1000000,1000000],ri [0,5,8,9] [8,1000000,1000000],rh [0,5,8,9,10] [8,1000000,1000000] [0,5,8,9] [8,1000000,1000000],rv [0,5,8,9] [8,1000000,1000000] [0,4,5],ri [0,5,8,9] [8,1000000,1000000],ri [0,5,24] [1000000,1000000],ri [0,5] [1000000,1000000],ri [5,29] [1000000],ri [4] [1000000],rv [4] [1000000] [0,1]]) [(126,z0y.e k),(71,z2Q.e k),(123,z0p.e k),(162,z2G.e k),(75,z0r.e k)] k
abbrev z0V.sg:Sg:=⟨[.ref,.dat J],[ag],.own aJ,[ag]⟩
def z0V.f (a1:DJ) (o0:Ty.D ag):=fo z0V.sg (z0V.cx k) Tryz.f129 (a1,o0)
def z0V.l3 (n:Nat) (x5:List (Ty.D aJ)) (x8 x9:DJ) (m1000000:Ty.D ag):=lo z0V.sg (z0V.cx k) Tryz.f129 [1,1,0,1,0] 3 [0,5,8,9] [8,1000000,1000000] [] n ⟨[(0,.ref 1000000 []),(5,.own aJ x5),(8,.dat J x8),(9,.dat J x9)],[(1000000,.dat ag m1000000)]⟩
theorem z0V.f_eq (a1:DJ) (o0:Ty.D ag):z0V.f k a1 o0=bnd (z0y.f k a1 o0) fun r0=>z0V.l3 k k [] r0.1 0 r0.2:=by kernel_rfl
theorem z0V.l3_eq (n3:Nat) (x5:List (Ty.D aJ)) (x8 x9:DJ) (m1000000:Ty.D ag):z0V.l3 k (n3+1) x5 x8 x9 m1000000=br (aq x9 x8) (bnd (z2Q.f k m1000000) fun r0=>br (bm x5 (r0.1::[])) (z0V.l3 k n3 (app x5 (r0.1::[])) x8 (aH .i64 x9 1) r0.2) none) (bnd (z0p.f k m1000000) fun r1=>br (az r1.1 0) (bnd (z2G.f k x5) fun r2=>br (ai r2) (bnd (z0r.f k 2 r1.2) fun r3=>bnd (z0p.f k r3.2) fun r4=>br (ai (az r4.1 0)) (some ([],r4.2)) (some (x5,r4.2))) (bnd (z0p.f k r1.2) fun r5=>br (ai (az r5.1 0)) (some ([],r5.2)) (some (x5,r5.2)))) (bnd (z0p.f k r1.2) fun r6=>br (ai (az r6.1 0)) (some ([],r6.2)) (some (x5,r6.2)))):=by kernel_rfl
def z0V.e:=Sg.entry z0V.sg fun x=>z0V.f k x.1 x.2
theorem z0V.ok:CallOK Tryz.prog 129 (z0V.e k):=GW (z0V.cx k) Tryz.func129 ⟨z0y.ok k,z2Q.ok k,z0p.ok k,z2G.ok k,z0r.ok k,trivial⟩
def z0O.cx:=co (rg 0 [ri [2,3] [2,3],ri [4] [9]]) [(178,z1d.e k)] k
abbrev z0O.sg:Sg:=⟨[.dat ak,.dat ak],[],.dat J,[]⟩
def z0O.f (a0 a1:Ty.D ak):=fo z0O.sg (z0O.cx k) Tryz.f159 (a0,a1)
theorem z0O.f_eq (a0 a1:Ty.D ak):z0O.f k a0 a1=bnd (z1d.f k a0.1 a1.1) fun r0=>some r0:=by kernel_rfl
def z0O.e:=Sg.entry z0O.sg fun x=>z0O.f k x.1 x.2
theorem z0O.ok:CallOK Tryz.prog 159 (z0O.e k):=GW (z0O.cx k) Tryz.func159 ⟨z1d.ok k,trivial⟩
def z1s.cx:=co (rg 0 [ri [0] [],ri [0,5,6,7] [],rh [0,5,6,7,8] [] [0,5,6,7] [],ri [0,3,4,5,6,7] [4],rq [0,5,6,7,39] [] 28,ri [2] [],ri [0,5,6,7] [],ri [2] []]) [(128,z2F.e k),(159,z0O.e k)] k
abbrev z1s.sg:Sg:=⟨[.dat (.slc ak)],[],.dat .bool,[]⟩
def z1s.f (a0:Ty.D (.slc ak)):=fo z1s.sg (z1s.cx k) Tryz.f101 a0
def z1s.l2 (n:Nat) (x0 x5:Ty.D (.slc ak)) (x6 x7:DJ):=lo z1s.sg (z1s.cx k) Tryz.f101 [1,0,1,0] 2 [0,5,6,7] [] [] n ⟨[(0,.dat (.slc ak) x0),(5,.dat (.slc ak) x5),(6,.dat J x6),(7,.dat J x7)],[]⟩
theorem z1s.f_eq (a0:Ty.D (.slc ak)):z1s.f k a0=z1s.l2 k k a0 a0 (af a0) 0:=by kernel_rfl
theorem z1s.l2_eq (n2:Nat) (x0 x5:Ty.D (.slc ak)) (x6 x7:DJ):z1s.l2 k (n2+1) x0 x5 x6 x7=br (aq x7 x6) (br (bO x7 x5) (bnd (z2F.f k ((rd ak x5 (aj x7)).1)) fun r0=>br (ai r0) (some false) (br (aq ((rd ak x5 (aj x7)).2) 1) (some false) (br (aq 64 ((rd ak x5 (aj x7)).2)) (some false) (br (aq 0 x7) (br (bO (bw .i64 x7 1) x0) (bnd (z0O.f k (rd ak x0 (aj (bw .i64 x7 1))) (rd ak x5 (aj x7))) fun r1=>br (bM 0 r1) (some false) (z1s.l2 k n2 x0 x5 x6 (aH .i64 x7 1))) none) (z1s.l2 k n2 x0 x5 x6 (aH .i64 x7 1)))))) none) (some true):=by kernel_rfl
def z1s.e:=Sg.entry z1s.sg fun x=>z1s.f k x
theorem z1s.ok:CallOK Tryz.prog 101 (z1s.e k):=GW (z1s.cx k) Tryz.func101 ⟨z2F.ok k,z0O.ok k,trivial⟩
def z1L.cx:=co (rg 0 [ri [0,1] [1000000,1000000],ri [0,1,5] [1000000,1000000],ri [0,5,8,9] [8,1000000,1000000],rh [0,5,8,9,10] [8,1000000,1000000] [0,5,8,9] [8,1000000,1000000],rv [0,5,8,9] [8,1000000,1000000] [0,7,8],ri [0,5,8,9] [8,1000000,1000000],ri [0,5,27] [1000000,1000000],ri [0,5] [1000000,1000000],ri [5,32] [1000000],ri [4] [1000000],rv [4] [1000000] [0,1]]) [(126,z0y.e k),(72,z2O.e k),(70,z0G.e k),(123,z0p.e k),(101,z1s.e k),(75,z0r.e k)] k
abbrev z1L.sg:Sg:=⟨[.ref,.dat J],[ag],.own ak,[ag]⟩
def z1L.f (a1:DJ) (o0:Ty.D ag):=fo z1L.sg (z1L.cx k) Tryz.f130 (a1,o0)
def z1L.l3 (n:Nat) (x5:List (Ty.D ak)) (x8 x9:DJ) (m1000000:Ty.D ag):=lo z1L.sg (z1L.cx k) Tryz.f130 [1,1,0,1,0] 3 [0,5,8,9] [8,1000000,1000000] [] n ⟨[(0,.ref 1000000 []),(5,.own ak x5),(8,.dat J x8),(9,.dat J x9)],[(1000000,.dat ag m1000000)]⟩
theorem z1L.f_eq (a1:DJ) (o0:Ty.D ag):z1L.f k a1 o0=bnd (z0y.f k a1 o0) fun r0=>z1L.l3 k k [] r0.1 0 r0.2:=by kernel_rfl
theorem z1L.l3_eq (n3:Nat) (x5:List (Ty.D ak)) (x8 x9:DJ) (m1000000:Ty.D ag):z1L.l3 k (n3+1) x5 x8 x9 m1000000=br (aq x9 x8) (bnd (z2O.f k m1000000) fun r0=>bnd (z0G.f k r0.2) fun r1=>br (bm x5 ((r0.1,r1.1)::[])) (z1L.l3 k n3 (app x5 ((r0.1,r1.1)::[])) x8 (aH .i64 x9 1) r1.2) none) (bnd (z0p.f k m1000000) fun r2=>br (az r2.1 0) (bnd (z1s.f k x5) fun r3=>br (ai r3) (bnd (z0r.f k 2 r2.2) fun r4=>bnd (z0p.f k r4.2) fun r5=>br (ai (az r5.1 0)) (some ([],r5.2)) (some (x5,r5.2))) (bnd (z0p.f k r2.2) fun r6=>br (ai (az r6.1 0)) (some ([],r6.2)) (some (x5,r6.2)))) (bnd (z0p.f k r2.2) fun r7=>br (ai (az r7.1 0)) (some ([],r7.2)) (some (x5,r7.2)))):=by kernel_rfl
def z1L.e:=Sg.entry z1L.sg fun x=>z1L.f k x.1 x.2
theorem z1L.ok:CallOK Tryz.prog 130 (z1L.e k):=GW (z1L.cx k) Tryz.func130 ⟨z0y.ok k,z2O.ok k,z0G.ok k,z0p.ok k,z1s.ok k,z0r.ok k,trivial⟩
def z0M.cx:=co (rg 0 [ri [0,1] [1000000,1000000],ri [0,1,5] [1000000,1000000],ri [0,5,8,9] [8,1000000,1000000],rh [0,5,8,9,10] [8,1000000,1000000] [0,5,8,9] [8,1000000,1000000],rv [0,5,8,9] [8,1000000,1000000] [0,4,5],ri [0,5,8,9] [8,1000000,1000000],ri [5,19] [1000000],ri [4] [1000000],rv [4] [1000000] [0,1]]) [(126,z0y.e k),(72,z2O.e k),(123,z0p.e k)] k
abbrev z0M.sg:Sg:=⟨[.ref,.dat J],[ag],.own ah,[ag]⟩
def z0M.f (a1:DJ) (o0:Ty.D ag):=fo z0M.sg (z0M.cx k) Tryz.f131 (a1,o0)
def z0M.l3 (n:Nat) (x5:List (Ty.D ah)) (x8 x9:DJ) (m1000000:Ty.D ag):=lo z0M.sg (z0M.cx k) Tryz.f131 [1,1,0,1,0] 3 [0,5,8,9] [8,1000000,1000000] [] n ⟨[(0,.ref 1000000 []),(5,.own ah x5),(8,.dat J x8),(9,.dat J x9)],[(1000000,.dat ag m1000000)]⟩
theorem z0M.f_eq (a1:DJ) (o0:Ty.D ag):z0M.f k a1 o0=bnd (z0y.f k a1 o0) fun r0=>z0M.l3 k k [] r0.1 0 r0.2:=by kernel_rfl
theorem z0M.l3_eq (n3:Nat) (x5:List (Ty.D ah)) (x8 x9:DJ) (m1000000:Ty.D ag):z0M.l3 k (n3+1) x5 x8 x9 m1000000=br (aq x9 x8) (bnd (z2O.f k m1000000) fun r0=>br (bm x5 (r0.1::[])) (z0M.l3 k n3 (app x5 (r0.1::[])) x8 (aH .i64 x9 1) r0.2) none) (bnd (z0p.f k m1000000) fun r1=>br (ai (az r1.1 0)) (some ([],r1.2)) (some (x5,r1.2))):=by kernel_rfl
def z0M.e:=Sg.entry z0M.sg fun x=>z0M.f k x.1 x.2
theorem z0M.ok:CallOK Tryz.prog 131 (z0M.e k):=GW (z0M.cx k) Tryz.func131 ⟨z0y.ok k,z2O.ok k,z0p.ok k,trivial⟩
def z0v.cx:=co (rg 0 [ri [0,2] [2,1000000,1000000],rv [0,2,3] [2,3,1000000,1000000] [8],ri [2,3,13] [2,3,1000000],rv [2] [2,1000000] [1],rv [2] [2,1000000] [1]]) [(129,z0V.e k),(130,z1L.e k),(131,z0M.e k),(123,z0p.e k)] k
abbrev z0v.sg:Sg:=⟨[.ref],[ag],.dat bI,[ag]⟩
def z0v.f (o0:Ty.D ag):=fo z0v.sg (z0v.cx k) Tryz.f73 o0
theorem z0v.f_eq (o0:Ty.D ag):z0v.f k o0=bnd (z0V.f k 1000 o0) fun r0=>bnd (z1L.f k 1048576 r0.2) fun r1=>bnd (z0M.f k 1048576 r1.2) fun r2=>bnd (z0p.f k r2.2) fun r3=>br (ai (az r3.1 0)) (some (([],([],[])),r3.2)) (some ((r0.1,(r1.1,r2.1)),r3.2)):=by kernel_rfl
def z0v.e:=Sg.entry z0v.sg fun x=>z0v.f k x
theorem z0v.ok:CallOK Tryz.prog 73 (z0v.e k):=GW (z0v.cx k) Tryz.func73 ⟨z0V.ok k,z1L.ok k,z0M.ok k,z0p.ok k,trivial⟩
def z2j.cx:=co (rg 0 [ri [1] [1],ri [5,6] [],rh [5,6,7] [] [5,6] [],ri [4,5,6] [],ri [5,6,14] [],ri [2] [],ri [5,6] [],ri [2] []]) [] k
abbrev z2j.sg:Sg:=⟨[.dat bc],[],.dat .bool,[]⟩
def z2j.f (a0:Ty.D bc):=fo z2j.sg (z2j.cx k) Tryz.f218 a0
def z2j.l2 (n:Nat) (x5:Ty.D bc) (x6:DJ):=lo z2j.sg (z2j.cx k) Tryz.f218 [1,0,1,0] 2 [5,6] [] [] n ⟨[(5,.dat bc x5),(6,.dat J x6)],[]⟩
theorem z2j.f_eq (a0:Ty.D bc):z2j.f k a0=z2j.l2 k k a0 0:=by kernel_rfl
theorem z2j.l2_eq (n2:Nat) (x5:Ty.D bc) (x6:DJ):z2j.l2 k (n2+1) x5 x6=br (aq x6 16) (br (gh x6 16) (br (aq (rd (.int .i64) x5 (aj x6)) 0) (some false) (br (aq 1048576 (rd (.int .i64) x5 (aj x6))) (some false) (z2j.l2 k n2 x5 (aH .i64 x6 1)))) none) (some true):=by kernel_rfl
def z2j.e:=Sg.entry z2j.sg fun x=>z2j.f k x
theorem z2j.ok:CallOK Tryz.prog 218 (z2j.e k):=GW (z2j.cx k) Tryz.func218 trivial
def z30.cx:=co (rg 0 [ri [0,2] [2,1000000,1000000],ri [0,2,3] [2,3,1000000,1000000],ri [0,2,3,5] [2,3,1000000,1000000],rh [0,2,3,5,6] [2,3,1000000,1000000] [0,2,3,5] [2,3,1000000,1000000],ri [0,2,3,4,5] [2,3,1000000,1000000],ri [0,2,3,5] [2,3,1000000,1000000],ri [0,2,3,5] [2,3,1000000,1000000],ri [0,2,3,20] [2,3,1000000,1000000],ri [0,2,3] [2,3,1000000,1000000],ri [2,3,25] [2,3,1000000],ri [2] [2,1000000],ri [2] [2,1000000]]) [(70,z0G.e k),(123,z0p.e k),(218,z2j.e k),(75,z0r.e k)] k
abbrev z30.sg:Sg:=⟨[.ref],[ag],.dat bc,[ag]⟩
def z30.f (o0:Ty.D ag):=fo z30.sg (z30.cx k) Tryz.f196 o0
def z30.l3 (n:Nat) (x5:DJ) (m2 m3:Ty.D bc) (m1000000:Ty.D ag):=lo z30.sg (z30.cx k) Tryz.f196 [1,1,0,1,0] 3 [0,2,3,5] [2,3,1000000,1000000] [] n ⟨[(0,.ref 1000000 []),(2,.ref 2 []),(3,.ref 3 []),(5,.dat J x5)],[(2,.dat bc m2),(3,.dat bc m3),(1000000,.dat ag m1000000)]⟩
theorem z30.f_eq (o0:Ty.D ag):z30.f k o0=z30.l3 k k 0 (aV 16 0) (aV 16 0) o0:=by kernel_rfl
theorem z30.l3_eq (n3:Nat) (x5:DJ) (m2 m3:Ty.D bc) (m1000000:Ty.D ag):z30.l3 k (n3+1) x5 m2 m3 m1000000=br (aq x5 16) (bnd (z0G.f k m1000000) fun r0=>br (gh x5 16) (z30.l3 k n3 (aH .i64 x5 1) m2 (ja m3 (aj x5) r0.1) r0.2) none) (bnd (z0p.f k m1000000) fun r1=>br (az r1.1 0) (bnd (z2j.f k m3) fun r2=>br (ai r2) (bnd (z0r.f k 2 r1.2) fun r3=>bnd (z0p.f k r3.2) fun r4=>br (ai (az r4.1 0)) (some ((aV 16 0),r4.2)) (some (m3,r4.2))) (bnd (z0p.f k r1.2) fun r5=>br (ai (az r5.1 0)) (some ((aV 16 0),r5.2)) (some (m3,r5.2)))) (bnd (z0p.f k r1.2) fun r6=>br (ai (az r6.1 0)) (some ((aV 16 0),r6.2)) (some (m3,r6.2)))):=by kernel_rfl
def z30.e:=Sg.entry z30.sg fun x=>z30.f k x
theorem z30.ok:CallOK Tryz.prog 196 (z30.e k):=GW (z30.cx k) Tryz.func196 ⟨z0G.ok k,z0p.ok k,z2j.ok k,z0r.ok k,trivial⟩
def z2e.cx:=co (rg 0 [rv [1] [1] [0],ri [1,14] [1],ri [2] [],ri [1,16,17,18] [1],rh [1,16,17,18,19] [1] [1,16,17,18] [1],ri [1,3,4,16,17,18] [1,4],rq [1,16,17,18,51] [1] 29,ri [2] [],ri [1,16,17,18] [1],ri [2] []]) [(218,z2j.e k),(128,z2F.e k),(178,z1d.e k)] k
abbrev z2e.sg:Sg:=⟨[.dat bp],[],.dat .bool,[]⟩
def z2e.f (a0:Ty.D bp):=fo z2e.sg (z2e.cx k) Tryz.f168 a0
def z2e.l4 (n:Nat) (x16:Ty.D (.slc ah)) (x17 x18:DJ) (m1:Ty.D bp):=lo z2e.sg (z2e.cx k) Tryz.f168 [1,1,0,1,0] 4 [1,16,17,18] [1] [] n ⟨[(1,.ref 1 []),(16,.dat (.slc ah) x16),(17,.dat J x17),(18,.dat J x18)],[(1,.dat bp m1)]⟩
theorem z2e.f_eq (a0:Ty.D bp):z2e.f k a0=bnd (z2j.f k a0.1) fun r0=>br (ai r0) (some false) (br (aq 4096 (af a0.2)) (some false) (z2e.l4 k k a0.2 (af a0.2) 0 a0)):=by kernel_rfl
theorem z2e.l4_eq (n4:Nat) (x16:Ty.D (.slc ah)) (x17 x18:DJ) (m1:Ty.D bp):z2e.l4 k (n4+1) x16 x17 x18 m1=br (aq x18 x17) (br (bO x18 x16) (bnd (z2F.f k (rd ah x16 (aj x18))) fun r0=>br (ai r0) (some false) (br (gh ((rd ah x16 (aj x18)).1) 16) (br (bM ((rd ah x16 (aj x18)).2) (aH .i64 (rd (.int .i64) m1.1 (aj ((rd ah x16 (aj x18)).1))) 1)) (some false) (br (aq 0 x18) (br (bO (bw .i64 x18 1) m1.2) (bnd (z1d.f k (rd ah m1.2 (aj (bw .i64 x18 1))) (rd ah x16 (aj x18))) fun r1=>br (bM 0 r1) (some false) (z2e.l4 k n4 x16 x17 (aH .i64 x18 1) m1)) none) (z2e.l4 k n4 x16 x17 (aH .i64 x18 1) m1))) none)) none) (some true):=by kernel_rfl
def z2e.e:=Sg.entry z2e.sg fun x=>z2e.f k x
theorem z2e.ok:CallOK Tryz.prog 168 (z2e.e k):=GW (z2e.cx k) Tryz.func168 ⟨z2j.ok k,z2F.ok k,z1d.ok k,trivial⟩
def z2E.cx:=co (rg 0 [ri [0,2] [2,1000000,1000000],rv [0,2,3] [2,3,1000000,1000000] [6],ri [0,2,3,16] [2,3,1000000,1000000],ri [0,2,3] [2,3,1000000,1000000],ri [2,3,21] [2,3,1000000],rv [2] [2,1000000] [1],rv [2] [2,1000000] [1]]) [(196,z30.e k),(131,z0M.e k),(123,z0p.e k),(168,z2e.e k),(75,z0r.e k)] k
abbrev z2E.sg:Sg:=⟨[.ref],[ag],.dat bp,[ag]⟩
def z2E.f (o0:Ty.D ag):=fo z2E.sg (z2E.cx k) Tryz.f132 o0
theorem z2E.f_eq (o0:Ty.D ag):z2E.f k o0=bnd (z30.f k o0) fun r0=>bnd (z0M.f k 4096 r0.2) fun r1=>bnd (z0p.f k r1.2) fun r2=>br (az r2.1 0) (bnd (z2e.f k (r0.1,r1.1)) fun r3=>br (ai r3) (bnd (z0r.f k 2 r2.2) fun r4=>bnd (z0p.f k r4.2) fun r5=>br (ai (az r5.1 0)) (some (((aV 16 0),[]),r5.2)) (some ((r0.1,r1.1),r5.2))) (bnd (z0p.f k r2.2) fun r6=>br (ai (az r6.1 0)) (some (((aV 16 0),[]),r6.2)) (some ((r0.1,r1.1),r6.2)))) (bnd (z0p.f k r2.2) fun r7=>br (ai (az r7.1 0)) (some (((aV 16 0),[]),r7.2)) (some ((r0.1,r1.1),r7.2))):=by kernel_rfl
def z2E.e:=Sg.entry z2E.sg fun x=>z2E.f k x
theorem z2E.ok:CallOK Tryz.prog 132 (z2E.e k):=GW (z2E.cx k) Tryz.func132 ⟨z30.ok k,z0M.ok k,z0p.ok k,z2e.ok k,z0r.ok k,trivial⟩
def z1c.cx:=co (rg 0 [ri [0] [],ri [0,3] [],ri [3,6,7,8] [],rh [3,6,7,8,9] [] [3,6,7,8] [],rv [3,5,6,7,8] [5] [3],rv [3,6,7,8] [] [0,4,5],ri [3,6,7,8] [],rv [2] [] [0,1]]) [] k
abbrev z1c.sg:Sg:=⟨[.dat (.slc aJ)],[],.own ah,[]⟩
def z1c.f (a0:Ty.D (.slc aJ)):=fo z1c.sg (z1c.cx k) Tryz.f134 a0
def z1c.l3 (n:Nat) (x3:List (Ty.D ah)) (x6:Ty.D (.slc aJ)) (x7 x8:DJ):=lo z1c.sg (z1c.cx k) Tryz.f134 [1,1,0,1,0] 3 [3,6,7,8] [] [] n ⟨[(3,.own ah x3),(6,.dat (.slc aJ) x6),(7,.dat J x7),(8,.dat J x8)],[]⟩
theorem z1c.f_eq (a0:Ty.D (.slc aJ)):z1c.f k a0=z1c.l3 k k [] a0 (af a0) 0:=by kernel_rfl
theorem z1c.l3_eq (n3:Nat) (x3:List (Ty.D ah)) (x6:Ty.D (.slc aJ)) (x7 x8:DJ):z1c.l3 k (n3+1) x3 x6 x7 x8=br (aq x8 x7) (br (bO x8 x6) (br (bm x3 ((rd aJ x6 (aj x8)).1::[])) (z1c.l3 k n3 (app x3 ((rd aJ x6 (aj x8)).1::[])) x6 x7 (aH .i64 x8 1)) none) none) (some x3):=by kernel_rfl
def z1c.e:=Sg.entry z1c.sg fun x=>z1c.f k x
theorem z1c.ok:CallOK Tryz.prog 134 (z1c.e k):=GW (z1c.cx k) Tryz.func134 trivial
def z2s.cx:=co (rg 0 [ri [1,2,4] [2,4],rv [1,4,5] [4,5] [3],ri [4,5,10,11,12] [4,5],rh [4,5,10,11,12,13] [4,5] [4,5,10,11,12] [4,5],ri [4,5,7,10,11,12] [4,5,7],rq [4,5,7,10,11,12,16] [4,5,7] 9,rq [4,5,7,10,11,12,25] [4,5,7] 10,ri [4,5,10,11,12] [4,5],rq [4,5,7,10,11,12,41] [4,5,7] 17,rv [4,5,10,11,12] [4,5] [1,4,6],ri [4,5,10,11,12] [4,5],rv [4] [4] [1]]) [] k
abbrev z2s.sg:Sg:=⟨[.dat bc,.dat (.slc ah)],[],.dat bp,[]⟩
def z2s.f (a0:Ty.D bc) (a1:Ty.D (.slc ah)):=fo z2s.sg (z2s.cx k) Tryz.f183 (a0,a1)
def z2s.l3 (n:Nat) (x10:Ty.D (.slc ah)) (x11 x12:DJ) (m4a:Ty.D bc) (m4b:List (Ty.D ah)) (m5a:Ty.D bc) (m5b:List (Ty.D ah)):=lo z2s.sg (z2s.cx k) Tryz.f183 [1,1,0,1,0] 3 [4,5,10,11,12] [4,5] [] n ⟨[(4,.ref 4 []),(5,.ref 5 []),(10,.dat (.slc ah) x10),(11,.dat J x11),(12,.dat J x12)],[(4,.pr (.dat bc m4a) (.own ah m4b)),(5,.pr (.dat bc m5a) (.own ah m5b))]⟩
theorem z2s.f_eq (a0:Ty.D bc) (a1:Ty.D (.slc ah)):z2s.f k a0 a1=z2s.l3 k k a1 (af a1) 0 (aV 16 0) [] a0 []:=by kernel_rfl
theorem z2s.l3_eq (n3:Nat) (x10:Ty.D (.slc ah)) (x11 x12:DJ) (m4a:Ty.D bc) (m4b:List (Ty.D ah)) (m5a:Ty.D bc) (m5b:List (Ty.D ah)):z2s.l3 k (n3+1) x10 x11 x12 m4a m4b m5a m5b=br (aq x12 x11) (br (bO x12 x10) (br (gh ((rd ah x10 (aj x12)).1) 16) (br (bM ((rd ah x10 (aj x12)).2) (rd (.int .i64) m5a (aj ((rd ah x10 (aj x12)).1)))) (z2s.l3 k n3 x10 x11 (aH .i64 x12 1) m4a m4b m5a m5b) (br (gh ((rd ah x10 (aj x12)).1) 16) (br (az ((rd ah x10 (aj x12)).2) (aH .i64 (rd (.int .i64) m5a (aj ((rd ah x10 (aj x12)).1))) 1)) (br (gh ((rd ah x10 (aj x12)).1) 16) (z2s.l3 k n3 x10 x11 (aH .i64 x12 1) m4a m4b (ja m5a (aj ((rd ah x10 (aj x12)).1)) ((rd ah x10 (aj x12)).2)) m5b) none) (br (az (af m5b) 0) (br (bm m5b ((rd ah x10 (aj x12))::[])) (z2s.l3 k n3 x10 x11 (aH .i64 x12 1) m4a m4b m5a (app m5b ((rd ah x10 (aj x12))::[]))) none) (br (bO (bw .i64 (af m5b) 1) m5b) (br (ai (eQ ah (rd ah m5b (aj (bw .i64 (af m5b) 1))) (rd ah x10 (aj x12)))) (br (bm m5b ((rd ah x10 (aj x12))::[])) (z2s.l3 k n3 x10 x11 (aH .i64 x12 1) m4a m4b m5a (app m5b ((rd ah x10 (aj x12))::[]))) none) (z2s.l3 k n3 x10 x11 (aH .i64 x12 1) m4a m4b m5a m5b)) none))) none)) none) none) (some (m5a,m5b)):=by kernel_rfl
def z2s.e:=Sg.entry z2s.sg fun x=>z2s.f k x.1 x.2
theorem z2s.ok:CallOK Tryz.prog 183 (z2s.e k):=GW (z2s.cx k) Tryz.func183 trivial
def z34.cx:=co (rg 0 [ri [0,2] [2,5],rv [0,2] [2,5] [2,3],rx [0,2] [2,5] [0,1] [0] 0 [] [],⟨[2],[2],[3],[],0,[],[],[0,2],[],[],[],[]⟩]) [(113,(iE ah)),(197,(AM ah 198 lg)),(199,(qV ah 178 aP)),(178,z1d.e k),(183,z2s.e k)] k
abbrev z34.sg:Sg:=⟨[.dat (.slc ah)],[],.dat bp,[]⟩
def z34.f (a0:Ty.D (.slc ah)):=fo z34.sg (z34.cx k) Tryz.f133 a0
theorem z34.f_eq (a0:Ty.D (.slc ah)):z34.f k a0=br (bm ([]:List Int) a0) (br (bm ([]:List Int) a0) (br (bm ([]:List Int) (iI lg a0)) (bnd (z2s.f k (aV 16 0) (fH aP (iI lg a0))) fun r0=>some r0) none) none) none:=by kernel_rfl
def z34.e:=Sg.entry z34.sg fun x=>z34.f k x
theorem z34.ok:CallOK Tryz.prog 133 (z34.e k):=GW (z34.cx k) Tryz.func133 ⟨o7,AP,pH,z1d.ok k,z2s.ok k,trivial⟩
def z0e.cx:=co (rg 0 [ri [0,1] [],ri [0,1,10] [],ri [4] [],ri [0,1,12,13] [],rh [0,1,12,13,14] [] [0,1,12,13] [],ri [0,1,5,12,13] [],rq [0,1,12,13,24] [] 9,ri [4] [],ri [0,1,12,13] [],ri [4] []]) [] k
abbrev z0e.sg:Sg:=⟨[.dat (.slc ah),.dat (.slc ah)],[],.dat .bool,[]⟩
def z0e.f (a0 a1:Ty.D (.slc ah)):=fo z0e.sg (z0e.cx k) Tryz.f217 (a0,a1)
def z0e.l4 (n:Nat) (x0 x1:Ty.D (.slc ah)) (x12 x13:DJ):=lo z0e.sg (z0e.cx k) Tryz.f217 [1,1,0,1,0] 4 [0,1,12,13] [] [] n ⟨[(0,.dat (.slc ah) x0),(1,.dat (.slc ah) x1),(12,.dat J x12),(13,.dat J x13)],[]⟩
theorem z0e.f_eq (a0 a1:Ty.D (.slc ah)):z0e.f k a0 a1=br (ai (az (af a0) (af a1))) (some false) (z0e.l4 k k a0 a1 (af a0) 0):=by kernel_rfl
theorem z0e.l4_eq (n4:Nat) (x0 x1:Ty.D (.slc ah)) (x12 x13:DJ):z0e.l4 k (n4+1) x0 x1 x12 x13=br (aq x13 x12) (br (bO x13 x0) (br (bO x13 x1) (br (ai (eQ ah (rd ah x0 (aj x13)) (rd ah x1 (aj x13)))) (some false) (z0e.l4 k n4 x0 x1 x12 (aH .i64 x13 1))) none) none) (some true):=by kernel_rfl
def z0e.e:=Sg.entry z0e.sg fun x=>z0e.f k x.1 x.2
theorem z0e.ok:CallOK Tryz.prog 217 (z0e.e k):=GW (z0e.cx k) Tryz.func217 trivial
def z2I.cx:=co (rg 0 [rv [2,3] [2,3] [0,1],ri [4] [15]]) [(217,z0e.e k)] k
abbrev z2I.sg:Sg:=⟨[.dat bp,.dat bp],[],.dat .bool,[]⟩
def z2I.f (a0 a1:Ty.D bp):=fo z2I.sg (z2I.cx k) Tryz.f165 (a0,a1)
theorem z2I.f_eq (a0 a1:Ty.D bp):z2I.f k a0 a1=br (eQ bc a0.1 a1.1) (bnd (z0e.f k a0.2 a1.2) fun r0=>some r0) (some false):=by kernel_rfl
def z2I.e:=Sg.entry z2I.sg fun x=>z2I.f k x.1 x.2
theorem z2I.ok:CallOK Tryz.prog 165 (z2I.e k):=GW (z2I.cx k) Tryz.func165 ⟨z0e.ok k,trivial⟩
def z0P.cx:=co (rg 0 [rv [1] [1] [0],ri [2] []]) [(99,z2D.e k)] k
abbrev z0P.sg:Sg:=⟨[.dat aJ],[],.dat .bool,[]⟩
def z0P.f (a0:Ty.D aJ):=fo z0P.sg (z0P.cx k) Tryz.f166 a0
theorem z0P.f_eq (a0:Ty.D aJ):z0P.f k a0=bnd (z2D.f k a0) fun r0=>some (ai (az r0 0)):=by kernel_rfl
def z0P.e:=Sg.entry z0P.sg fun x=>z0P.f k x
theorem z0P.ok:CallOK Tryz.prog 166 (z0P.e k):=GW (z0P.cx k) Tryz.func166 ⟨z2D.ok k,trivial⟩
def z0S.cx:=co (rg 0 [ri [1] [1],ri [2] []]) [(128,z2F.e k)] k
abbrev z0S.sg:Sg:=⟨[.dat ah],[],.dat .bool,[]⟩
def z0S.f (a0:Ty.D ah):=fo z0S.sg (z0S.cx k) Tryz.f167 a0
theorem z0S.f_eq (a0:Ty.D ah):z0S.f k a0=bnd (z2F.f k a0) fun r0=>some (ai r0):=by kernel_rfl
def z0S.e:=Sg.entry z0S.sg fun x=>z0S.f k x
theorem z0S.ok:CallOK Tryz.prog 167 (z0S.e k):=GW (z0S.cx k) Tryz.func167 ⟨z2F.ok k,trivial⟩
def z0a.cx:=co (rg 0 [ri [0,1] [],ri [0,1,7,8] [],rh [0,1,7,8,9] [] [0,1,7,8] [],ri [0,1,5,7,8] [],ri [0,1,5,7,8,16] [16],ri [4] [],ri [0,1,7,8] [],ri [4] []]) [(166,z0P.e k)] k
abbrev z0a.sg:Sg:=⟨[.dat (.slc aJ),.fn 166 0],[],.dat J,[]⟩
def z0a.f (a0:Ty.D (.slc aJ)):=fo z0a.sg (z0a.cx k) Tryz.f215 a0
def z0a.l2 (n:Nat) (x0:Ty.D (.slc aJ)) (x7 x8:DJ):=lo z0a.sg (z0a.cx k) Tryz.f215 [1,0,1,0] 2 [0,1,7,8] [] [] n ⟨[(0,.dat (.slc aJ) x0),(1,.fn 166 []),(7,.dat J x7),(8,.dat J x8)],[]⟩
theorem z0a.f_eq (a0:Ty.D (.slc aJ)):z0a.f k a0=z0a.l2 k k a0 (af a0) 0:=by kernel_rfl
theorem z0a.l2_eq (n2:Nat) (x0:Ty.D (.slc aJ)) (x7 x8:DJ):z0a.l2 k (n2+1) x0 x7 x8=br (aq x8 x7) (br (bO x8 x0) (bnd (z0P.f k (rd aJ x0 (aj x8))) fun r0=>br r0 (some x8) (z0a.l2 k n2 x0 x7 (aH .i64 x8 1))) none) (some (-1)):=by kernel_rfl
def z0a.e:=Sg.entry z0a.sg fun x=>z0a.f k x
theorem z0a.ok:CallOK Tryz.prog 215 (z0a.e k):=GW (z0a.cx k) Tryz.func215 ⟨z0P.ok k,trivial⟩
def z06.cx:=co (rg 0 [ri [0,1] [],ri [4] []]) [(215,z0a.e k),(166,z0P.e k)] k
abbrev z06.sg:Sg:=⟨[.dat (.slc aJ),.fn 166 0],[],.dat .bool,[]⟩
def z06.f (a0:Ty.D (.slc aJ)):=fo z06.sg (z06.cx k) Tryz.f163 a0
theorem z06.f_eq (a0:Ty.D (.slc aJ)):z06.f k a0=bnd (z0a.f k a0) fun r0=>some (bM 0 r0):=by kernel_rfl
def z06.e:=Sg.entry z06.sg fun x=>z06.f k x
theorem z06.ok:CallOK Tryz.prog 163 (z06.e k):=GW (z06.cx k) Tryz.func163 ⟨z0a.ok k,z0P.ok k,trivial⟩
def z0b.cx:=co (rg 0 [ri [0,1] [],ri [0,1,7,8] [],rh [0,1,7,8,9] [] [0,1,7,8] [],ri [0,1,5,7,8] [],ri [0,1,5,7,8,16] [16],ri [4] [],ri [0,1,7,8] [],ri [4] []]) [(167,z0S.e k)] k
abbrev z0b.sg:Sg:=⟨[.dat (.slc ah),.fn 167 0],[],.dat J,[]⟩
def z0b.f (a0:Ty.D (.slc ah)):=fo z0b.sg (z0b.cx k) Tryz.f216 a0
def z0b.l2 (n:Nat) (x0:Ty.D (.slc ah)) (x7 x8:DJ):=lo z0b.sg (z0b.cx k) Tryz.f216 [1,0,1,0] 2 [0,1,7,8] [] [] n ⟨[(0,.dat (.slc ah) x0),(1,.fn 167 []),(7,.dat J x7),(8,.dat J x8)],[]⟩
theorem z0b.f_eq (a0:Ty.D (.slc ah)):z0b.f k a0=z0b.l2 k k a0 (af a0) 0:=by kernel_rfl
theorem z0b.l2_eq (n2:Nat) (x0:Ty.D (.slc ah)) (x7 x8:DJ):z0b.l2 k (n2+1) x0 x7 x8=br (aq x8 x7) (br (bO x8 x0) (bnd (z0S.f k (rd ah x0 (aj x8))) fun r0=>br r0 (some x8) (z0b.l2 k n2 x0 x7 (aH .i64 x8 1))) none) (some (-1)):=by kernel_rfl
def z0b.e:=Sg.entry z0b.sg fun x=>z0b.f k x
theorem z0b.ok:CallOK Tryz.prog 216 (z0b.e k):=GW (z0b.cx k) Tryz.func216 ⟨z0S.ok k,trivial⟩
def z05.cx:=co (rg 0 [ri [0,1] [],ri [4] []]) [(216,z0b.e k),(167,z0S.e k)] k
abbrev z05.sg:Sg:=⟨[.dat (.slc ah),.fn 167 0],[],.dat .bool,[]⟩
def z05.f (a0:Ty.D (.slc ah)):=fo z05.sg (z05.cx k) Tryz.f164 a0
theorem z05.f_eq (a0:Ty.D (.slc ah)):z05.f k a0=bnd (z0b.f k a0) fun r0=>some (bM 0 r0):=by kernel_rfl
def z05.e:=Sg.entry z05.sg fun x=>z05.f k x
theorem z05.ok:CallOK Tryz.prog 164 (z05.e k):=GW (z05.cx k) Tryz.func164 ⟨z0b.ok k,z0S.ok k,trivial⟩
def z1x.cx:=co (rg 0 [rv [1] [1] [0],rq [1,30] [1] 26,ri [2] [49,53],ri [1,33] [1,33],ri [2] [49,53],ri [1,35,36] [1],rh [1,35,36,37] [1] [1,35,36] [1],rv [1,4,35,36] [1] [1],ri [1,35,36,45] [1,44],ri [2] [49,53],ri [1,35,36] [1],ri [2] [49,53]]) [(162,z2G.e k),(101,z1s.e k),(134,z1c.e k),(133,z34.e k),(165,z2I.e k),(163,z06.e k),(166,z0P.e k),(164,z05.e k),(167,z0S.e k),(168,z2e.e k)] k
abbrev z1x.sg:Sg:=⟨[.dat aI],[],.dat .bool,[]⟩
def z1x.f (a0:Ty.D aI):=fo z1x.sg (z1x.cx k) Tryz.f103 a0
def z1x.l6 (n:Nat) (x35:Ty.D (.arr 8 (.slc ah))) (x36:DJ) (m1:Ty.D aI):=lo z1x.sg (z1x.cx k) Tryz.f103 [1,1,1,0,1,0] 6 [1,35,36] [1] [] n ⟨[(1,.ref 1 []),(35,.dat (.arr 8 (.slc ah)) x35),(36,.dat J x36)],[(1,.dat aI m1)]⟩
theorem z1x.f_eq (a0:Ty.D aI):z1x.f k a0=br (aq 1000 (af a0.1)) (some false) (bnd (z2G.f k a0.1) fun r0=>br (ai r0) (some false) (bnd (z1s.f k a0.2.1) fun r1=>br (ai r1) (some false) (bnd (z1c.f k a0.1) fun r2=>bnd (z34.f k r2) fun r3=>bnd (z2I.f k a0.2.2.1 r3) fun r4=>br (ai r4) (some false) (bnd (z06.f k a0.1) fun r5=>br r5 (some false) (z1x.l6 k k a0.2.2.2.2 0 a0))))):=by kernel_rfl
theorem z1x.l6_eq (n6:Nat) (x35:Ty.D (.arr 8 (.slc ah))) (x36:DJ) (m1:Ty.D aI):z1x.l6 k (n6+1) x35 x36 m1=br (aq x36 8) (br (gh x36 8) (br (aq 1000 (af (rd (.slc ah) x35 (aj x36)))) (some false) (bnd (z05.f k (rd (.slc ah) x35 (aj x36))) fun r0=>br r0 (some false) (z1x.l6 k n6 x35 (aH .i64 x36 1) m1))) none) (bnd (z2e.f k m1.2.2.1) fun r1=>br r1 (bnd (z2e.f k m1.2.2.2.1) fun r2=>some r2) (some false)):=by kernel_rfl
def z1x.e:=Sg.entry z1x.sg fun x=>z1x.f k x
theorem z1x.ok:CallOK Tryz.prog 103 (z1x.e k):=GW (z1x.cx k) Tryz.func103 ⟨z2G.ok k,z1s.ok k,z1c.ok k,z34.ok k,z2I.ok k,z06.ok k,z0P.ok k,z05.ok k,z0S.ok k,z2e.ok k,trivial⟩
def z2b.cx:=co (rg 0 [ri [0,2] [2,1000000,1000000],rv [0,2,3] [2,3,1000000,1000000] [8],ri [0,2,3,12] [2,3,1000000,1000000],rh [0,2,3,12,13] [2,3,1000000,1000000] [0,2,3,12] [2,3,1000000,1000000],ri [0,2,3,4,12] [2,3,1000000,1000000],rv [0,2,3,12] [2,3,1000000,1000000] [5],ri [0,2,3,12] [2,3,1000000,1000000],rv [0,2,3] [2,3,1000000,1000000] [5],ri [0,2,3,33] [2,3,1000000,1000000],ri [0,2,3] [2,3,1000000,1000000],ri [2,3,38] [2,3,1000000],rv [2] [2,1000000] [1],rv [2] [2,1000000] [1]]) [(129,z0V.e k),(130,z1L.e k),(132,z2E.e k),(131,z0M.e k),(134,z1c.e k),(133,z34.e k),(123,z0p.e k),(103,z1x.e k),(75,z0r.e k)] k
abbrev z2b.sg:Sg:=⟨[.ref],[ag],.dat aI,[ag]⟩
def z2b.f (o0:Ty.D ag):=fo z2b.sg (z2b.cx k) Tryz.f74 o0
def z2b.l3 (n:Nat) (x12:DJ) (m2a:List (Ty.D aJ)) (m2ba:List (Ty.D ak)) (m2bbaa:Ty.D bc) (m2bbab:List (Ty.D ah)) (m2bbbaa:Ty.D bc) (m2bbbab:List (Ty.D ah)) (m2bbbb:Ty.D (.arr 8 (.slc ah))) (m3a:Ty.D (.slc aJ)) (m3ba:Ty.D (.slc ak)) (m3bbaa:Ty.D bc) (m3bbab:List (Ty.D ah)) (m3bbb:Ty.D (.pair bp (.arr 8 (.slc ah)))) (m1000000:Ty.D ag):=lo z2b.sg (z2b.cx k) Tryz.f74 [1,1,0,1,0] 3 [0,2,3,12] [2,3,1000000,1000000] [] n ⟨[(0,.ref 1000000 []),(2,.ref 2 []),(3,.ref 3 []),(12,.dat J x12)],[(2,.pr (.own aJ m2a) (.pr (.own ak m2ba) (.pr (.pr (.dat bc m2bbaa) (.own ah m2bbab)) (.pr (.pr (.dat bc m2bbbaa) (.own ah m2bbbab)) (.dat (.arr 8 (.slc ah)) m2bbbb))))),(3,.pr (.dat (.slc aJ) m3a) (.pr (.dat (.slc ak) m3ba) (.pr (.pr (.dat bc m3bbaa) (.own ah m3bbab)) (.dat (.pair bp (.arr 8 (.slc ah))) m3bbb)))),(1000000,.dat ag m1000000)]⟩
theorem z2b.f_eq (o0:Ty.D ag):z2b.f k o0=bnd (z0V.f k 1000 o0) fun r0=>bnd (z1L.f k 1048576 r0.2) fun r1=>bnd (z2E.f k r1.2) fun r2=>z2b.l3 k k 0 [] [] (aV 16 0) [] (aV 16 0) [] (aV 8 []) r0.1 r1.1 (aV 16 0) [] (r2.1,(aV 8 [])) r2.2:=by kernel_rfl
theorem z2b.l3_eq (n3:Nat) (x12:DJ) (m2a:List (Ty.D aJ)) (m2ba:List (Ty.D ak)) (m2bbaa:Ty.D bc) (m2bbab:List (Ty.D ah)) (m2bbbaa:Ty.D bc) (m2bbbab:List (Ty.D ah)) (m2bbbb:Ty.D (.arr 8 (.slc ah))) (m3a:Ty.D (.slc aJ)) (m3ba:Ty.D (.slc ak)) (m3bbaa:Ty.D bc) (m3bbab:List (Ty.D ah)) (m3bbb:Ty.D (.pair bp (.arr 8 (.slc ah)))) (m1000000:Ty.D ag):z2b.l3 k (n3+1) x12 m2a m2ba m2bbaa m2bbab m2bbbaa m2bbbab m2bbbb m3a m3ba m3bbaa m3bbab m3bbb m1000000=br (aq x12 8) (bnd (z0M.f k 1000 m1000000) fun r0=>br (gh x12 8) (z2b.l3 k n3 (aH .i64 x12 1) m2a m2ba m2bbaa m2bbab m2bbbaa m2bbbab m2bbbb m3a m3ba m3bbaa m3bbab (m3bbb.1,(ja m3bbb.2 (aj x12) r0.1)) r0.2) none) (bnd (z1c.f k m3a) fun r1=>bnd (z34.f k r1) fun r2=>bnd (z0p.f k m1000000) fun r3=>br (az r3.1 0) (bnd (z1x.f k (m3a,(m3ba,(r2,m3bbb)))) fun r4=>br (ai r4) (bnd (z0r.f k 2 r3.2) fun r5=>bnd (z0p.f k r5.2) fun r6=>br (ai (az r6.1 0)) (some (([],([],(((aV 16 0),[]),(((aV 16 0),[]),(aV 8 []))))),r6.2)) (some ((m3a,(m3ba,(r2,m3bbb))),r6.2))) (bnd (z0p.f k r3.2) fun r7=>br (ai (az r7.1 0)) (some (([],([],(((aV 16 0),[]),(((aV 16 0),[]),(aV 8 []))))),r7.2)) (some ((m3a,(m3ba,(r2,m3bbb))),r7.2)))) (bnd (z0p.f k r3.2) fun r8=>br (ai (az r8.1 0)) (some (([],([],(((aV 16 0),[]),(((aV 16 0),[]),(aV 8 []))))),r8.2)) (some ((m3a,(m3ba,(r2,m3bbb))),r8.2)))):=by kernel_rfl
def z2b.e:=Sg.entry z2b.sg fun x=>z2b.f k x
theorem z2b.ok:CallOK Tryz.prog 74 (z2b.e k):=GW (z2b.cx k) Tryz.func74 ⟨z0V.ok k,z1L.ok k,z2E.ok k,z0M.ok k,z1c.ok k,z34.ok k,z0p.ok k,z1x.ok k,z0r.ok k,trivial⟩
def z0F.cx:=co (rg 0 [ri [0] [1000000,1000000],ri [0,5] [1000000,1000000],ri [0] [1000000,1000000],ri [2] [9,1000000]]) [(122,z0t.e k),(75,z0r.e k),(123,z0p.e k)] k
abbrev z0F.sg:Sg:=⟨[.ref],[ag],.dat J,[ag]⟩
def z0F.f (o0:Ty.D ag):=fo z0F.sg (z0F.cx k) Tryz.f76 o0
theorem z0F.f_eq (o0:Ty.D ag):z0F.f k o0=bnd (z0t.f k o0) fun r0=>br (aq 0 r0.1) (bnd (z0r.f k 3 r0.2) fun r1=>bnd (z0p.f k r1.2) fun r2=>some (r2.1,r2.2)) (bnd (z0p.f k r0.2) fun r3=>some (r3.1,r3.2)):=by kernel_rfl
def z0F.e:=Sg.entry z0F.sg fun x=>z0F.f k x
theorem z0F.ok:CallOK Tryz.prog 76 (z0F.e k):=GW (z0F.cx k) Tryz.func76 ⟨z0t.ok k,z0r.ok k,z0p.ok k,trivial⟩
def z1j.cx:=co (rg 0 [ri [0] [],ri [2] []]) [] k
abbrev z1j.sg:Sg:=⟨[.dat J],[],.dat .bool,[]⟩
def z1j.f (a0:DJ):=fo z1j.sg (z1j.cx k) Tryz.f100 a0
theorem z1j.f_eq (a0:DJ):z1j.f k a0=br (bM 0 a0) (some (aq a0 8)) (some false):=by kernel_rfl
def z1j.e:=Sg.entry z1j.sg fun x=>z1j.f k x
theorem z1j.ok:CallOK Tryz.prog 100 (z1j.e k):=GW (z1j.cx k) Tryz.func100 trivial
def z0I.cx:=co (rg 0 [rv [1] [1] [0],ri [2] []]) [(99,z2D.e k)] k
abbrev z0I.sg:Sg:=⟨[.dat aJ],[],.dat .bool,[]⟩
def z0I.f (a0:Ty.D aJ):=fo z0I.sg (z0I.cx k) Tryz.f160 a0
theorem z0I.f_eq (a0:Ty.D aJ):z0I.f k a0=bnd (z2D.f k a0) fun r0=>some (ai (az r0 0)):=by kernel_rfl
def z0I.e:=Sg.entry z0I.sg fun x=>z0I.f k x
theorem z0I.ok:CallOK Tryz.prog 160 (z0I.e k):=GW (z0I.cx k) Tryz.func160 ⟨z2D.ok k,trivial⟩
def z0H.cx:=co (rg 0 [ri [1] [1],ri [2] []]) [(128,z2F.e k)] k
abbrev z0H.sg:Sg:=⟨[.dat ah],[],.dat .bool,[]⟩
def z0H.f (a0:Ty.D ah):=fo z0H.sg (z0H.cx k) Tryz.f161 a0
theorem z0H.f_eq (a0:Ty.D ah):z0H.f k a0=bnd (z2F.f k a0) fun r0=>some (ai r0):=by kernel_rfl
def z0H.e:=Sg.entry z0H.sg fun x=>z0H.f k x
theorem z0H.ok:CallOK Tryz.prog 161 (z0H.e k):=GW (z0H.cx k) Tryz.func161 ⟨z2F.ok k,trivial⟩
def z08.cx:=co (rg 0 [ri [0,1] [],ri [0,1,7,8] [],rh [0,1,7,8,9] [] [0,1,7,8] [],ri [0,1,5,7,8] [],ri [0,1,5,7,8,16] [16],ri [4] [],ri [0,1,7,8] [],ri [4] []]) [(160,z0I.e k)] k
abbrev z08.sg:Sg:=⟨[.dat (.slc aJ),.fn 160 0],[],.dat J,[]⟩
def z08.f (a0:Ty.D (.slc aJ)):=fo z08.sg (z08.cx k) Tryz.f215 a0
def z08.l2 (n:Nat) (x0:Ty.D (.slc aJ)) (x7 x8:DJ):=lo z08.sg (z08.cx k) Tryz.f215 [1,0,1,0] 2 [0,1,7,8] [] [] n ⟨[(0,.dat (.slc aJ) x0),(1,.fn 160 []),(7,.dat J x7),(8,.dat J x8)],[]⟩
theorem z08.f_eq (a0:Ty.D (.slc aJ)):z08.f k a0=z08.l2 k k a0 (af a0) 0:=by kernel_rfl
theorem z08.l2_eq (n2:Nat) (x0:Ty.D (.slc aJ)) (x7 x8:DJ):z08.l2 k (n2+1) x0 x7 x8=br (aq x8 x7) (br (bO x8 x0) (bnd (z0I.f k (rd aJ x0 (aj x8))) fun r0=>br r0 (some x8) (z08.l2 k n2 x0 x7 (aH .i64 x8 1))) none) (some (-1)):=by kernel_rfl
def z08.e:=Sg.entry z08.sg fun x=>z08.f k x
theorem z08.ok:CallOK Tryz.prog 215 (z08.e k):=GW (z08.cx k) Tryz.func215 ⟨z0I.ok k,trivial⟩
def z03.cx:=co (rg 0 [ri [0,1] [],ri [4] []]) [(215,(Entry.alt z0a.sg (z0a.e k) (z08.e k))),(160,z0I.e k)] k
abbrev z03.sg:Sg:=⟨[.dat (.slc aJ),.fn 160 0],[],.dat .bool,[]⟩
def z03.f (a0:Ty.D (.slc aJ)):=fo z03.sg (z03.cx k) Tryz.f163 a0
theorem z03.f_eq (a0:Ty.D (.slc aJ)):z03.f k a0=bnd (z08.f k a0) fun r0=>some (bM 0 r0):=by kernel_rfl
def z03.e:=Sg.entry z03.sg fun x=>z03.f k x
theorem z03.ok:CallOK Tryz.prog 163 (z03.e k):=GW (z03.cx k) Tryz.func163 ⟨(pf (z0a.ok k) (z08.ok k)),z0I.ok k,trivial⟩
end Go.Proofs.YtfhcammihohmjaaGreatDoor
end
