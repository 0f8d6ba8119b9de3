/- The functions that the statement reaches, and what they come to. Part 4. -/
import Derived.Lib.DecodeN
import Derived.Test.YtfhcammihohmjaaGreatDoorFw1
import Derived.Test.YtfhcammihohmjaaGreatDoorFw2
import Derived.Test.YtfhcammihohmjaaGreatDoorFw3
import Derived.Test.YtfhcammihohmjaaGreatDoorJournalSnaps1
import Derived.Test.YtfhcammihohmjaaGreatDoorJournalSnaps2
import Derived.Test.YtfhcammihohmjaaGreatDoorJournalSnaps3
set_option linter.unusedVariables false
set_option linter.unusedSimpArgs false
set_option linter.unusedSectionVars false
noncomputable section
/- The program's functions, as plain equations. -/
namespace Go.Proofs.YtfhcammihohmjaaGreatDoor
open Pal
variable (k:Nat)
set_option maxRecDepth 100000
def z1U.cx:=co (rg 0 [rv [2,3,4] [2,3,4] [0,1],ri [2,3,4,9] [2,3,4],ri [2,3,4,9,10] [2,3,4],rv [2,3,4] [2,3,4] [4],ri [2,4] [2,4],ri [2,3,4,9,21] [2,3,4],rv [2,3,4] [2,3,4] [5],ri [2,3,4,5] [2,3,4],rv [2,3,4,5] [2,3,4] [0,6,7],ri [2,3,4,5,37] [2,3,4],rv [2,3,4,5] [2,3,4] [0,5,6],ri [2,3,4,5,6] [2,3,4],ri [2,3,4,5,6,7] [2,3,4],rh [2,3,4,5,6,7,47] [2,3,4] [2,3,4,5,6,7] [2,3,4],ri [2,3,4,5,6,7] [2,3,4],rq [2,3,4,5,6,7,57] [2,3,4] 8,ri [2,3,4,5,6,7] [2,3,4],ri [2,3,4,5,6,65] [2,3,4],rv [2,3,4,5] [2,3,4] [3],rv [2,4] [2,4] [5],ri [2,3,4,9,74] [2,3,4],rv [4] [4] [4],ri [2,3,4,80] [2,3,4],rv [4] [4] [2],rv [4] [4] [1]]) [(88,z2H.e k),(89,z1l.e k),(90,z13.e k)] k
abbrev z1U.sg:Sg:=⟨[.dat aI,.dat b7],[],.dat aI,[]⟩
def z1U.f (a0:Ty.D aI) (a1:Ty.D b7):=fo z1U.sg (z1U.cx k) Tryz.f31 (a0,a1)
def z1U.l13 (n:Nat) (x5:List (Ty.D ah)) (x6 x7:DJ) (m2:Ty.D aI) (m3:Ty.D b7) (m4a:List (Ty.D aJ)) (m4ba:List (Ty.D ak)) (m4bbaa:Ty.D bc) (m4bbab:List (Ty.D ah)) (m4bbbaa:Ty.D bc) (m4bbbab:List (Ty.D ah)) (m4bbbb:Ty.D (.arr 8 (.slc ah))):=lo z1U.sg (z1U.cx k) Tryz.f31 [1,0,1,0,1,1,1,0,1,1,1,1,1,0,1,0] 13 [2,3,4,5,6,7] [2,3,4] [] n ⟨[(2,.ref 2 []),(3,.ref 3 []),(4,.ref 4 []),(5,.own ah x5),(6,.dat J x6),(7,.dat J x7)],[(2,.dat aI m2),(3,.dat b7 m3),(4,.pr (.own aJ m4a) (.pr (.own ak m4ba) (.pr (.pr (.dat bc m4bbaa) (.own ah m4bbab)) (.pr (.pr (.dat bc m4bbbaa) (.own ah m4bbbab)) (.dat (.arr 8 (.slc ah)) m4bbbb)))))]⟩
theorem z1U.f_eq (a0:Ty.D aI) (a1:Ty.D b7):z1U.f k a0 a1=br (az a1.1 1) (bnd (z2H.f k a0 a1.2.1) fun r0=>br (gh a1.2.1.2.1 8) (some (r0.1,(r0.2.1,(r0.2.2.1,(r0.2.2.2.1,(ja r0.2.2.2.2 (aj a1.2.1.2.1) [])))))) none) (br (az a1.1 2) (bnd (z1l.f k a0 (a1.2.2.2.1::[])) fun r1=>br (gh a1.2.2.1 8) (br (bm ([]:List Int) (rd (.slc ah) r1.2.2.2.2 (aj a1.2.2.1))) (br (az a1.2.2.2.2.1 1) (br (bm (app [] (rd (.slc ah) r1.2.2.2.2 (aj a1.2.2.1))) (a1.2.2.2.1.1::[])) (z1U.l13 k k (app (app [] (rd (.slc ah) r1.2.2.2.2 (aj a1.2.2.1))) (a1.2.2.2.1.1::[])) (-1) 0 r1 a1 [] [] (aV 16 0) [] (aV 16 0) [] (aV 8 [])) none) (z1U.l13 k k (app [] (rd (.slc ah) r1.2.2.2.2 (aj a1.2.2.1))) (-1) 0 r1 a1 [] [] (aV 16 0) [] (aV 16 0) [] (aV 8 []))) none) none) (br (az a1.1 3) (bnd (z13.f k a0 a1.2.2.2.2.2.1) fun r2=>some r2) (br (az a1.1 4) (some a1.2.2.2.2.2.2) (some a0)))):=by kernel_rfl
theorem z1U.l13_eq (n13:Nat) (x5:List (Ty.D ah)) (x6 x7:DJ) (m2:Ty.D aI) (m3:Ty.D b7) (m4a:List (Ty.D aJ)) (m4ba:List (Ty.D ak)) (m4bbaa:Ty.D bc) (m4bbab:List (Ty.D ah)) (m4bbbaa:Ty.D bc) (m4bbbab:List (Ty.D ah)) (m4bbbb:Ty.D (.arr 8 (.slc ah))):z1U.l13 k (n13+1) x5 x6 x7 m2 m3 m4a m4ba m4bbaa m4bbab m4bbbaa m4bbbab m4bbbb=br (aq x7 (af x5)) (br (bO x7 x5) (br (eQ ah (rd ah x5 (aj x7)) m3.2.2.2.1.1) (z1U.l13 k n13 x5 x7 (aH .i64 x7 1) m2 m3 m4a m4ba m4bbaa m4bbab m4bbbaa m4bbbab m4bbbb) (z1U.l13 k n13 x5 x6 (aH .i64 x7 1) m2 m3 m4a m4ba m4bbaa m4bbab m4bbbaa m4bbbab m4bbbb)) none) (br (az m3.2.2.2.2.1 2) (br (bM 0 x6) (br (eE 0 x6 (af x5)) (br (gh m3.2.2.1 8) (some (m2.1,(m2.2.1,(m2.2.2.1,(m2.2.2.2.1,(ja m2.2.2.2.2 (aj m3.2.2.1) (ba x5 0 x6))))))) none) none) (br (gh m3.2.2.1 8) (some (m2.1,(m2.2.1,(m2.2.2.1,(m2.2.2.2.1,(ja m2.2.2.2.2 (aj m3.2.2.1) x5)))))) none)) (br (gh m3.2.2.1 8) (some (m2.1,(m2.2.1,(m2.2.2.1,(m2.2.2.2.1,(ja m2.2.2.2.2 (aj m3.2.2.1) x5)))))) none)):=by kernel_rfl
@[reducible] def ref25_Replay.sg:Sg:=⟨[.dat .str],[],.t3 aI (.int .i64) (.int .i64),[]⟩
def z1P.cx:=co (rg 0 [ri [0,1] [],ri [0,1,10] [],ri [4] [],ri [0,1,5] [],rh [0,1,5,14] [] [0,1,5] [],ri [0,1,5] [],rq [0,1,5,25] [] 9,ri [4] [],ri [4] []]) [] k
abbrev z1P.sg:Sg:=⟨[.dat (.slc .str),.dat (.slc .str)],[],.dat .bool,[]⟩
def z1P.f (a0 a1:Ty.D (.slc .str)):=fo z1P.sg (z1P.cx k) Tryz.f206 (a0,a1)
def z1P.l4 (n:Nat) (x0 x1:Ty.D (.slc .str)) (x5:DJ):=lo z1P.sg (z1P.cx k) Tryz.f206 [1,1,0,1,0] 4 [0,1,5] [] [] n ⟨[(0,.dat (.slc .str) x0),(1,.dat (.slc .str) x1),(5,.dat J x5)],[]⟩
theorem z1P.f_eq (a0 a1:Ty.D (.slc .str)):z1P.f k a0 a1=br (ai (az (af a0) (af a1))) (some false) (z1P.l4 k k a0 a1 0):=by kernel_rfl
theorem z1P.l4_eq (n4:Nat) (x0 x1:Ty.D (.slc .str)) (x5:DJ):z1P.l4 k (n4+1) x0 x1 x5=br (aq x5 (af x0)) (br (bO x5 x0) (br (bO x5 x1) (br (ai (seq (rd .str x0 (aj x5)) (rd .str x1 (aj x5)))) (some false) (z1P.l4 k n4 x0 x1 (aH .i64 x5 1))) none) none) (some true):=by kernel_rfl
def z1P.e:=Sg.entry z1P.sg fun x=>z1P.f k x.1 x.2
theorem z1P.ok:CallOK Tryz.prog 206 (z1P.e k):=GW (z1P.cx k) Tryz.func206 trivial
def z1M.cx:=co (rg 0 [rv [2,3] [2,3] [0,1],ri [2,3,41] [2,3],ri [4] [],ri [2,3,5] [2,3],rh [2,3,5,46] [2,3] [2,3,5] [2,3],ri [2,3,5] [2,3],rq [2,3,5,59] [2,3] 11,ri [4] [],ri [4] []]) [(206,z1P.e k)] k
abbrev z1M.sg:Sg:=⟨[.dat eJ,.dat eJ],[],.dat .bool,[]⟩
def z1M.f (a0 a1:Ty.D eJ):=fo z1M.sg (z1M.cx k) Tryz.f149 (a0,a1)
def z1M.l4 (n:Nat) (x5:DJ) (m2 m3:Ty.D eJ):=lo z1M.sg (z1M.cx k) Tryz.f149 [1,1,0,1,0] 4 [2,3,5] [2,3] [] n ⟨[(2,.ref 2 []),(3,.ref 3 []),(5,.dat J x5)],[(2,.dat eJ m2),(3,.dat eJ m3)]⟩
theorem z1M.f_eq (a0 a1:Ty.D eJ):z1M.f k a0 a1=br (ai (az a0.1 a1.1)) (some false) (br (ai (eQ cC a0.2.2.1 a1.2.2.1)) (some false) (br (ai (az a0.2.2.2.1 a1.2.2.2.1)) (some false) (bnd (z1P.f k a0.2.1 a1.2.1) fun r0=>br (ai r0) (some false) (br (ai (az (af a0.2.2.2.2) (af a1.2.2.2.2))) (some false) (z1M.l4 k k 0 a0 a1))))):=by kernel_rfl
theorem z1M.l4_eq (n4:Nat) (x5:DJ) (m2 m3:Ty.D eJ):z1M.l4 k (n4+1) x5 m2 m3=br (aq x5 (af m2.2.2.2.2)) (br (bO x5 m2.2.2.2.2) (br (bO x5 m3.2.2.2.2) (br (ai (eQ ak (rd ak m2.2.2.2.2 (aj x5)) (rd ak m3.2.2.2.2 (aj x5)))) (some false) (z1M.l4 k n4 (aH .i64 x5 1) m2 m3)) none) none) (some true):=by kernel_rfl
def z1M.e:=Sg.entry z1M.sg fun x=>z1M.f k x.1 x.2
theorem z1M.ok:CallOK Tryz.prog 149 (z1M.e k):=GW (z1M.cx k) Tryz.func149 ⟨z1P.ok k,trivial⟩
def z2a.cx:=co (rg 0 [rv [2,3] [2,3] [0,1],ri [2,3,40] [2,3],ri [4] [],ri [2,3,5] [2,3],rh [2,3,5,45] [2,3] [2,3,5] [2,3],ri [2,3,5] [2,3],rq [2,3,5,59] [2,3] 12,ri [4] [],ri [4] []]) [(149,z1M.e k)] k
abbrev z2a.sg:Sg:=⟨[.dat aJ,.dat aJ],[],.dat .bool,[]⟩
def z2a.f (a0 a1:Ty.D aJ):=fo z2a.sg (z2a.cx k) Tryz.f91 (a0,a1)
def z2a.l4 (n:Nat) (x5:DJ) (m2 m3:Ty.D aJ):=lo z2a.sg (z2a.cx k) Tryz.f91 [1,1,0,1,0] 4 [2,3,5] [2,3] [] n ⟨[(2,.ref 2 []),(3,.ref 3 []),(5,.dat J x5)],[(2,.dat aJ m2),(3,.dat aJ m3)]⟩
theorem z2a.f_eq (a0 a1:Ty.D aJ):z2a.f k a0 a1=br (ai (eQ ah a0.1 a1.1)) (some false) (br (ai (az a0.2.1 a1.2.1)) (some false) (br (ai (az a0.2.2.1 a1.2.2.1)) (some false) (br (ai (eQ .bool a0.2.2.2.1 a1.2.2.2.1)) (some false) (br (ai (az (af a0.2.2.2.2) (af a1.2.2.2.2))) (some false) (z2a.l4 k k 0 a0 a1))))):=by kernel_rfl
theorem z2a.l4_eq (n4:Nat) (x5:DJ) (m2 m3:Ty.D aJ):z2a.l4 k (n4+1) x5 m2 m3=br (aq x5 (af m2.2.2.2.2)) (br (bO x5 m2.2.2.2.2) (br (bO x5 m3.2.2.2.2) (bnd (z1M.f k (rd eJ m2.2.2.2.2 (aj x5)) (rd eJ m3.2.2.2.2 (aj x5))) fun r0=>br (ai r0) (some false) (z2a.l4 k n4 (aH .i64 x5 1) m2 m3)) none) none) (some true):=by kernel_rfl
def z2a.e:=Sg.entry z2a.sg fun x=>z2a.f k x.1 x.2
theorem z2a.ok:CallOK Tryz.prog 91 (z2a.e k):=GW (z2a.cx k) Tryz.func91 ⟨z1M.ok k,trivial⟩
def z2n.cx:=co (rg 0 [ri [0,1] [],ri [0,1,10] [],ri [4] [],ri [0,1,5] [],rh [0,1,5,14] [] [0,1,5] [],ri [0,1,5] [],rq [0,1,5,26] [] 10,ri [4] [],ri [4] []]) [(91,z2a.e k)] k
abbrev z2n.sg:Sg:=⟨[.dat (.slc aJ),.dat (.slc aJ)],[],.dat .bool,[]⟩
def z2n.f (a0 a1:Ty.D (.slc aJ)):=fo z2n.sg (z2n.cx k) Tryz.f33 (a0,a1)
def z2n.l4 (n:Nat) (x0 x1:Ty.D (.slc aJ)) (x5:DJ):=lo z2n.sg (z2n.cx k) Tryz.f33 [1,1,0,1,0] 4 [0,1,5] [] [] n ⟨[(0,.dat (.slc aJ) x0),(1,.dat (.slc aJ) x1),(5,.dat J x5)],[]⟩
theorem z2n.f_eq (a0 a1:Ty.D (.slc aJ)):z2n.f k a0 a1=br (ai (az (af a0) (af a1))) (some false) (z2n.l4 k k a0 a1 0):=by kernel_rfl
theorem z2n.l4_eq (n4:Nat) (x0 x1:Ty.D (.slc aJ)) (x5:DJ):z2n.l4 k (n4+1) x0 x1 x5=br (aq x5 (af x0)) (br (bO x5 x0) (br (bO x5 x1) (bnd (z2a.f k (rd aJ x0 (aj x5)) (rd aJ x1 (aj x5))) fun r0=>br (ai r0) (some false) (z2n.l4 k n4 x0 x1 (aH .i64 x5 1))) none) none) (some true):=by kernel_rfl
def z2n.e:=Sg.entry z2n.sg fun x=>z2n.f k x.1 x.2
theorem z2n.ok:CallOK Tryz.prog 33 (z2n.e k):=GW (z2n.cx k) Tryz.func33 ⟨z2a.ok k,trivial⟩
def z1H.cx:=co (rg 0 [ri [0,1] [],ri [0,1,10] [],ri [4] [],ri [0,1,5] [],rh [0,1,5,14] [] [0,1,5] [],ri [0,1,5] [],rq [0,1,5,25] [] 9,ri [4] [],ri [4] []]) [] k
abbrev z1H.sg:Sg:=⟨[.dat (.slc ak),.dat (.slc ak)],[],.dat .bool,[]⟩
def z1H.f (a0 a1:Ty.D (.slc ak)):=fo z1H.sg (z1H.cx k) Tryz.f34 (a0,a1)
def z1H.l4 (n:Nat) (x0 x1:Ty.D (.slc ak)) (x5:DJ):=lo z1H.sg (z1H.cx k) Tryz.f34 [1,1,0,1,0] 4 [0,1,5] [] [] n ⟨[(0,.dat (.slc ak) x0),(1,.dat (.slc ak) x1),(5,.dat J x5)],[]⟩
theorem z1H.f_eq (a0 a1:Ty.D (.slc ak)):z1H.f k a0 a1=br (ai (az (af a0) (af a1))) (some false) (z1H.l4 k k a0 a1 0):=by kernel_rfl
theorem z1H.l4_eq (n4:Nat) (x0 x1:Ty.D (.slc ak)) (x5:DJ):z1H.l4 k (n4+1) x0 x1 x5=br (aq x5 (af x0)) (br (bO x5 x0) (br (bO x5 x1) (br (ai (eQ ak (rd ak x0 (aj x5)) (rd ak x1 (aj x5)))) (some false) (z1H.l4 k n4 x0 x1 (aH .i64 x5 1))) none) none) (some true):=by kernel_rfl
def z1H.e:=Sg.entry z1H.sg fun x=>z1H.f k x.1 x.2
theorem z1H.ok:CallOK Tryz.prog 34 (z1H.e k):=GW (z1H.cx k) Tryz.func34 trivial
def z1W.cx:=co (rg 0 [rv [2,3] [2,3] [0,1],ri [2,3,5] [2,3],rh [2,3,5,7] [2,3] [2,3,5] [2,3],ri [2,3,5] [2,3],rq [2,3,5,19] [2,3] 10,ri [4] [24,30,37,44],ri [4] [24,30,37,44]]) [(32,z1E.e k),(33,z2n.e k),(34,z1H.e k),(35,z1Z.e k)] k
abbrev z1W.sg:Sg:=⟨[.dat aI,.dat aI],[],.dat .bool,[]⟩
def z1W.f (a0 a1:Ty.D aI):=fo z1W.sg (z1W.cx k) Tryz.f9 (a0,a1)
def z1W.l2 (n:Nat) (x5:DJ) (m2 m3:Ty.D aI):=lo z1W.sg (z1W.cx k) Tryz.f9 [1,0,1,0] 2 [2,3,5] [2,3] [] n ⟨[(2,.ref 2 []),(3,.ref 3 []),(5,.dat J x5)],[(2,.dat aI m2),(3,.dat aI m3)]⟩
theorem z1W.f_eq (a0 a1:Ty.D aI):z1W.f k a0 a1=z1W.l2 k k 0 a0 a1:=by kernel_rfl
theorem z1W.l2_eq (n2:Nat) (x5:DJ) (m2 m3:Ty.D aI):z1W.l2 k (n2+1) x5 m2 m3=br (aq x5 8) (br (gh x5 8) (br (gh x5 8) (bnd (z1E.f k (rd (.slc ah) m2.2.2.2.2 (aj x5)) (rd (.slc ah) m3.2.2.2.2 (aj x5))) fun r0=>br (ai r0) (some false) (z1W.l2 k n2 (aH .i64 x5 1) m2 m3)) none) none) (bnd (z2n.f k m2.1 m3.1) fun r1=>br r1 (bnd (z1H.f k m2.2.1 m3.2.1) fun r2=>br r2 (bnd (z1Z.f k m2.2.2.1 m3.2.2.1) fun r3=>br r3 (bnd (z1Z.f k m2.2.2.2.1 m3.2.2.2.1) fun r4=>some r4) (some false)) (some false)) (some false)):=by kernel_rfl
def z1W.e:=Sg.entry z1W.sg fun x=>z1W.f k x.1 x.2
theorem z1W.ok:CallOK Tryz.prog 9 (z1W.e k):=GW (z1W.cx k) Tryz.func9 ⟨z1E.ok k,z2n.ok k,z1H.ok k,z1Z.ok k,trivial⟩
def z2L.cx:=co (rg 0 [ri [] [],ri [0] [2]]) [] k
abbrev z2L.sg:Sg:=⟨[],[],.new,[bJ]⟩
def z2L.f:=fo z2L.sg (z2L.cx k) Tryz.f47 ()
theorem z2L.f_eq:z2L.f k=some ((),([],([],0))):=by kernel_rfl
def z2L.e:=Sg.entry z2L.sg fun x=>z2L.f k
theorem z2L.ok:CallOK Tryz.prog 47 (z2L.e k):=GW (z2L.cx k) Tryz.func47 trivial
def z1b.cx:=co (rg 0 [⟨[],[],[],[],0,[],[],[],[],[],[],[3]⟩,⟨[0],[3],[],[],0,[],[],[],[],[],[],[3]⟩]) [(47,z2L.e k)] k
abbrev z1b.sg:Sg:=⟨[],[],.new,[aX]⟩
def z1b.f:=fo z1b.sg (z1b.cx k) Tryz.f15 ()
theorem z1b.f_eq:z1b.f k=bnd (z2L.f k) fun r0=>some ((),((some r0.2),0)):=by kernel_rfl
def z1b.e:=Sg.entry z1b.sg fun x=>z1b.f k
theorem z1b.ok:CallOK Tryz.prog 15 (z1b.e k):=GW (z1b.cx k) Tryz.func15 ⟨z2L.ok k,trivial⟩
def z2o.cx:=co (rg 0 [ri [0,2] [2],rv [2] [2] [8]]) [] k
abbrev z2o.sg:Sg:=⟨[.dat J],[],.dat b7,[]⟩
def z2o.f (a0:DJ):=fo z2o.sg (z2o.cx k) Tryz.f42 a0
theorem z2o.f_eq (a0:DJ):z2o.f k a0=some (1,(((0,a0),(0,(a0,(false,((3,(((97::[])::[]),((0,(0,[])),(1,[]))))::[]))))),(0,(((0,0),0),(0,(([],([],[])),([],([],(((aV 16 0),[]),(((aV 16 0),[]),(aV 8 []))))))))))):=by kernel_rfl
def z2o.e:=Sg.entry z2o.sg fun x=>z2o.f k x
theorem z2o.ok:CallOK Tryz.prog 42 (z2o.e k):=GW (z2o.cx k) Tryz.func42 trivial
def z0u.cx:=co (rg 0 [⟨[0],[1000000,1000000],[],[],0,[],[],[],[],[],[],[1000000]⟩,⟨[2],[1000000],[],[],0,[],[],[],[],[],[(1000000,([.l],900000))],[1000000]⟩]) [] k
abbrev z0u.sg:Sg:=⟨[.ref],[aX],.dat .bool,[aX]⟩
def z0u.f (o0:Ty.D aX):=fo z0u.sg (z0u.cx k) Tryz.f48 o0
theorem z0u.f_eq (o0:Ty.D aX):z0u.f k o0=br (Cp o0.1) (some (false,((some (D4 bJ o0.1)),o0.2))) (some (true,(none,o0.2))):=by kernel_rfl
def z0u.e:=Sg.entry z0u.sg fun x=>z0u.f k x
theorem z0u.ok:CallOK Tryz.prog 48 (z0u.e k):=GW (z0u.cx k) Tryz.func48 trivial
def z2P.cx:=co (rg 0 [ri [1] [1],rq [2] [] 7]) [(104,ek)] k
abbrev z2P.sg:Sg:=⟨[.dat ah],[],.dat .str,[]⟩
def z2P.f (a0:Ty.D ah):=fo z2P.sg (z2P.cx k) Tryz.f106 a0
theorem z2P.f_eq (a0:Ty.D ah):z2P.f k a0=bnd (bK a0.1) fun r0=>bnd (bK a0.2) fun r1=>br (bz r0 r1) (some (app r0 r1)) none:=by kernel_rfl
def z2P.e:=Sg.entry z2P.sg fun x=>z2P.f k x
theorem z2P.ok:CallOK Tryz.prog 106 (z2P.e k):=GW (z2P.cx k) Tryz.func106 ⟨di,trivial⟩
def z2t.cx:=co (rg 0 [ri [0] [],ri [0,3] [8],ri [3,9,10,11] [8],rh [3,9,10,11,12] [8] [3,9,10,11] [8],ri [3,5,9,10,11] [8],ri [3,9,10,11] [8],ri [3,9,10,11] [8],ri [2] [8]]) [(104,ek),(78,z2z.e k)] k
abbrev z2t.sg:Sg:=⟨[.dat (.slc .str)],[],.dat .str,[]⟩
def z2t.f (a0:Ty.D (.slc .str)):=fo z2t.sg (z2t.cx k) Tryz.f220 a0
def z2t.l3 (n:Nat) (x3:Ty.D .str) (x9:Ty.D (.slc .str)) (x10 x11:DJ):=lo z2t.sg (z2t.cx k) Tryz.f220 [1,1,0,1,0] 3 [3,9,10,11] [8] [] n ⟨[(3,.dat .str x3),(9,.dat (.slc .str) x9),(10,.dat J x10),(11,.dat J x11)],[]⟩
theorem z2t.f_eq (a0:Ty.D (.slc .str)):z2t.f k a0=bnd (bK (af a0)) fun r0=>z2t.l3 k k r0 a0 (af a0) 0:=by kernel_rfl
theorem z2t.l3_eq (n3:Nat) (x3:Ty.D .str) (x9:Ty.D (.slc .str)) (x10 x11:DJ):z2t.l3 k (n3+1) x3 x9 x10 x11=br (aq x11 x10) (br (bO x11 x9) (bnd (z2z.f k (rd .str x9 (aj x11))) fun r0=>br (bz x3 r0) (z2t.l3 k n3 (app x3 r0) x9 x10 (aH .i64 x11 1)) none) none) (some x3):=by kernel_rfl
def z2t.e:=Sg.entry z2t.sg fun x=>z2t.f k x
theorem z2t.ok:CallOK Tryz.prog 220 (z2t.e k):=GW (z2t.cx k) Tryz.func220 ⟨di,z2z.ok k,trivial⟩
def z27.cx:=co (rg 0 [ri [0] [],ri [0,4] [],ri [2] [],ri [2] []]) [] k
abbrev z27.sg:Sg:=⟨[.dat J],[],.dat J,[]⟩
def z27.f (a0:DJ):=fo z27.sg (z27.cx k) Tryz.f221 a0
theorem z27.f_eq (a0:DJ):z27.f k a0=br (aq a0 0) (some (bw .i64 (gB .i64 (-2) a0) 1)) (some (gB .i64 2 a0)):=by kernel_rfl
def z27.e:=Sg.entry z27.sg fun x=>z27.f k x
theorem z27.ok:CallOK Tryz.prog 221 (z27.e k):=GW (z27.cx k) Tryz.func221 trivial
def z1O.cx:=co (rg 0 [ri [1] [1],ri [1,5] [1],rq [2] [] 7,rq [2] [] 8]) [(104,ek),(78,z2z.e k),(221,z27.e k)] k
abbrev z1O.sg:Sg:=⟨[.dat cC],[],.dat .str,[]⟩
def z1O.f (a0:Ty.D cC):=fo z1O.sg (z1O.cx k) Tryz.f222 a0
theorem z1O.f_eq (a0:Ty.D cC):z1O.f k a0=br (az a0.1 2) (bnd (bK a0.1) fun r0=>bnd (z2z.f k a0.2.2) fun r1=>br (bz r0 r1) (some (app r0 r1)) none) (bnd (bK a0.1) fun r2=>bnd (z27.f k a0.2.1) fun r3=>bnd (bK r3) fun r4=>br (bz r2 r4) (some (app r2 r4)) none):=by kernel_rfl
def z1O.e:=Sg.entry z1O.sg fun x=>z1O.f k x
theorem z1O.ok:CallOK Tryz.prog 222 (z1O.e k):=GW (z1O.cx k) Tryz.func222 ⟨di,z2z.ok k,z27.ok k,trivial⟩
def z3b.cx:=co (rg 0 [rv [1] [1] [0],ri [1,3] [1,8],ri [1,3,10] [1,8,10],ri [2] [8],ri [1,3] [1,8],ri [1,3,18] [1,8],ri [1,3,18,19] [1,8],ri [2] [8],ri [1,3,18,27] [1,8],ri [1,3,18,27] [1,8],ri [1,3,27] [1,8],ri [1,3] [1,8],ri [1,3,38] [1,8],ri [2] [8],ri [1,3] [1,8],ri [3,47,48,49] [8],rh [3,47,48,49,50] [8] [3,47,48,49] [8],ri [3,5,47,48,49] [5,8],rq [3,47,48,49] [8] 9,ri [3,47,48,49] [8],ri [2] [8]]) [(104,ek),(157,z35.e k),(220,z2t.e k),(221,z27.e k),(222,z1O.e k),(106,z2P.e k)] k
abbrev z3b.sg:Sg:=⟨[.dat eJ],[],.dat .str,[]⟩
def z3b.f (a0:Ty.D eJ):=fo z3b.sg (z3b.cx k) Tryz.f171 a0
def z3b.l16 (n:Nat) (x3:Ty.D .str) (x47:Ty.D (.slc ak)) (x48 x49:DJ):=lo z3b.sg (z3b.cx k) Tryz.f171 [1,1,1,1,1,1,1,0,1,0] 16 [3,47,48,49] [8] [] n ⟨[(3,.dat .str x3),(47,.dat (.slc ak) x47),(48,.dat J x48),(49,.dat J x49)],[]⟩
theorem z3b.f_eq (a0:Ty.D eJ):z3b.f k a0=bnd (bK a0.1) fun r0=>bnd (z35.f k a0) fun r1=>br r1 (some r0) (bnd (z2t.f k a0.2.1) fun r2=>br (bz r0 r2) (br (az a0.1 3) (bnd (z27.f k a0.2.2.2.1) fun r3=>bnd (bK r3) fun r4=>br (bz (app r0 r2) r4) (some (app (app r0 r2) r4)) none) (br (az a0.1 1) (br (az a0.1 1) (bnd (z1O.f k a0.2.2.1) fun r5=>br (bz (app r0 r2) r5) (br (az a0.1 2) (some (app (app r0 r2) r5)) (bnd (bK (af a0.2.2.2.2)) fun r6=>br (bz (app (app r0 r2) r5) r6) (z3b.l16 k k (app (app (app r0 r2) r5) r6) a0.2.2.2.2 (af a0.2.2.2.2) 0) none)) none) (br (az a0.1 2) (some (app r0 r2)) (bnd (bK (af a0.2.2.2.2)) fun r7=>br (bz (app r0 r2) r7) (z3b.l16 k k (app (app r0 r2) r7) a0.2.2.2.2 (af a0.2.2.2.2) 0) none))) (br (az a0.1 2) (br (az a0.1 2) (bnd (z1O.f k a0.2.2.1) fun r8=>br (bz (app r0 r2) r8) (br (az a0.1 2) (some (app (app r0 r2) r8)) (bnd (bK (af a0.2.2.2.2)) fun r9=>br (bz (app (app r0 r2) r8) r9) (z3b.l16 k k (app (app (app r0 r2) r8) r9) a0.2.2.2.2 (af a0.2.2.2.2) 0) none)) none) (br (az a0.1 2) (some (app r0 r2)) (bnd (bK (af a0.2.2.2.2)) fun r10=>br (bz (app r0 r2) r10) (z3b.l16 k k (app (app r0 r2) r10) a0.2.2.2.2 (af a0.2.2.2.2) 0) none))) (br (az a0.1 4) (bnd (z1O.f k a0.2.2.1) fun r11=>br (bz (app r0 r2) r11) (br (az a0.1 2) (some (app (app r0 r2) r11)) (bnd (bK (af a0.2.2.2.2)) fun r12=>br (bz (app (app r0 r2) r11) r12) (z3b.l16 k k (app (app (app r0 r2) r11) r12) a0.2.2.2.2 (af a0.2.2.2.2) 0) none)) none) (br (az a0.1 2) (some (app r0 r2)) (bnd (bK (af a0.2.2.2.2)) fun r13=>br (bz (app r0 r2) r13) (z3b.l16 k k (app (app r0 r2) r13) a0.2.2.2.2 (af a0.2.2.2.2) 0) none)))))) none):=by kernel_rfl
theorem z3b.l16_eq (n16:Nat) (x3:Ty.D .str) (x47:Ty.D (.slc ak)) (x48 x49:DJ):z3b.l16 k (n16+1) x3 x47 x48 x49=br (aq x49 x48) (br (bO x49 x47) (bnd (z2P.f k ((rd ak x47 (aj x49)).1)) fun r0=>bnd (bK ((rd ak x47 (aj x49)).2)) fun r1=>br (bz r0 r1) (br (bz x3 (app r0 r1)) (z3b.l16 k n16 (app x3 (app r0 r1)) x47 x48 (aH .i64 x49 1)) none) none) none) (some x3):=by kernel_rfl
def z3b.e:=Sg.entry z3b.sg fun x=>z3b.f k x
theorem z3b.ok:CallOK Tryz.prog 171 (z3b.e k):=GW (z3b.cx k) Tryz.func171 ⟨di,z35.ok k,z2t.ok k,z27.ok k,z1O.ok k,z2P.ok k,trivial⟩
def z31.cx:=co (rg 0 [rv [1] [1] [0],ri [1,3] [1],ri [1,3,8] [1],ri [1,3] [1],rq [1,4] [1] 19,ri [4,29,30,31] [],rh [4,29,30,31,32] [] [4,29,30,31] [],rv [4,6,29,30,31] [6] [3],ri [4,29,30,31] [],ri [4,29,30,31] [],ri [2] []]) [(106,z2P.e k),(104,ek),(171,z3b.e k)] k
abbrev z31.sg:Sg:=⟨[.dat aJ],[],.dat .str,[]⟩
def z31.f (a0:Ty.D aJ):=fo z31.sg (z31.cx k) Tryz.f105 a0
def z31.l6 (n:Nat) (x4:Ty.D .str) (x29:Ty.D (.slc eJ)) (x30 x31:DJ):=lo z31.sg (z31.cx k) Tryz.f105 [1,1,1,1,0,1,0] 6 [4,29,30,31] [] [] n ⟨[(4,.dat .str x4),(29,.dat (.slc eJ) x29),(30,.dat J x30),(31,.dat J x31)],[]⟩
theorem z31.f_eq (a0:Ty.D aJ):z31.f k a0=br a0.2.2.2.1 (bnd (z2P.f k a0.1) fun r0=>bnd (bK a0.2.1) fun r1=>br (bz r0 r1) (bnd (bK a0.2.2.1) fun r2=>br (bz (app r0 r1) r2) (bnd (bK 1) fun r3=>br (bz (app (app r0 r1) r2) r3) (bnd (bK (af a0.2.2.2.2)) fun r4=>br (bz (app (app (app r0 r1) r2) r3) r4) (z31.l6 k k (app (app (app (app r0 r1) r2) r3) r4) a0.2.2.2.2 (af a0.2.2.2.2) 0) none) none) none) none) (bnd (z2P.f k a0.1) fun r5=>bnd (bK a0.2.1) fun r6=>br (bz r5 r6) (bnd (bK a0.2.2.1) fun r7=>br (bz (app r5 r6) r7) (bnd (bK 0) fun r8=>br (bz (app (app r5 r6) r7) r8) (bnd (bK (af a0.2.2.2.2)) fun r9=>br (bz (app (app (app r5 r6) r7) r8) r9) (z31.l6 k k (app (app (app (app r5 r6) r7) r8) r9) a0.2.2.2.2 (af a0.2.2.2.2) 0) none) none) none) none):=by kernel_rfl
theorem z31.l6_eq (n6:Nat) (x4:Ty.D .str) (x29:Ty.D (.slc eJ)) (x30 x31:DJ):z31.l6 k (n6+1) x4 x29 x30 x31=br (aq x31 x30) (br (bO x31 x29) (bnd (z3b.f k (rd eJ x29 (aj x31))) fun r0=>br (bz x4 r0) (z31.l6 k n6 (app x4 r0) x29 x30 (aH .i64 x31 1)) none) none) (some x4):=by kernel_rfl
def z31.e:=Sg.entry z31.sg fun x=>z31.f k x
theorem z31.ok:CallOK Tryz.prog 105 (z31.e k):=GW (z31.cx k) Tryz.func105 ⟨z2P.ok k,di,z3b.ok k,trivial⟩
def z2X.cx:=co (rg 0 [ri [0] [],ri [0,3] [8],ri [3,9,10,11] [8],rh [3,9,10,11,12] [8] [3,9,10,11] [8],rv [3,5,9,10,11] [5,8] [3],ri [3,9,10,11] [8],ri [3,9,10,11] [8],ri [2] [8]]) [(104,ek),(105,z31.e k)] k
abbrev z2X.sg:Sg:=⟨[.dat (.slc aJ)],[],.dat .str,[]⟩
def z2X.f (a0:Ty.D (.slc aJ)):=fo z2X.sg (z2X.cx k) Tryz.f172 a0
def z2X.l3 (n:Nat) (x3:Ty.D .str) (x9:Ty.D (.slc aJ)) (x10 x11:DJ):=lo z2X.sg (z2X.cx k) Tryz.f172 [1,1,0,1,0] 3 [3,9,10,11] [8] [] n ⟨[(3,.dat .str x3),(9,.dat (.slc aJ) x9),(10,.dat J x10),(11,.dat J x11)],[]⟩
theorem z2X.f_eq (a0:Ty.D (.slc aJ)):z2X.f k a0=bnd (bK (af a0)) fun r0=>z2X.l3 k k r0 a0 (af a0) 0:=by kernel_rfl
theorem z2X.l3_eq (n3:Nat) (x3:Ty.D .str) (x9:Ty.D (.slc aJ)) (x10 x11:DJ):z2X.l3 k (n3+1) x3 x9 x10 x11=br (aq x11 x10) (br (bO x11 x9) (bnd (z31.f k (rd aJ x9 (aj x11))) fun r0=>br (bz x3 r0) (z2X.l3 k n3 (app x3 r0) x9 x10 (aH .i64 x11 1)) none) none) (some x3):=by kernel_rfl
def z2X.e:=Sg.entry z2X.sg fun x=>z2X.f k x
theorem z2X.ok:CallOK Tryz.prog 172 (z2X.e k):=GW (z2X.cx k) Tryz.func172 ⟨di,z31.ok k,trivial⟩
def z1S.cx:=co (rg 0 [ri [0] [],ri [0,3] [8],ri [3,9,10,11] [8],rh [3,9,10,11,12] [8] [3,9,10,11] [8],ri [3,5,9,10,11] [5,8],rq [3,9,10,11] [8] 9,ri [3,9,10,11] [8],ri [2] [8]]) [(104,ek),(106,z2P.e k)] k
abbrev z1S.sg:Sg:=⟨[.dat (.slc ak)],[],.dat .str,[]⟩
def z1S.f (a0:Ty.D (.slc ak)):=fo z1S.sg (z1S.cx k) Tryz.f173 a0
def z1S.l3 (n:Nat) (x3:Ty.D .str) (x9:Ty.D (.slc ak)) (x10 x11:DJ):=lo z1S.sg (z1S.cx k) Tryz.f173 [1,1,0,1,0] 3 [3,9,10,11] [8] [] n ⟨[(3,.dat .str x3),(9,.dat (.slc ak) x9),(10,.dat J x10),(11,.dat J x11)],[]⟩
theorem z1S.f_eq (a0:Ty.D (.slc ak)):z1S.f k a0=bnd (bK (af a0)) fun r0=>z1S.l3 k k r0 a0 (af a0) 0:=by kernel_rfl
theorem z1S.l3_eq (n3:Nat) (x3:Ty.D .str) (x9:Ty.D (.slc ak)) (x10 x11:DJ):z1S.l3 k (n3+1) x3 x9 x10 x11=br (aq x11 x10) (br (bO x11 x9) (bnd (z2P.f k ((rd ak x9 (aj x11)).1)) fun r0=>bnd (bK ((rd ak x9 (aj x11)).2)) fun r1=>br (bz r0 r1) (br (bz x3 (app r0 r1)) (z1S.l3 k n3 (app x3 (app r0 r1)) x9 x10 (aH .i64 x11 1)) none) none) none) (some x3):=by kernel_rfl
def z1S.e:=Sg.entry z1S.sg fun x=>z1S.f k x
theorem z1S.ok:CallOK Tryz.prog 173 (z1S.e k):=GW (z1S.cx k) Tryz.func173 ⟨di,z2P.ok k,trivial⟩
def z2g.cx:=co (rg 0 [ri [0] [],ri [0,3] [8],ri [3,9,10,11] [8],rh [3,9,10,11,12] [8] [3,9,10,11] [8],ri [3,5,9,10,11] [5,8],ri [3,9,10,11] [8],ri [3,9,10,11] [8],ri [2] [8]]) [(104,ek),(106,z2P.e k)] k
abbrev z2g.sg:Sg:=⟨[.dat (.slc ah)],[],.dat .str,[]⟩
def z2g.f (a0:Ty.D (.slc ah)):=fo z2g.sg (z2g.cx k) Tryz.f174 a0
def z2g.l3 (n:Nat) (x3:Ty.D .str) (x9:Ty.D (.slc ah)) (x10 x11:DJ):=lo z2g.sg (z2g.cx k) Tryz.f174 [1,1,0,1,0] 3 [3,9,10,11] [8] [] n ⟨[(3,.dat .str x3),(9,.dat (.slc ah) x9),(10,.dat J x10),(11,.dat J x11)],[]⟩
theorem z2g.f_eq (a0:Ty.D (.slc ah)):z2g.f k a0=bnd (bK (af a0)) fun r0=>z2g.l3 k k r0 a0 (af a0) 0:=by kernel_rfl
theorem z2g.l3_eq (n3:Nat) (x3:Ty.D .str) (x9:Ty.D (.slc ah)) (x10 x11:DJ):z2g.l3 k (n3+1) x3 x9 x10 x11=br (aq x11 x10) (br (bO x11 x9) (bnd (z2P.f k (rd ah x9 (aj x11))) fun r0=>br (bz x3 r0) (z2g.l3 k n3 (app x3 r0) x9 x10 (aH .i64 x11 1)) none) none) (some x3):=by kernel_rfl
def z2g.e:=Sg.entry z2g.sg fun x=>z2g.f k x
theorem z2g.ok:CallOK Tryz.prog 174 (z2g.e k):=GW (z2g.cx k) Tryz.func174 ⟨di,z2P.ok k,trivial⟩
def z10.cx:=co (rg 0 [rv [1] [1] [0],rq [2] [] 11]) [(172,z2X.e k),(173,z1S.e k),(174,z2g.e k)] k
abbrev z10.sg:Sg:=⟨[.dat bI],[],.dat .str,[]⟩
def z10.f (a0:Ty.D bI):=fo z10.sg (z10.cx k) Tryz.f107 a0
theorem z10.f_eq (a0:Ty.D bI):z10.f k a0=bnd (z2X.f k a0.1) fun r0=>bnd (z1S.f k a0.2.1) fun r1=>br (bz r0 r1) (bnd (z2g.f k a0.2.2) fun r2=>br (bz (app r0 r1) r2) (some (app (app r0 r1) r2)) none) none:=by kernel_rfl
def z10.e:=Sg.entry z10.sg fun x=>z10.f k x
theorem z10.ok:CallOK Tryz.prog 107 (z10.e k):=GW (z10.cx k) Tryz.func107 ⟨z2X.ok k,z1S.ok k,z2g.ok k,trivial⟩
def z2W.cx:=co (rg 0 [ri [1] [1],ri [1,3] [1],ri [3,6,7] [],rh [3,6,7,8] [] [3,6,7] [],ri [3,5,6,7] [],ri [3,6,7] [],ri [3,6,7] [],ri [2] []]) [(104,ek)] k
abbrev z2W.sg:Sg:=⟨[.dat bc],[],.dat .str,[]⟩
def z2W.f (a0:Ty.D bc):=fo z2W.sg (z2W.cx k) Tryz.f223 a0
def z2W.l3 (n:Nat) (x3:Ty.D .str) (x6:Ty.D bc) (x7:DJ):=lo z2W.sg (z2W.cx k) Tryz.f223 [1,1,0,1,0] 3 [3,6,7] [] [] n ⟨[(3,.dat .str x3),(6,.dat bc x6),(7,.dat J x7)],[]⟩
theorem z2W.f_eq (a0:Ty.D bc):z2W.f k a0=z2W.l3 k k [] a0 0:=by kernel_rfl
theorem z2W.l3_eq (n3:Nat) (x3:Ty.D .str) (x6:Ty.D bc) (x7:DJ):z2W.l3 k (n3+1) x3 x6 x7=br (aq x7 16) (br (gh x7 16) (bnd (bK (rd (.int .i64) x6 (aj x7))) fun r0=>br (bz x3 r0) (z2W.l3 k n3 (app x3 r0) x6 (aH .i64 x7 1)) none) none) (some x3):=by kernel_rfl
def z2W.e:=Sg.entry z2W.sg fun x=>z2W.f k x
theorem z2W.ok:CallOK Tryz.prog 223 (z2W.e k):=GW (z2W.cx k) Tryz.func223 ⟨di,trivial⟩
def z2v.cx:=co (rg 0 [rv [1] [1] [0],rq [2] [] 7]) [(223,z2W.e k),(174,z2g.e k)] k
abbrev z2v.sg:Sg:=⟨[.dat bp],[],.dat .str,[]⟩
def z2v.f (a0:Ty.D bp):=fo z2v.sg (z2v.cx k) Tryz.f175 a0
theorem z2v.f_eq (a0:Ty.D bp):z2v.f k a0=bnd (z2W.f k a0.1) fun r0=>bnd (z2g.f k a0.2) fun r1=>br (bz r0 r1) (some (app r0 r1)) none:=by kernel_rfl
def z2v.e:=Sg.entry z2v.sg fun x=>z2v.f k x
theorem z2v.ok:CallOK Tryz.prog 175 (z2v.e k):=GW (z2v.cx k) Tryz.func175 ⟨z2W.ok k,z2g.ok k,trivial⟩
def z29.cx:=co (rg 0 [rv [1] [1] [0],rq [1,3] [1] 11,ri [3,18,19] [],rh [3,18,19,20] [] [3,18,19] [],rv [3,5,18,19] [] [1],ri [3,18,19] [],ri [3,18,19] [],ri [2] []]) [(172,z2X.e k),(173,z1S.e k),(175,z2v.e k),(174,z2g.e k)] k
abbrev z29.sg:Sg:=⟨[.dat aI],[],.dat .str,[]⟩
def z29.f (a0:Ty.D aI):=fo z29.sg (z29.cx k) Tryz.f108 a0
def z29.l3 (n:Nat) (x3:Ty.D .str) (x18:Ty.D (.arr 8 (.slc ah))) (x19:DJ):=lo z29.sg (z29.cx k) Tryz.f108 [1,1,0,1,0] 3 [3,18,19] [] [] n ⟨[(3,.dat .str x3),(18,.dat (.arr 8 (.slc ah)) x18),(19,.dat J x19)],[]⟩
theorem z29.f_eq (a0:Ty.D aI):z29.f k a0=bnd (z2X.f k a0.1) fun r0=>bnd (z1S.f k a0.2.1) fun r1=>br (bz r0 r1) (bnd (z2v.f k a0.2.2.2.1) fun r2=>br (bz (app r0 r1) r2) (z29.l3 k k (app (app r0 r1) r2) a0.2.2.2.2 0) none) none:=by kernel_rfl
theorem z29.l3_eq (n3:Nat) (x3:Ty.D .str) (x18:Ty.D (.arr 8 (.slc ah))) (x19:DJ):z29.l3 k (n3+1) x3 x18 x19=br (aq x19 8) (br (gh x19 8) (bnd (z2g.f k (rd (.slc ah) x18 (aj x19))) fun r0=>br (bz x3 r0) (z29.l3 k n3 (app x3 r0) x18 (aH .i64 x19 1)) none) none) (some x3):=by kernel_rfl
def z29.e:=Sg.entry z29.sg fun x=>z29.f k x
theorem z29.ok:CallOK Tryz.prog 108 (z29.e k):=GW (z29.cx k) Tryz.func108 ⟨z2X.ok k,z1S.ok k,z2v.ok k,z2g.ok k,trivial⟩
def z16.cx:=co (rg 0 [rv [1] [1] [0],ri [1,3] [1,6],ri [1,3,8] [1,6],ri [1,3,8,9] [1,6],ri [2] [],ri [1,3,8,16] [1,6],rq [2] [] 19,ri [1,3,37] [1,6],ri [2] [],ri [2] []]) [(104,ek),(105,z31.e k),(106,z2P.e k),(107,z10.e k),(108,z29.e k)] k
abbrev z16.sg:Sg:=⟨[.dat b7],[],.dat .str,[]⟩
def z16.f (a0:Ty.D b7):=fo z16.sg (z16.cx k) Tryz.f50 a0
theorem z16.f_eq (a0:Ty.D b7):z16.f k a0=bnd (bK a0.1) fun r0=>br (az a0.1 1) (bnd (z31.f k a0.2.1) fun r1=>br (bz r0 r1) (some (app r0 r1)) none) (br (az a0.1 2) (bnd (bK a0.2.2.1) fun r2=>br (bz r0 r2) (bnd (z2P.f k a0.2.2.2.1.1) fun r3=>br (bz (app r0 r2) r3) (bnd (bK a0.2.2.2.1.2) fun r4=>br (bz (app (app r0 r2) r3) r4) (bnd (bK a0.2.2.2.2.1) fun r5=>br (bz (app (app (app r0 r2) r3) r4) r5) (some (app (app (app (app r0 r2) r3) r4) r5)) none) none) none) none) (br (az a0.1 3) (bnd (z10.f k a0.2.2.2.2.2.1) fun r6=>br (bz r0 r6) (some (app r0 r6)) none) (bnd (z29.f k a0.2.2.2.2.2.2) fun r7=>br (bz r0 r7) (some (app r0 r7)) none))):=by kernel_rfl
def z16.e:=Sg.entry z16.sg fun x=>z16.f k x
theorem z16.ok:CallOK Tryz.prog 50 (z16.e k):=GW (z16.cx k) Tryz.func50 ⟨di,z31.ok k,z2P.ok k,z10.ok k,z29.ok k,trivial⟩
def z0w.cx:=co (rg 0 [ri [0,1] [1000000,1000000],ri [0,1,5] [1000000,1000000],ri [4] [1000000],rq [0,1,8] [1000000,1000000] 16,ri [4] [1000000],ri [] [1000000],ri [4] [1000000]]) [] k
abbrev z0w.sg:Sg:=⟨[.ref,.dat .str],[bJ],.dat J,[bJ]⟩
def z0w.f (a1:Ty.D .str) (o0:Ty.D bJ):=fo z0w.sg (z0w.cx k) Tryz.f51 (a1,o0)
theorem z0w.f_eq (a1:Ty.D .str) (o0:Ty.D bJ):z0w.f k a1 o0=br (aq (bw .i64 (bw .i64 4194304 (af o0.1)) (af o0.2.1)) (af a1)) (some (7,o0)) (br (bz o0.2.1 a1) (some (0,(o0.1,((app o0.2.1 a1),o0.2.2)))) none):=by kernel_rfl
def z0w.e:=Sg.entry z0w.sg fun x=>z0w.f k x.1 x.2
theorem z0w.ok:CallOK Tryz.prog 51 (z0w.e k):=GW (z0w.cx k) Tryz.func51 trivial
def z0k.cx:=co (rg 0 [⟨[0,3],[3,1000000,1000000],[0],[],0,[],[],[],[],[],[],[1000000]⟩,⟨[0,3,7],[3,9,1000000,1000000],[],[],0,[],[],[],[],[],[],[1000000]⟩,⟨[4],[25,1000000],[],[],0,[],[],[],[],[],[],[1000000]⟩,⟨[0,3,10],[3,1000000,1000000],[],[],0,[],[],[],[],[],[],[1000000]⟩,⟨[4],[25,1000000],[],[],0,[],[],[],[],[],[],[1000000]⟩,⟨[0,5],[15,1000000,1000000],[],[],0,[],[],[],[],[],[],[1000000]⟩,⟨[0,5,18],[15,1000000,1000000],[],[],0,[],[],[],[],[],[],[1000000]⟩,⟨[4],[25,1000000],[],[],0,[],[],[],[],[],[],[1000000]⟩,⟨[0,6],[25,1000000,1000000],[],[],7,[],[],[],[[],[],[],[],[],[],[3],[6,3]],[],[(1000000,([.l],900000))],[1000000]⟩,⟨[0,6,27],[25,1000000,1000000],[],[],0,[],[],[],[],[],[],[1000000]⟩,⟨[4],[25,1000000],[],[],0,[],[],[],[],[],[],[1000000]⟩,⟨[],[1000000],[],[],0,[],[],[],[],[],[],[1000000]⟩,⟨[4],[25,1000000],[],[],0,[],[],[],[],[],[],[1000000]⟩]) [(48,z0u.e k),(49,z0U.e k),(50,z16.e k),(28,z2Y.e k),(51,z0w.e k)] k
abbrev z0k.sg:Sg:=⟨[.ref,.dat b7],[aX],.dat J,[aX]⟩
def z0k.f (a1:Ty.D b7) (o0:Ty.D aX):=fo z0k.sg (z0k.cx k) Tryz.f16 (a1,o0)
theorem z0k.f_eq (a1:Ty.D b7) (o0:Ty.D aX):z0k.f k a1 o0=bnd (z0u.f k o0) fun r0=>br r0.1 (some (1,(r0.2.1,r0.2.2))) (bnd (z0U.f k a1) fun r1=>br (ai r1) (some (2,(r0.2.1,r0.2.2))) (bnd (z16.f k a1) fun r2=>br (aq 1048576 (af r2)) (some (6,(r0.2.1,r0.2.2))) (br (Cp r0.2.1) (bnd (z2Y.f k r2) fun r3=>bnd (z0w.f k r3 (D4 bJ r0.2.1)) fun r4=>br (ai (az r4.1 0)) (some (r4.1,((some r4.2),r0.2.2))) (some (0,((some r4.2),(aH .i64 r0.2.2 1))))) (bnd (z2Y.f k r2) fun r5=>none)))):=by kernel_rfl
def z0k.e:=Sg.entry z0k.sg fun x=>z0k.f k x.1 x.2
theorem z0k.ok:CallOK Tryz.prog 16 (z0k.e k):=GW (z0k.cx k) Tryz.func16 ⟨z0u.ok k,z0U.ok k,z16.ok k,z2Y.ok k,z0w.ok k,trivial⟩
def z0L.cx:=co (rg 0 [ri [0,3] [1000000,1000000],⟨[0],[1000000,1000000],[],[],17,[],[],[],[[],[],[],[],[],[],[],[],[],[],[5,9],[5,9],[5,9],[5,9],[5,9,13],[5,9,13],[5,9,13]],[],[],[]⟩,ri [] [1000000]]) [] k
abbrev z0L.sg:Sg:=⟨[.ref],[bJ],.unit,[bJ]⟩
def z0L.f (o0:Ty.D bJ):=fo z0L.sg (z0L.cx k) Tryz.f56 o0
theorem z0L.f_eq (o0:Ty.D bJ):z0L.f k o0=br (bz o0.1 o0.2.1) (some ((),((app o0.1 o0.2.1),([],(aH .i64 o0.2.2 1))))) none:=by kernel_rfl
def z0L.e:=Sg.entry z0L.sg fun x=>z0L.f k x
theorem z0L.ok:CallOK Tryz.prog 56 (z0L.e k):=GW (z0L.cx k) Tryz.func56 trivial
def z0x.cx:=co (rg 0 [⟨[0,4],[1000000,1000000],[],[],0,[],[],[],[],[],[],[1000000]⟩,⟨[],[1000000],[],[],0,[],[],[],[],[],[(1000000,([.l],900000))],[1000000]⟩]) [(48,z0u.e k),(56,z0L.e k)] k
abbrev z0x.sg:Sg:=⟨[.ref],[aX],.unit,[aX]⟩
def z0x.f (o0:Ty.D aX):=fo z0x.sg (z0x.cx k) Tryz.f21 o0
theorem z0x.f_eq (o0:Ty.D aX):z0x.f k o0=bnd (z0u.f k o0) fun r0=>br (ai r0.1) (br (Cp r0.2.1) (bnd (z0L.f k (D4 bJ r0.2.1)) fun r1=>some ((),((some r1.2),r0.2.2))) none) (some ((),(r0.2.1,r0.2.2))):=by kernel_rfl
def z0x.e:=Sg.entry z0x.sg fun x=>z0x.f k x
theorem z0x.ok:CallOK Tryz.prog 21 (z0x.e k):=GW (z0x.cx k) Tryz.func21 ⟨z0u.ok k,z0L.ok k,trivial⟩
def z0C.cx:=co (rg 0 [ri [0] [1000000,1000000],ri [0,4] [1000000,1000000],ri [2] [1000000],ri [2] [1000000]]) [] k
abbrev z0C.sg:Sg:=⟨[.ref],[bJ],.dat .str,[bJ]⟩
def z0C.f (o0:Ty.D bJ):=fo z0C.sg (z0C.cx k) Tryz.f67 o0
theorem z0C.f_eq (o0:Ty.D bJ):z0C.f k o0=some (o0.2.1,o0):=by kernel_rfl
def z0C.e:=Sg.entry z0C.sg fun x=>z0C.f k x
theorem z0C.ok:CallOK Tryz.prog 67 (z0C.e k):=GW (z0C.cx k) Tryz.func67 trivial
def z0l.cx:=co (rg 0 [⟨[0],[1000000,1000000],[],[],0,[],[],[],[],[],[],[1000000]⟩,⟨[0,4],[4,1000000,1000000],[],[],0,[],[],[],[],[],[],[1000000]⟩,⟨[2],[1000000],[],[],0,[],[],[],[],[],[],[1000000]⟩,⟨[2],[1000000],[],[],0,[],[],[],[],[],[(1000000,([.l],900000))],[1000000]⟩]) [(48,z0u.e k),(67,z0C.e k)] k
abbrev z0l.sg:Sg:=⟨[.ref],[aX],.dat J,[aX]⟩
def z0l.f (o0:Ty.D aX):=fo z0l.sg (z0l.cx k) Tryz.f25 o0
theorem z0l.f_eq (o0:Ty.D aX):z0l.f k o0=bnd (z0u.f k o0) fun r0=>br r0.1 (some (0,(r0.2.1,r0.2.2))) (br (Cp r0.2.1) (bnd (z0C.f k (D4 bJ r0.2.1)) fun r1=>some ((af r1.1),((some r1.2),r0.2.2))) none):=by kernel_rfl
def z0l.e:=Sg.entry z0l.sg fun x=>z0l.f k x
theorem z0l.ok:CallOK Tryz.prog 25 (z0l.e k):=GW (z0l.cx k) Tryz.func25 ⟨z0u.ok k,z0C.ok k,trivial⟩
def z0E.cx:=co (rg 0 [ri [0,1,5] [1000000,1000000],ri [0,1] [1000000,1000000],⟨[],[1000000],[],[],19,[],[],[],[[],[],[],[],[],[],[],[],[],[],[],[9],[5,9],[5,9],[5,9],[5,9],[5,9,15],[5,9,15],[5,9,15]],[],[],[]⟩]) [] k
abbrev z0E.sg:Sg:=⟨[.ref,.dat J],[bJ],.unit,[bJ]⟩
def z0E.f (a1:DJ) (o0:Ty.D bJ):=fo z0E.sg (z0E.cx k) Tryz.f53 (a1,o0)
theorem z0E.f_eq (a1:DJ) (o0:Ty.D bJ):z0E.f k a1 o0=br (eE 0 (nI (jk a1 0) (af o0.2.1)) (af o0.2.1)) (br (bz o0.1 (ba o0.2.1 0 (nI (jk a1 0) (af o0.2.1)))) (some ((),((app o0.1 (ba o0.2.1 0 (nI (jk a1 0) (af o0.2.1)))),([],o0.2.2)))) none) none:=by kernel_rfl
def z0E.e:=Sg.entry z0E.sg fun x=>z0E.f k x.1 x.2
theorem z0E.ok:CallOK Tryz.prog 53 (z0E.e k):=GW (z0E.cx k) Tryz.func53 trivial
def z0o.cx:=co (rg 0 [⟨[0,1,6],[1000000,1000000],[],[],0,[],[],[],[],[],[],[1000000]⟩,⟨[],[1000000],[],[],0,[],[],[],[],[],[(1000000,([.l],900000))],[1000000]⟩]) [(48,z0u.e k),(53,z0E.e k)] k
abbrev z0o.sg:Sg:=⟨[.ref,.dat J],[aX],.unit,[aX]⟩
def z0o.f (a1:DJ) (o0:Ty.D aX):=fo z0o.sg (z0o.cx k) Tryz.f18 (a1,o0)
theorem z0o.f_eq (a1:DJ) (o0:Ty.D aX):z0o.f k a1 o0=bnd (z0u.f k o0) fun r0=>br (ai r0.1) (br (Cp r0.2.1) (bnd (z0E.f k a1 (D4 bJ r0.2.1)) fun r1=>some ((),((some r1.2),r0.2.2))) none) (some ((),(r0.2.1,r0.2.2))):=by kernel_rfl
def z0o.e:=Sg.entry z0o.sg fun x=>z0o.f k x.1 x.2
theorem z0o.ok:CallOK Tryz.prog 18 (z0o.e k):=GW (z0o.cx k) Tryz.func18 ⟨z0u.ok k,z0E.ok k,trivial⟩
def z0K.cx:=co (rg 0 [ri [0] [1000000,1000000],ri [0,4] [1000000,1000000],ri [2] [1000000],ri [2] [1000000]]) [] k
abbrev z0K.sg:Sg:=⟨[.ref],[bJ],.dat .str,[bJ]⟩
def z0K.f (o0:Ty.D bJ):=fo z0K.sg (z0K.cx k) Tryz.f54 o0
theorem z0K.f_eq (o0:Ty.D bJ):z0K.f k o0=some (o0.1,o0):=by kernel_rfl
def z0K.e:=Sg.entry z0K.sg fun x=>z0K.f k x
theorem z0K.ok:CallOK Tryz.prog 54 (z0K.e k):=GW (z0K.cx k) Tryz.func54 trivial
def z0R.cx:=co (rg 0 [ri [0,1,18] [1000000,1000000],ri [] [1000000]]) [] k
abbrev z0R.sg:Sg:=⟨[.ref,.dat J],[bJ],.unit,[bJ]⟩
def z0R.f (a1:DJ) (o0:Ty.D bJ):=fo z0R.sg (z0R.cx k) Tryz.f55 (a1,o0)
theorem z0R.f_eq (a1:DJ) (o0:Ty.D bJ):z0R.f k a1 o0=br (bM 0 a1) (br (aq a1 (af o0.1)) (br (eE 0 a1 (af o0.1)) (some ((),((ba o0.1 0 a1),o0.2))) none) (some ((),o0))) (some ((),o0)):=by kernel_rfl
def z0R.e:=Sg.entry z0R.sg fun x=>z0R.f k x.1 x.2
theorem z0R.ok:CallOK Tryz.prog 55 (z0R.e k):=GW (z0R.cx k) Tryz.func55 trivial
def z0h.cx:=co (rg 0 [⟨[0,2],[2,1000000,1000000],[],[],0,[],[],[],[],[],[],[1000000]⟩,⟨[0,2,7],[2,7,1000000,1000000],[],[],0,[],[],[],[],[],[],[1000000]⟩,⟨[2],[2,1000000],[1],[],0,[],[],[],[],[],[],[1000000]⟩,⟨[0,2,3,4,5],[2,3,15,1000000,1000000],[11],[],0,[],[],[],[],[],[(1000000,([.l],900000))],[1000000]⟩,⟨[0,2,3,4,5],[2,3,15,1000000,1000000],[],[],0,[],[],[],[],[],[(1000000,([.l],900000))],[1000000]⟩,⟨[0,2,3,4],[2,3,15,1000000,1000000],[],[],0,[],[],[],[],[],[(1000000,([.l],900000))],[1000000]⟩,⟨[2,3],[2,3,1000000],[],[],0,[],[],[],[],[],[],[1000000]⟩,⟨[2],[2,1000000],[1],[],0,[],[],[],[],[],[],[1000000]⟩]) [(48,z0u.e k),(54,z0K.e k),(7,z0J.e k),(53,z0E.e k),(55,z0R.e k)] k
abbrev z0h.sg:Sg:=⟨[.ref],[aX],.dat aI,[aX]⟩
def z0h.f (o0:Ty.D aX):=fo z0h.sg (z0h.cx k) Tryz.f19 o0
theorem z0h.f_eq (o0:Ty.D aX):z0h.f k o0=bnd (z0u.f k o0) fun r0=>br r0.1 (some (([],([],(((aV 16 0),[]),(((aV 16 0),[]),(aV 8 []))))),(r0.2.1,r0.2.2))) (br (Cp r0.2.1) (bnd (z0K.f k (D4 bJ r0.2.1)) fun r1=>bnd (z0J.f k r1.1) fun r2=>bnd (z0E.f k 0 r1.2) fun r3=>bnd (z0R.f k r2.2.2 r3.2) fun r4=>some (r2.1,((some r4.2),r2.2.1))) none):=by kernel_rfl
def z0h.e:=Sg.entry z0h.sg fun x=>z0h.f k x
theorem z0h.ok:CallOK Tryz.prog 19 (z0h.e k):=GW (z0h.cx k) Tryz.func19 ⟨z0u.ok k,z0K.ok k,z0J.ok k,z0E.ok k,z0R.ok k,trivial⟩
def z0g.cx:=co (rg 0 [⟨[0],[1000000,1000000],[],[],0,[],[],[],[],[],[],[1000000]⟩,⟨[0,4],[4,1000000,1000000],[],[],0,[],[],[],[],[],[],[1000000]⟩,⟨[2],[1000000],[],[],0,[],[],[],[],[],[],[1000000]⟩,⟨[2],[1000000],[],[],0,[],[],[],[],[],[],[1000000]⟩]) [(48,z0u.e k)] k
abbrev z0g.sg:Sg:=⟨[.ref],[aX],.dat J,[aX]⟩
def z0g.f (o0:Ty.D aX):=fo z0g.sg (z0g.cx k) Tryz.f20 o0
theorem z0g.f_eq (o0:Ty.D aX):z0g.f k o0=bnd (z0u.f k o0) fun r0=>br r0.1 (some (0,(r0.2.1,r0.2.2))) (some (r0.2.2,(r0.2.1,r0.2.2))):=by kernel_rfl
def z0g.e:=Sg.entry z0g.sg fun x=>z0g.f k x
theorem z0g.ok:CallOK Tryz.prog 20 (z0g.e k):=GW (z0g.cx k) Tryz.func20 ⟨z0u.ok k,trivial⟩
def z1i.cx:=co (rg 0 [⟨[],[],[],[],0,[],[],[],[],[],[],[6]⟩,⟨[1],[6],[],[],0,[],[],[],[],[],[],[6]⟩,⟨[1,2],[6,9],[],[],0,[],[],[],[],[],[],[6]⟩,⟨[1,2],[6,9],[],[],0,[],[],[],[],[],[],[6]⟩,⟨[1,2,3],[6,9,14],[],[],0,[],[],[],[],[],[],[6]⟩,⟨[1,2,3,4],[6,9,14,16],[],[],0,[],[],[],[],[],[],[6]⟩,⟨[1,2,3,4],[6,9,14,16],[],[],0,[],[],[],[],[],[],[6]⟩,⟨[1,2,3,4,5],[5,6,9,14,16],[3],[],0,[],[],[],[],[],[],[6]⟩,⟨[0],[],[],[],0,[],[],[],[],[],[],[6]⟩]) [(15,z1b.e k),(42,z2o.e k),(16,z0k.e k),(21,z0x.e k),(25,z0l.e k),(18,z0o.e k),(19,z0h.e k),(20,z0g.e k)] k
abbrev z1i.sg:Sg:=⟨[],[],.dat .bool,[]⟩
def z1i.f:=fo z1i.sg (z1i.cx k) Tryz.f11 ()
theorem z1i.f_eq:z1i.f k=bnd (z1b.f k) fun r0=>bnd (z2o.f k 1) fun r1=>bnd (z0k.f k r1 r0.2) fun r2=>bnd (z0x.f k r2.2) fun r3=>bnd (z2o.f k 2) fun r4=>bnd (z0k.f k r4 r3.2) fun r5=>bnd (z0l.f k r5.2) fun r6=>bnd (z0o.f k (bw .i64 r6.1 1) r6.2) fun r7=>bnd (z0h.f k r7.2) fun r8=>br (az r2.1 0) (br (az r5.1 0) (br (aq 10 r6.1) (br (az (af r8.1.1) 1) (bnd (z0g.f k r8.2) fun r9=>some (az r9.1 1)) (some false)) (some false)) (some false)) (some false):=by kernel_rfl
def z1i.e:=Sg.entry z1i.sg fun x=>z1i.f k
theorem z1i.ok:CallOK Tryz.prog 11 (z1i.e k):=GW (z1i.cx k) Tryz.func11 ⟨z1b.ok k,z2o.ok k,z0k.ok k,z0x.ok k,z0l.ok k,z0o.ok k,z0h.ok k,z0g.ok k,trivial⟩
@[reducible] def law25_JournalReplays.sg:Sg:=⟨[.dat .str],[],.dat .bool,[]⟩
def z1h.cx:=co (rg 0 [ri [0] [],ri [0,6] [],ri [2] [],ri [0,3] [],rh [0,3,10] [] [0,3] [],ri [0,3] [],ri [0,3,18] [],ri [2] [],ri [2] []]) [] k
abbrev z1h.sg:Sg:=⟨[.dat (.slc .str)],[],.dat .bool,[]⟩
def z1h.f (a0:Ty.D (.slc .str)):=fo z1h.sg (z1h.cx k) Tryz.f156 a0
def z1h.l4 (n:Nat) (x0:Ty.D (.slc .str)) (x3:DJ):=lo z1h.sg (z1h.cx k) Tryz.f156 [1,1,0,1,0] 4 [0,3] [] [] n ⟨[(0,.dat (.slc .str) x0),(3,.dat J x3)],[]⟩
theorem z1h.f_eq (a0:Ty.D (.slc .str)):z1h.f k a0=br (aq 12 (af a0)) (some false) (z1h.l4 k k a0 0):=by kernel_rfl
theorem z1h.l4_eq (n4:Nat) (x0:Ty.D (.slc .str)) (x3:DJ):z1h.l4 k (n4+1) x0 x3=br (aq x3 (af x0)) (br (bO x3 x0) (br (aq 120 (af (rd .str x0 (aj x3)))) (some false) (z1h.l4 k n4 x0 (aH .i64 x3 1))) none) (some true):=by kernel_rfl
def z1h.e:=Sg.entry z1h.sg fun x=>z1h.f k x
theorem z1h.ok:CallOK Tryz.prog 156 (z1h.e k):=GW (z1h.cx k) Tryz.func156 trivial
def z1g.cx:=co (rg 0 [rv [1] [1] [0],ri [2] [5]]) [(156,z1h.e k)] k
abbrev z1g.sg:Sg:=⟨[.dat eJ],[],.dat .bool,[]⟩
def z1g.f (a0:Ty.D eJ):=fo z1g.sg (z1g.cx k) Tryz.f98 a0
theorem z1g.f_eq (a0:Ty.D eJ):z1g.f k a0=bnd (z1h.f k a0.2.1) fun r0=>br r0 (br (bM (af a0.2.2.1.2.2) 200) (some (bM (af a0.2.2.2.2) 300)) (some false)) (some false):=by kernel_rfl
def z1g.e:=Sg.entry z1g.sg fun x=>z1g.f k x
theorem z1g.ok:CallOK Tryz.prog 98 (z1g.e k):=GW (z1g.cx k) Tryz.func98 ⟨z1h.ok k,trivial⟩
def z1q.cx:=co (rg 0 [rv [1] [1] [0],ri [1,7] [1],ri [2] [],ri [1,3] [1],rh [1,3,12] [1] [1,3] [1],ri [1,3] [1],ri [1,3,21] [1],ri [2] [],ri [2] []]) [(98,z1g.e k)] k
abbrev z1q.sg:Sg:=⟨[.dat aJ],[],.dat .bool,[]⟩
def z1q.f (a0:Ty.D aJ):=fo z1q.sg (z1q.cx k) Tryz.f44 a0
def z1q.l4 (n:Nat) (x3:DJ) (m1:Ty.D aJ):=lo z1q.sg (z1q.cx k) Tryz.f44 [1,1,0,1,0] 4 [1,3] [1] [] n ⟨[(1,.ref 1 []),(3,.dat J x3)],[(1,.dat aJ m1)]⟩
theorem z1q.f_eq (a0:Ty.D aJ):z1q.f k a0=br (aq 20 (af a0.2.2.2.2)) (some false) (z1q.l4 k k 0 a0):=by kernel_rfl
theorem z1q.l4_eq (n4:Nat) (x3:DJ) (m1:Ty.D aJ):z1q.l4 k (n4+1) x3 m1=br (aq x3 (af m1.2.2.2.2)) (br (bO x3 m1.2.2.2.2) (bnd (z1g.f k (rd eJ m1.2.2.2.2 (aj x3))) fun r0=>br (ai r0) (some false) (z1q.l4 k n4 (aH .i64 x3 1) m1)) none) (some true):=by kernel_rfl
def z1q.e:=Sg.entry z1q.sg fun x=>z1q.f k x
theorem z1q.ok:CallOK Tryz.prog 44 (z1q.e k):=GW (z1q.cx k) Tryz.func44 ⟨z1g.ok k,trivial⟩
def z1m.cx:=co (rg 0 [rv [1] [1] [0],ri [1,28] [1],ri [2] [],ri [1,3] [1],rh [1,3,33] [1] [1,3] [1],ri [1,3] [1],ri [1,3,42] [1],ri [2] [],ri [1,4] [1],rh [1,4,44] [1] [1,4] [1],ri [1,4] [1],ri [1,4,52] [1],ri [2] [],ri [2] []]) [(44,z1q.e k)] k
abbrev z1m.sg:Sg:=⟨[.dat aI],[],.dat .bool,[]⟩
def z1m.f (a0:Ty.D aI):=fo z1m.sg (z1m.cx k) Tryz.f43 a0
def z1m.l4 (n:Nat) (x3:DJ) (m1:Ty.D aI):=lo z1m.sg (z1m.cx k) Tryz.f43 [1,1,0,1,0] 4 [1,3] [1] [] n ⟨[(1,.ref 1 []),(3,.dat J x3)],[(1,.dat aI m1)]⟩
def z1m.l9 (n:Nat) (x4:DJ) (m1:Ty.D aI):=lo z1m.sg (z1m.cx k) Tryz.f43 [1,1,1,0,1,0] 9 [1,4] [1] [] n ⟨[(1,.ref 1 []),(4,.dat J x4)],[(1,.dat aI m1)]⟩
theorem z1m.f_eq (a0:Ty.D aI):z1m.f k a0=br (aq 20 (af a0.1)) (some false) (br (aq 100 (af a0.2.1)) (some false) (br (aq 100 (af a0.2.2.1.2)) (some false) (br (aq 100 (af a0.2.2.2.1.2)) (some false) (z1m.l4 k k 0 a0)))):=by kernel_rfl
theorem z1m.l4_eq (n4:Nat) (x3:DJ) (m1:Ty.D aI):z1m.l4 k (n4+1) x3 m1=br (aq x3 (af m1.1)) (br (bO x3 m1.1) (bnd (z1q.f k (rd aJ m1.1 (aj x3))) fun r0=>br (ai r0) (some false) (z1m.l4 k n4 (aH .i64 x3 1) m1)) none) (z1m.l9 k k 0 m1):=by kernel_rfl
theorem z1m.l9_eq (n9:Nat) (x4:DJ) (m1:Ty.D aI):z1m.l9 k (n9+1) x4 m1=br (aq x4 8) (br (gh x4 8) (br (aq 40 (af (rd (.slc ah) m1.2.2.2.2 (aj x4)))) (some false) (z1m.l9 k n9 (aH .i64 x4 1) m1)) none) (some true):=by kernel_rfl
def z1m.e:=Sg.entry z1m.sg fun x=>z1m.f k x
theorem z1m.ok:CallOK Tryz.prog 43 (z1m.e k):=GW (z1m.cx k) Tryz.func43 ⟨z1q.ok k,trivial⟩
def z24.cx:=co (rg 0 [rv [1] [1] [0],ri [2] [4,7]]) [(43,z1m.e k),(10,z1o.e k)] k
abbrev z24.sg:Sg:=⟨[.dat aI],[],.dat .bool,[]⟩
def z24.f (a0:Ty.D aI):=fo z24.sg (z24.cx k) Tryz.f12 a0
theorem z24.f_eq (a0:Ty.D aI):z24.f k a0=bnd (z1m.f k a0) fun r0=>br r0 (bnd (z1o.f k a0) fun r1=>some r1) (some false):=by kernel_rfl
def z24.e:=Sg.entry z24.sg fun x=>z24.f k x
theorem z24.ok:CallOK Tryz.prog 12 (z24.e k):=GW (z24.cx k) Tryz.func12 ⟨z1m.ok k,z1o.ok k,trivial⟩
def z0A.cx:=co (rg 0 [rv [1] [1] [0],ri [1,19] [1],ri [2] [],ri [1,3] [1],rh [1,3,24] [1] [1,3] [1],ri [1,3] [1],ri [1,3,33] [1],ri [2] [],ri [2] []]) [(44,z1q.e k)] k
abbrev z0A.sg:Sg:=⟨[.dat bI],[],.dat .bool,[]⟩
def z0A.f (a0:Ty.D bI):=fo z0A.sg (z0A.cx k) Tryz.f45 a0
def z0A.l4 (n:Nat) (x3:DJ) (m1:Ty.D bI):=lo z0A.sg (z0A.cx k) Tryz.f45 [1,1,0,1,0] 4 [1,3] [1] [] n ⟨[(1,.ref 1 []),(3,.dat J x3)],[(1,.dat bI m1)]⟩
theorem z0A.f_eq (a0:Ty.D bI):z0A.f k a0=br (aq 20 (af a0.1)) (some false) (br (aq 100 (af a0.2.1)) (some false) (br (aq 100 (af a0.2.2)) (some false) (z0A.l4 k k 0 a0))):=by kernel_rfl
theorem z0A.l4_eq (n4:Nat) (x3:DJ) (m1:Ty.D bI):z0A.l4 k (n4+1) x3 m1=br (aq x3 (af m1.1)) (br (bO x3 m1.1) (bnd (z1q.f k (rd aJ m1.1 (aj x3))) fun r0=>br (ai r0) (some false) (z0A.l4 k n4 (aH .i64 x3 1) m1)) none) (some true):=by kernel_rfl
def z0A.e:=Sg.entry z0A.sg fun x=>z0A.f k x
theorem z0A.ok:CallOK Tryz.prog 45 (z0A.e k):=GW (z0A.cx k) Tryz.func45 ⟨z1q.ok k,trivial⟩
def z1n.cx:=co (rg 0 [rv [1] [1] [0],ri [2] [5,9,14]]) [(44,z1q.e k),(45,z0A.e k),(43,z1m.e k)] k
abbrev z1n.sg:Sg:=⟨[.dat b7],[],.dat .bool,[]⟩
def z1n.f (a0:Ty.D b7):=fo z1n.sg (z1n.cx k) Tryz.f13 a0
theorem z1n.f_eq (a0:Ty.D b7):z1n.f k a0=bnd (z1q.f k a0.2.1) fun r0=>br r0 (bnd (z0A.f k a0.2.2.2.2.2.1) fun r1=>br r1 (bnd (z1m.f k a0.2.2.2.2.2.2) fun r2=>some r2) (some false)) (some false):=by kernel_rfl
def z1n.e:=Sg.entry z1n.sg fun x=>z1n.f k x
theorem z1n.ok:CallOK Tryz.prog 13 (z1n.e k):=GW (z1n.cx k) Tryz.func13 ⟨z1q.ok k,z0A.ok k,z1m.ok k,trivial⟩
def z0n.cx:=co (rg 0 [ri [0,1] [1000000,1000000],ri [0,1,5] [1000000,1000000],ri [4] [1000000],ri [0,1,8] [1000000,1000000],ri [4] [1000000],ri [0] [1000000,1000000],ri [] [1000000],ri [4] [1000000]]) [] k
abbrev z0n.sg:Sg:=⟨[.ref,.dat .str],[bJ],.dat J,[bJ]⟩
def z0n.f (a1:Ty.D .str) (o0:Ty.D bJ):=fo z0n.sg (z0n.cx k) Tryz.f52 (a1,o0)
theorem z0n.f_eq (a1:Ty.D .str) (o0:Ty.D bJ):z0n.f k a1 o0=br (aq 4194304 (af a1)) (some (7,o0)) (some (0,(a1,([],(aH .i64 o0.2.2 1))))):=by kernel_rfl
def z0n.e:=Sg.entry z0n.sg fun x=>z0n.f k x.1 x.2
theorem z0n.ok:CallOK Tryz.prog 52 (z0n.e k):=GW (z0n.cx k) Tryz.func52 trivial
def z0f.cx:=co (rg 0 [⟨[0,3],[3,1000000,1000000],[0],[],0,[],[],[],[],[],[],[1000000]⟩,⟨[0,5],[5,1000000,1000000],[3],[],0,[],[],[],[],[],[],[1000000]⟩,⟨[0,5,10],[5,12,1000000,1000000],[],[],0,[],[],[],[],[],[],[1000000]⟩,⟨[4],[28,1000000],[],[],0,[],[],[],[],[],[],[1000000]⟩,⟨[0,5,13],[5,1000000,1000000],[],[],0,[],[],[],[],[],[],[1000000]⟩,⟨[4],[28,1000000],[],[],0,[],[],[],[],[],[],[1000000]⟩,⟨[0,6],[18,1000000,1000000],[],[],0,[],[],[],[],[],[],[1000000]⟩,⟨[0,6,21],[18,1000000,1000000],[],[],0,[],[],[],[],[],[],[1000000]⟩,⟨[4],[28,1000000],[],[],0,[],[],[],[],[],[],[1000000]⟩,⟨[0,7],[28,1000000,1000000],[],[],7,[],[],[],[[],[],[],[],[],[],[3],[6,3]],[],[(1000000,([.l],900000))],[1000000]⟩,⟨[0,7,30],[28,1000000,1000000],[],[],0,[],[],[],[],[],[],[1000000]⟩,⟨[4],[28,1000000],[],[],0,[],[],[],[],[],[],[1000000]⟩,⟨[],[1000000],[],[],0,[],[],[],[],[],[],[1000000]⟩,⟨[4],[28,1000000],[],[],0,[],[],[],[],[],[],[1000000]⟩]) [(48,z0u.e k),(49,z0U.e k),(50,z16.e k),(28,z2Y.e k),(52,z0n.e k)] k
abbrev z0f.sg:Sg:=⟨[.ref,.dat aI],[aX],.dat J,[aX]⟩
def z0f.f (a1:Ty.D aI) (o0:Ty.D aX):=fo z0f.sg (z0f.cx k) Tryz.f17 (a1,o0)
theorem z0f.f_eq (a1:Ty.D aI) (o0:Ty.D aX):z0f.f k a1 o0=bnd (z0u.f k o0) fun r0=>br r0.1 (some (1,(r0.2.1,r0.2.2))) (bnd (z0U.f k (4,(((0,0),(0,(0,(false,[])))),(0,(((0,0),0),(0,(([],([],[])),a1))))))) fun r1=>br (ai r1) (some (2,(r0.2.1,r0.2.2))) (bnd (z16.f k (4,(((0,0),(0,(0,(false,[])))),(0,(((0,0),0),(0,(([],([],[])),a1))))))) fun r2=>br (aq 1048576 (af r2)) (some (6,(r0.2.1,r0.2.2))) (br (Cp r0.2.1) (bnd (z2Y.f k r2) fun r3=>bnd (z0n.f k r3 (D4 bJ r0.2.1)) fun r4=>br (ai (az r4.1 0)) (some (r4.1,((some r4.2),r0.2.2))) (some (0,((some r4.2),1)))) (bnd (z2Y.f k r2) fun r5=>none)))):=by kernel_rfl
def z0f.e:=Sg.entry z0f.sg fun x=>z0f.f k x.1 x.2
theorem z0f.ok:CallOK Tryz.prog 17 (z0f.e k):=GW (z0f.cx k) Tryz.func17 ⟨z0u.ok k,z0U.ok k,z16.ok k,z2Y.ok k,z0n.ok k,trivial⟩
def z0j.cx:=co (rg 0 [⟨[3,4,5,6],[4,5,6],[0,1,2],[],0,[],[],[],[],[],[],[34]⟩,⟨[3,4,5,6,32],[4,5,6],[],[],0,[],[],[],[],[],[],[34]⟩,⟨[8],[33,74,81],[],[],0,[],[],[],[],[],[],[34]⟩,⟨[3,4,5,6,9],[4,5,6,34],[],[],0,[],[],[],[],[],[],[34]⟩,⟨[3,4,6,9,44],[4,6,34],[],[],0,[],[],[],[],[],[],[34]⟩,⟨[8],[33,74,81],[],[],0,[],[],[],[],[],[],[34]⟩,⟨[3,4,6,9],[4,6,34],[],[],0,[],[],[],[],[],[],[34]⟩,⟨[3,4,6,9,63],[4,6,34],[],[],16,[],[],[],[[],[],[],[1,2],[1,2],[1,2],[1,2],[1,2],[7,1,2],[1,2,7],[1,2,7],[1,2,7],[1,2,7],[1,2,7,12],[13,1,2,7,12],[1,2,7,13,12]],[],[],[34]⟩,⟨[8],[33,74,81],[],[],0,[],[],[],[],[],[],[34]⟩,⟨[3,4,6,9],[4,6,34],[],[],0,[],[],[],[],[],[],[34]⟩,⟨[4,6,9],[4,6,34],[],[],0,[],[],[],[],[],[],[34]⟩,⟨[8],[33,74,81],[],[],14,[],[],[],[[],[],[],[],[2,3,1],[1,2,3],[1,2,3],[1,2,3],[1,2,3],[8,1,2,3],[1,2,3,8],[1,2,3,8],[1,2,3,8],[1,2,3,8],[1,2,3,8]],[],[],[34]⟩]) [(12,z24.e k),(13,z1n.e k),(14,z1k.e k),(11,z1i.e k),(15,z1b.e k),(16,z0k.e k),(17,z0f.e k),(18,z0o.e k),(19,z0h.e k),(9,z1W.e k),(20,z0g.e k),(21,z0x.e k),(22,z1p.e k)] k
abbrev z0j.sg:Sg:=⟨[.dat aI,.dat b7,.dat b7,.dat J],[],.dat .bool,[]⟩
def z0j.f (a0:Ty.D aI) (a1 a2:Ty.D b7) (a3:DJ):=fo z0j.sg (z0j.cx k) Tryz.f4 (a0,a1,a2,a3)
theorem z0j.f_eq (a0:Ty.D aI) (a1 a2:Ty.D b7) (a3:DJ):z0j.f k a0 a1 a2 a3=bnd (z24.f k a0) fun r0=>br (ai r0) (bnd (z1i.f k) fun r1=>some r1) (bnd (z1n.f k a1) fun r2=>br (ai r2) (bnd (z1i.f k) fun r3=>some r3) (bnd (z1n.f k a2) fun r4=>br (ai r4) (bnd (z1i.f k) fun r5=>some r5) (bnd (z1k.f k a1) fun r6=>br (ai r6) (bnd (z1i.f k) fun r7=>some r7) (bnd (z1k.f k a2) fun r8=>br (ai r8) (bnd (z1i.f k) fun r9=>some r9) (bnd (z1b.f k) fun r10=>bnd (z0k.f k a1 r10.2) fun r11=>br (ai (az r11.1 0)) (some false) (bnd (z0f.f k a0 r11.2) fun r12=>br (ai (az r12.1 0)) (some false) (bnd (z0o.f k a3 r12.2) fun r13=>bnd (z0h.f k r13.2) fun r14=>bnd (z1W.f k r14.1 a0) fun r15=>br (ai r15) (some false) (bnd (z0g.f k r14.2) fun r16=>br (ai (az r16.1 1)) (some false) (bnd (z0k.f k a2 r16.2) fun r17=>br (ai (az r17.1 0)) (some false) (bnd (z0x.f k r17.2) fun r18=>bnd (z0o.f k a3 r18.2) fun r19=>bnd (z0h.f k r19.2) fun r20=>bnd (z1p.f k a0 a2) fun r21=>bnd (z1W.f k r20.1 r21) fun r22=>br r22 (bnd (z0g.f k r20.2) fun r23=>br (az r23.1 2) (bnd (z1i.f k) fun r24=>some r24) (some false)) (some false))))))))))):=by kernel_rfl
def z0j.e:=Sg.entry z0j.sg fun x=>z0j.f k x.1 x.2.1 x.2.2.1 x.2.2.2
theorem z0j.ok:CallOK Tryz.prog 4 (z0j.e k):=GW (z0j.cx k) Tryz.func4 ⟨z24.ok k,z1n.ok k,z1k.ok k,z1i.ok k,z1b.ok k,z0k.ok k,z0f.ok k,z0o.ok k,z0h.ok k,z1W.ok k,z0g.ok k,z0x.ok k,z1p.ok k,trivial⟩
@[reducible] def ref04_Code.sg:Sg:=⟨[.dat ah],[],.dat .str,[]⟩
@[reducible] def ref02_Text.sg:Sg:=⟨[.dat .str],[],.dat .str,[]⟩
@[reducible] def ref10_Code.sg:Sg:=⟨[.dat (.slc .str)],[],.dat .str,[]⟩
@[reducible] def ref09_Fold.sg:Sg:=⟨[.dat (.int .i64)],[],.dat (.int .i64),[]⟩
@[reducible] def ref09_Code.sg:Sg:=⟨[.dat cC],[],.dat .str,[]⟩
@[reducible] def ref11_Code.sg:Sg:=⟨[.dat eJ],[],.dat .str,[]⟩
@[reducible] def ref12_Code.sg:Sg:=⟨[.dat aJ],[],.dat .str,[]⟩
@[reducible] def ref12_List.sg:Sg:=⟨[.dat (.slc aJ)],[],.dat .str,[]⟩
@[reducible] def ref08_Code.sg:Sg:=⟨[.dat (.slc ak)],[],.dat .str,[]⟩
@[reducible] def ref06_List.sg:Sg:=⟨[.dat (.slc ah)],[],.dat .str,[]⟩
@[reducible] def ref23_Delta.sg:Sg:=⟨[.dat bI],[],.dat .str,[]⟩
@[reducible] def ref05_Code.sg:Sg:=⟨[.dat bc],[],.dat .str,[]⟩
@[reducible] def ref06_Code.sg:Sg:=⟨[.dat bp],[],.dat .str,[]⟩
@[reducible] def ref22_Code.sg:Sg:=⟨[.dat aI],[],.dat .str,[]⟩
@[reducible] def ref23_Code.sg:Sg:=⟨[.dat b7],[],.dat .str,[]⟩
@[reducible] def ref21_Of.sg:Sg:=⟨[.dat .str],[],.dat .str,[]⟩
@[reducible] def ref20_Disk_Append.sg:Sg:=⟨[.ref,.dat .str],[bJ],.dat (.int .i64),[bJ]⟩
@[reducible] def ref25_Log_Append.sg:Sg:=⟨[.ref,.dat b7],[eo],.dat (.int .i64),[eo]⟩
@[reducible] def ref20_Disk_Sync.sg:Sg:=⟨[.ref],[bJ],.unit,[bJ]⟩
@[reducible] def ref20_Disk_Crash.sg:Sg:=⟨[.ref,.dat (.int .i64)],[bJ],.unit,[bJ]⟩
@[reducible] def ref20_Disk_Replace.sg:Sg:=⟨[.ref,.dat .str],[bJ],.dat (.int .i64),[bJ]⟩
@[reducible] def ref25_Log_Snapshot.sg:Sg:=⟨[.ref,.dat aI],[eo],.dat (.int .i64),[eo]⟩
@[reducible] def ref20_Disk_Cut.sg:Sg:=⟨[.ref,.dat (.int .i64)],[bJ],.unit,[bJ]⟩
@[reducible] def ref25_Log_Recover.sg:Sg:=⟨[.ref],[eo],.dat aI,[eo]⟩
end Go.Proofs.YtfhcammihohmjaaGreatDoor
end
noncomputable section
/- The program's functions, as plain equations. -/
namespace Go.Proofs.YtfhcammihohmjaaGreatDoor
open Pal
variable (k:Nat)
set_option maxRecDepth 100000
@[reducible] def law25_does.sg:Sg:=⟨[.ref,.ref,.dat wL],[aX,eo],.dat .bool,[aX,eo]⟩
@[reducible] def journal_Log_Kept.sg:Sg:=⟨[.ref],[aX],.dat .str,[aX]⟩
@[reducible] def law25_JournalPlays.sg:Sg:=⟨[.dat (.slc wL)],[],.dat .bool,[]⟩
end Go.Proofs.YtfhcammihohmjaaGreatDoor
end
noncomputable section
/- Sets of dots: one way to stand. -/
namespace Go.Proofs.YtfhcammihohmjaaGreatDoor
open Pal
abbrev iH:=List Int
abbrev dv:=iH × List bu
def dh (v:iH) (r:Int):Int:=rd (.int .i64) v (aj r)
theorem bV (d:bu):aK d=true ↔ 0≤d.1∧d.1<16∧1≤d.2∧d.2≤1048576:=by unfold aK;rw [decide_eq_true_iff]
theorem iO {v:iH} {i:Nat} (h:i<v.length):dh v (i:Int)=v[i]:=by unfold dh;rw [au];exact aT (e:=.int .i64) h
theorem zm {v:iH} {r:Int} {x:Int} (h0:0≤r) (h1:r<v.length) (q:Int) (hq:0≤q):dh (ja v (aj r) x) q=if q=r then x else dh v q:=by
 obtain ⟨a,rfl⟩:=Int.eq_ofNat_of_zero_le h0
 obtain ⟨b,rfl⟩:=Int.eq_ofNat_of_zero_le hq
 have ha:a<v.length:=by omega
 show ((v.set a x).getD b (0:Int))=if ((b:Int)=(a:Int)) then x else v.getD b (0:Int)
 rw [List.getD_eq_getElem?_getD,List.getD_eq_getElem?_getD,List.getElem?_set]
 by_cases h:a=b
 ·subst h;rw [if_pos rfl,if_pos ha,if_pos rfl];rfl
 ·rw [if_neg h,if_neg (by omega)]
structure VOk (v:iH):Prop where
 len:v.length=16
 lo:∀ r,0≤r→r<16→0≤dh v r
 hi:∀ r,0≤r→r<16→dh v r≤1048576
structure Can (s:dv):Prop where
 vok:VOk s.1
 rt:∀ d ∈ s.2,aK d=true
 gap:∀ d ∈ s.2,dh s.1 d.1+1<d.2
 srt:s.2.Pairwise (fun a b=>aP a b=true)
def m9 (s:dv) (d:bu):Prop:=aK d=true∧(d.2≤dh s.1 d.1∨d ∈ s.2)
theorem zA {v u:iH} (h1:v.length=16) (h2:u.length=16) (h:∀ r,0≤r→r<16→dh v r=dh u r):v=u:=by
 apply List.ext_getElem (by omega)
 intro i a b
 have:=h (i:Int) (by omega) (by omega)
 rwa [iO a,iO b] at this
theorem gl {a b:bu} (h:aP a b=true):aP b a=false:=by
 rw [← Bool.not_eq_true,fD];rw [fD] at h;omega
theorem rZ {l:List bu} (h:l.Pairwise (fun a b=>aP a b=true)):l.Nodup :=
 h.imp fun {a b} hab e=>by subst e;rw [cE.irrefl] at hab;cases hab
theorem qD {l m:List bu} (h1:l.Pairwise (fun a b=>aP a b=true)) (h2:m.Pairwise (fun a b=>aP a b=true)) (h:∀ d,d ∈ l ↔ d ∈ m):l=m :=
 iU dM ((List.perm_ext_iff_of_nodup (rZ h1) (rZ h2)).2 h) (h1.imp gl) (h2.imp gl)
theorem CL {s t:dv} (hs:Can s) (ht:Can t) (h:∀ d,m9 s d→m9 t d) (r:Int) (h0:0≤r) (h1:r<16):dh s.1 r≤dh t.1 r:=by
 rcases (by omega:dh t.1 r<dh s.1 r∨dh s.1 r≤dh t.1 r) with hlt | hge
 ·exfalso
  have a:=ht.vok.lo r h0 h1
  have b:=hs.vok.hi r h0 h1
  have hr:aK (r,dh t.1 r+1)=true:=(bV _).2 ⟨h0,h1,by show 1≤dh t.1 r+1;omega,by show dh t.1 r+1≤1048576;omega⟩
  have hm:=h (r,dh t.1 r+1) ⟨hr,.inl (by show dh t.1 r+1≤dh s.1 r;omega)⟩
  rcases hm.2 with c | c
  ·have:dh t.1 r+1≤dh t.1 r:=c;omega
  ·have:dh t.1 r+1<dh t.1 r+1:=ht.gap _ c;omega
 ·exact hge
theorem lT {s t:dv} (hs:Can s) (ht:Can t) (h:∀ d,m9 s d ↔ m9 t d):s=t:=by
 have hv:∀ r,0≤r→r<16→dh s.1 r=dh t.1 r:=fun r h0 h1=>Int.le_antisymm (CL hs ht (fun d=>(h d).1) r h0 h1) (CL ht hs (fun d=>(h d).2) r h0 h1)
 apply Prod.ext
 ·exact zA hs.vok.len ht.vok.len hv
 ·refine qD hs.srt ht.srt fun d=>⟨fun hd=>?_,fun hd=>?_⟩
  ·have hr:=hs.rt d hd
   obtain ⟨a,b,_,_⟩:=(bV d).1 hr
   rcases ((h d).1 ⟨hr,.inr hd⟩).2 with c | c
   ·have:=hs.gap d hd;rw [hv d.1 a b] at this;omega
   ·exact c
  ·have hr:=ht.rt d hd
   obtain ⟨a,b,_,_⟩:=(bV d).1 hr
   rcases ((h d).2 ⟨hr,.inr hd⟩).2 with c | c
   ·have:=ht.gap d hd;rw [← hv d.1 a b] at this;omega
   ·exact c
def mf (s:dv) (d:bu):dv :=
 if d.2≤dh s.1 d.1 then s else if d.2=dh s.1 d.1+1 then (ja s.1 (aj d.1) d.2,s.2) else if s.2.getLast? = some d then s else (s.1,s.2++[d])
theorem BA {s:dv} {d:bu} (hs:Can s) (hd:aK d=true) (hb:∀ e ∈ s.2,aP d e=false):Can (mf s d)∧(∀ x,m9 (mf s d) x ↔ m9 s x∨x=d)∧(∀ e ∈ (mf s d).2,e ∈ s.2∨e=d):=by
 obtain ⟨a,b,c1,c2⟩:=(bV d).1 hd
 have hlen:=hs.vok.len
 unfold mf
 by_cases h1:d.2≤dh s.1 d.1
 ·rw [if_pos h1]
  exact ⟨hs,fun x=>⟨.inl,fun h=>h.elim id fun e=>by subst e;exact ⟨hd,.inl h1⟩⟩,fun e he=>.inl he⟩
 ·rw [if_neg h1]
  by_cases h2:d.2=dh s.1 d.1+1
  ·rw [if_pos h2]
   have hne:∀ e ∈ s.2,e.1 ≠ d.1:=fun e he hee=>by
    have g:=hs.gap e he
    have:=hb e he
    rw [← Bool.not_eq_true,fD] at this
    rw [hee] at g
    omega
   have hv:∀ q,0≤q→q<16→dh (ja s.1 (aj d.1) d.2) q=if q=d.1 then d.2 else dh s.1 q:=fun q h0 _=>zm a (by omega) q h0
   refine ⟨⟨⟨by simp [ja,hlen],fun r h0 h1=>?_,fun r h0 h1=>?_⟩,hs.rt,fun e he=>?_,hs.srt⟩,fun x=>⟨fun ⟨hr,h⟩=>?_,fun h=>?_⟩,fun e he=>.inl he⟩
   ·rw [hv r h0 h1];split
    ·omega
    ·exact hs.vok.lo r h0 h1
   ·rw [hv r h0 h1];split
    ·omega
    ·exact hs.vok.hi r h0 h1
   ·obtain ⟨q0,q1,_,_⟩:=(bV e).1 (hs.rt e he)
    show dh (ja s.1 (aj d.1) d.2) e.1+1<e.2
    rw [hv e.1 q0 q1,if_neg (hne e he)];exact hs.gap e he
   ·obtain ⟨q0,q1,_,_⟩:=(bV x).1 hr
    rcases h with h | h
    ·have h:x.2≤dh (ja s.1 (aj d.1) d.2) x.1:=h
     rw [hv x.1 q0 q1] at h
     split at h
     ·rename_i hx
      by_cases he:x.2=d.2
      ·exact .inr (Prod.ext hx he)
      ·exact .inl ⟨hr,.inl (by rw [hx];omega)⟩
     ·exact .inl ⟨hr,.inl h⟩
    ·exact .inl ⟨hr,.inr h⟩
   ·rcases h with ⟨hr,h⟩ | rfl
    ·obtain ⟨q0,q1,_,_⟩:=(bV x).1 hr
     rcases h with h | h
     ·refine ⟨hr,.inl ?_⟩
      show x.2≤dh (ja s.1 (aj d.1) d.2) x.1
      rw [hv x.1 q0 q1];split
      ·rename_i hx;rw [hx] at h;omega
      ·exact h
     ·exact ⟨hr,.inr h⟩
    ·refine ⟨hd,.inl ?_⟩
     show x.2≤dh (ja s.1 (aj x.1) x.2) x.1
     rw [hv x.1 a b,if_pos rfl];exact Int.le_refl _
  ·rw [if_neg h2]
   by_cases h3:s.2.getLast? = some d
   ·rw [if_pos h3]
    have hmem:d ∈ s.2:=List.mem_of_getLast? h3
    exact ⟨hs,fun x=>⟨.inl,fun h=>h.elim id fun e=>by subst e;exact ⟨hd,.inr hmem⟩⟩,fun e he=>.inl he⟩
   ·rw [if_neg h3]
    have hlt:∀ e ∈ s.2,aP e d=true:=by
     intro e he
     cases hh:aP e d with
     | true=>rfl
     | false =>
      exfalso
      have heq:=dM e d hh (hb e he)
      subst heq
      obtain ⟨p,q,hpq⟩:=List.append_of_mem he
      cases q with
      | nil=>rw [hpq] at h3;simp at h3
      | cons z zs =>
       have hsr:=hs.srt
       rw [hpq] at hsr
       have h5:=(List.pairwise_append.1 hsr).2.1
       have h6:=(List.pairwise_cons.1 h5).1 z (by simp)
       have h7:=hb z (by rw [hpq];simp)
       rw [h6] at h7;cases h7
    refine ⟨⟨hs.vok,fun e he=>?_,fun e he=>?_,?_⟩,fun x=>⟨fun ⟨hr,h⟩=>?_,fun h=>?_⟩,fun e he=>?_⟩
    ·rcases List.mem_append.1 he with he | he
     ·exact hs.rt e he
     ·rw [List.mem_singleton.1 he];exact hd
    ·rcases List.mem_append.1 he with he | he
     ·exact hs.gap e he
     ·rw [List.mem_singleton.1 he];show dh s.1 d.1+1<d.2;omega
    ·exact List.pairwise_append.2 ⟨hs.srt,List.pairwise_singleton _ _,fun e he f hf=>by rw [List.mem_singleton.1 hf];exact hlt e he⟩
    ·rcases h with h | h
     ·exact .inl ⟨hr,.inl h⟩
     ·rcases List.mem_append.1 h with h | h
      ·exact .inl ⟨hr,.inr h⟩
      ·exact .inr (List.mem_singleton.1 h)
    ·rcases h with ⟨hr,h⟩ | rfl
     ·exact ⟨hr,h.imp id fun h=>List.mem_append.2 (.inl h)⟩
     ·exact ⟨hd,.inr (List.mem_append.2 (.inr (by simp)))⟩
    ·rcases List.mem_append.1 he with he | he
     ·exact .inl he
     ·exact .inr (List.mem_singleton.1 he)
def mk (v:iH) (l:List bu):dv:=l.foldl mf (v,[])
theorem qJ {v : iH} (hv : VOk v) : ∀ (l : List bu), (∀ d ∈ l, aK d = true) → l.Pairwise (fun a b => aP b a = false) →
    Can (mk v l)∧(∀ x,m9 (mk v l) x ↔ aK x=true∧(x.2≤dh v x.1∨x ∈ l))∧(mk v l).2.length≤l.length∧∀ e ∈ (mk v l).2,e ∈ l:=by
  have key : ∀ (l p : List bu) (s : dv), (∀ d ∈ p ++ l, aK d = true) → (p ++ l).Pairwise (fun a b => aP b a = false) → Can s → (∀ x, m9 s x ↔ aK x = true ∧ (x.2 ≤ dh v x.1 ∨ x ∈ p)) → s.2.length ≤ p.length → (∀ e ∈ s.2, e ∈ p) →
      Can (l.foldl mf s)∧(∀ x,m9 (l.foldl mf s) x ↔ aK x=true∧(x.2≤dh v x.1∨x ∈ p++l))∧(l.foldl mf s).2.length≤(p++l).length∧∀ e ∈ (l.foldl mf s).2,e ∈ p++l:=by
    intro l
    induction l with
    | nil=>intro p s _ _ hc hm hl he;rw [List.append_nil];exact ⟨hc,hm,hl,he⟩
    | cons d l ih =>
      intro p s hr hp hc hm hl he
      have hd:aK d=true:=hr d (by simp)
      have hbb:∀ e ∈ s.2,aP d e=false:=fun e hee=>(List.pairwise_append.1 hp).2.2 e (he e hee) d (by simp)
      obtain ⟨c1,c2,c3⟩:=BA hc hd hbb
      have := ih (p ++ [d]) (mf s d) (by simpa using hr) (by simpa using hp) c1 (fun x => by
          rw [c2,hm]
          constructor
          · rintro (⟨h1,h2⟩ | rfl)
            · exact ⟨h1,h2.imp id fun h=>List.mem_append.2 (.inl h)⟩
            · exact ⟨hd,.inr (by simp)⟩
          · rintro ⟨h1,h2 | h2⟩
            · exact .inl ⟨h1,.inl h2⟩
            · rcases List.mem_append.1 h2 with h3 | h3
              · exact .inl ⟨h1,.inr h3⟩
              · exact .inr (List.mem_singleton.1 h3)) (by
          unfold mf;simp only [List.length_append,List.length_singleton]
          split
          · omega
          · split
            · show s.2.length≤_;omega
            · split
              · omega
              · simp;omega) (fun e hee=>by
          rcases c3 e hee with h | h
          · exact List.mem_append.2 (.inl (he e h))
          · exact List.mem_append.2 (.inr (by simp [h])))
      rw [List.append_assoc] at this;exact this
  intro l hr hs
  have h0:Can (v,[]):=⟨hv,fun d hd=>by simp at hd,fun d hd=>by simp at hd,List.Pairwise.nil⟩
  have:=key l [] (v,[]) (by simpa using hr) (by simpa using hs) h0 (fun x=>by simp [m9]) (Nat.le_refl _) (fun e he=>he)
  exact this
end Go.Proofs.YtfhcammihohmjaaGreatDoor
end
noncomputable section
/- What the functions of the layer of dots compute. -/
namespace Go.Proofs.YtfhcammihohmjaaGreatDoor
open Pal
theorem gu {a b:Int} (h1:-1000000000000≤a) (h2:a≤1000000000000) (h3:-1000000000000≤b) (h4:b≤1000000000000):aH .i64 a b=a+b:=by
 have e1:((2:Int) ^ 63)=9223372036854775808:=by decide
 show IntKind.wrap .i64 (a+b)=_
 rw [wrap_i64 (by rw [e1];omega) (by rw [e1];omega)]
theorem dx {a b:Int} (h1:-1000000000000≤a) (h2:a≤1000000000000) (h3:-1000000000000≤b) (h4:b≤1000000000000):bw .i64 a b=a - b:=by
 have e1:((2:Int) ^ 63)=9223372036854775808:=by decide
 show IntKind.wrap .i64 (a - b)=_
 rw [wrap_i64 (by rw [e1];omega) (by rw [e1];omega)]
theorem sk {r:Int} (h0:0≤r) (h1:r<16):gh r 16=true:=by simp [gh,h0];omega
theorem fX {α:Type} {xs:List α} {x:α} (h:xs.length<4000000):bm xs (x::[])=true:=by simp [bm];omega
theorem jK (a b:Int):bM a b=decide (a≤b):=rfl
theorem kW (a b:Int):aq a b=decide (a<b):=rfl
theorem yc (a b:bu):eQ ah a b=decide (a=b):=uj (τ:=ah) rfl a b
theorem Di {M:List bu} {m:Nat} (hl:M.length=m+1) (hb:m<4000000):rd ah M (aj (bw .i64 (af M) 1))=M[m]:=by
 rw [dx (by unfold af;omega) (by unfold af;omega) (by omega) (by omega),show af M - 1=(m:Int) by unfold af;omega,au]
 exact aT (e:=ah) (by omega)
theorem Dv {M:List bu} {m:Nat} (hl:M.length=m+1) (hb:m<4000000):bO (bw .i64 (af M) 1) M=true:=by
 rw [dx (by unfold af;omega) (by unfold af;omega) (by omega) (by omega),show af M - 1=(m:Int) by unfold af;omega,aQ]
 simp;omega
theorem yk {M:List bu} {m:Nat} (hl:M.length=m+1):M.getLast? = some M[m]:=by
 rw [List.getLast?_eq_getElem?];exact List.getElem?_eq_some_iff.2 ⟨by omega,by simp [hl]⟩
theorem sR {l:List bu} {i:Nat} (hi:i<l.length):l.take (i+1)=l.take i++[l[i]]:=by rw [List.take_add_one,List.getElem?_eq_getElem hi];rfl
theorem CV (k:Nat) (l:List bu) (hl:l.length<1000000) (hr:∀ d ∈ l,aK d=true) (hs:l.Pairwise (fun a b=>aP b a=false)) (v:iH) (hv:VOk v) (za:iH) (zb:List bu):∀ (n i:Nat),i≤l.length→l.length<n+i →
  z2s.l3 k n l (af l) (i:Int) za zb (mk v (l.take i)).1 (mk v (l.take i)).2=some (mk v l)
 | 0,i,h,h'=>by omega
 | n+1,i,h,h'=>by
  rw [z2s.l3_eq,aO,aQ,au]
  by_cases hi:i<l.length
  ·have hstep:mk v (l.take (i+1))=mf (mk v (l.take i)) l[i]:=by rw [sR hi];unfold mk;rw [List.foldl_append];rfl
   obtain ⟨hc,hm,hml,_⟩:=qJ hv (l.take i) (fun d hd=>hr d (List.mem_of_mem_take hd)) (hs.sublist (List.take_sublist i l))
   have ih:=CV k l hl hr hs v hv za zb n (i+1) (by omega) (by omega)
   rw [hstep] at ih
   have hmk:mk v (l.take i)=mk v (l.take i):=rfl
   generalize mk v (l.take i)=s at hc hm hml ih hstep ⊢
   obtain ⟨V,M⟩:=s
   obtain ⟨r0,r1,r2,r3⟩:=(bV l[i]).1 (hr _ (List.getElem_mem hi))
   rw [aT (e:=ah) hi,aB (by omega)]
   obtain ⟨d,hd⟩:∃ d:bu,d=l[i]:=⟨_,rfl⟩
   rw [← hd] at r0 r1 r2 r3 ih ⊢
   have hvv:rd (.int .i64) V (aj d.1)=dh V d.1:=rfl
   have v0:=hc.vok.lo d.1 r0 r1
   have v1:=hc.vok.hi d.1 r0 r1
   have v0':0≤dh V d.1:=v0
   have v1':dh V d.1≤1048576:=v1
   have hML:M.length≤i:=by have:M.length≤(l.take i).length:=hml;rw [List.length_take] at this;omega
   simp only [hi,decide_true,ac,sk r0 r1,hvv,jK]
   rw [gu (by omega) (by omega) (by omega) (by omega),aW,aW]
   unfold mf at ih
   by_cases h1:d.2≤dh V d.1
   ·simp only [h1,decide_true,ac,if_true] at ih ⊢;exact ih
   ·by_cases h2:d.2=dh V d.1+1
    ·rw [if_neg h1,if_pos h2] at ih
     rw [decide_eq_false h1,decide_eq_true h2];exact ih
    ·simp only [h1,h2,decide_false,aa,if_false] at ih ⊢
     rw [fX (by omega)]
     cases hM:M.length with
     | zero =>
      have hM0:M=[]:=List.eq_nil_of_length_eq_zero hM
      subst hM0
      simp only [List.getLast?_nil,reduceCtorEq,if_false] at ih
      have:decide (af ([]:List bu)=0)=true:=rfl
      rw [this];simp only [ac];exact ih
     | succ m =>
      have h4:¬ (af M=0):=by unfold af;omega
      rw [Dv hM (by omega),Di hM (by omega),yc,bB]
      simp only [h4,decide_false,ac,aa]
      rw [yk hM] at ih
      by_cases h5:M[m]=d
      ·simp only [h5,if_true,decide_true,decide_false,not_true,aa] at ih ⊢;exact ih
      ·have h6:¬ (some M[m]=some d):=fun e=>h5 (Option.some.inj e)
       simp only [h5,h6,if_false,not_false_eq_true,decide_true,ac] at ih ⊢;exact ih
  ·have:i=l.length:=by omega
   subst this
   simp only [List.take_length,Nat.lt_irrefl,decide_false,aa]
theorem tw (k:Nat) (l:List bu) (hl:l.length<k) (hk:k<1000000) (hr:∀ d ∈ l,aK d=true) (hs:l.Pairwise (fun a b=>aP b a=false)) (v:iH) (hv:VOk v):z2s.f k v l=some (mk v l):=by
 rw [z2s.f_eq]
 exact CV k l (by omega) hr hs v hv (aV 16 0) [] k 0 (by omega) (by omega)
theorem GD:VOk (aV 16 0):=⟨rfl,fun r h0 h1=>by
  obtain ⟨a,rfl⟩:=Int.eq_ofNat_of_zero_le h0
  have:a<16:=by omega
  have e:dh (aV 16 0) (a:Int)=0:=by rw [iO (by show a<16;omega)];exact List.getElem_replicate ..
  rw [e];exact Int.le_refl _,fun r h0 h1=>by
  obtain ⟨a,rfl⟩:=Int.eq_ofNat_of_zero_le h0
  have e:dh (aV 16 0) (a:Int)=0:=by rw [iO (by show a<16;omega)];exact List.getElem_replicate ..
  rw [e];decide⟩
theorem GO (r:Int) (h0:0≤r) (h1:r<16):dh (aV 16 0) r=0:=by
 obtain ⟨a,rfl⟩:=Int.eq_ofNat_of_zero_le h0
 rw [iO (by show a<16;omega)];exact List.getElem_replicate ..
def gd (l:List bu):dv:=mk (aV 16 0) (fH aP (iI aK l))
theorem pw {l:List bu} {d:bu}:d ∈ fH aP (iI aK l) ↔ d ∈ l∧aK d=true:=by
 rw [(dH aP _).mem_iff];unfold iI;rw [List.mem_filter]
theorem fh (l:List bu):Can (gd l)∧(∀ x,m9 (gd l) x ↔ aK x=true∧x ∈ l)∧(gd l).2.length≤l.length:=by
 obtain ⟨h1,h2,h3,_⟩:=qJ GD (fH aP (iI aK l)) (fun d hd=>(pw.1 hd).2) (eS cE _)
 refine ⟨h1,fun x=>?_,?_⟩
 ·rw [show m9 (gd l) x ↔ _ from h2 x,pw]
  constructor
  ·rintro ⟨a,b | b⟩
   ·obtain ⟨q0,q1,q2,_⟩:=(bV x).1 a
    rw [GO x.1 q0 q1] at b;omega
   ·exact ⟨a,b.1⟩
  ·rintro ⟨a,b⟩;exact ⟨a,.inr ⟨b,a⟩⟩
 ·refine Nat.le_trans h3 ?_
  rw [(dH aP _).length_eq];exact List.length_filter_le _ _
theorem Bk (k:Nat) (l:List bu) (hl:l.length<k) (hk:k<1000000):z34.f k l=some (gd l):=by
 have h1:bm ([]:List Int) l=true:=by simp [bm];omega
 have h2:(iI aK l).length≤l.length:=List.length_filter_le _ _
 have h3:bm ([]:List Int) (iI lg l)=true:=by simp [bm];have:(iI lg l).length≤l.length:=h2;omega
 rw [z34.f_eq,h1,h3]
 simp only [ac]
 rw [tw k _ (by rw [(dH aP _).length_eq];exact Nat.lt_of_le_of_lt h2 hl) hk (fun d hd=>(pw.1 hd).2) (eS cE _) _ GD]
 rfl
theorem dK (k:Nat) (d:bu):z15.f k d=some (aK d):=by
 rw [z15.f_eq]
 have:bM d.1 15=aq d.1 16:=by unfold bM aq;congr 1;exact propext ⟨fun h=>by omega,fun h=>by omega⟩
 rw [this]
 have:=dN k d
 rw [z2F.f_eq] at this
 exact this
def rE (s:dv) (d:bu):Bool:=aK d && (decide (d.2≤dh s.1 d.1) || decide (d ∈ s.2))
theorem nq (s:dv) (d:bu):rE s d=true ↔ m9 s d:=by simp [rE,m9]
theorem D9 (k:Nat) (v:iH) (d:bu):z3c.f k v d=some (aK d && decide (d.2≤dh v d.1)):=by
 rw [z3c.f_eq,dN]
 simp only [bnd]
 cases h:aK d with
 | false=>rfl
 | true =>
  obtain ⟨a,b,_,_⟩:=(bV d).1 h
  rw [sk a b];rfl
theorem BH (k:Nat) (v:iH) (d:bu):z2y.f k v d=some (aK d && decide (d.2≤dh v d.1)):=by
 rw [z2y.f_eq,dK]
 simp only [bnd]
 cases h:aK d with
 | false=>rfl
 | true =>
  obtain ⟨a,b,_,_⟩:=(bV d).1 h
  rw [sk a b];rfl
theorem CB {α:Type} {xs:List α} {i:Nat} (h:i<xs.length) (p:α→Bool):(xs.drop i).any p=(p xs[i] || (xs.drop (i+1)).any p):=by
 rw [List.drop_eq_getElem_cons h,List.any_cons]
theorem CK (k:Nat) (s:dv) (d:bu) (hl:s.2.length<1000000):∀ (n i:Nat),i≤s.2.length→s.2.length<n+i→z2K.l4 k n (i:Int) s d=some ((s.2.drop i).any fun e=>decide (e=d))
 | 0,i,h,h'=>by omega
 | n+1,i,h,h'=>by
  rw [z2K.l4_eq,aO,aQ,au]
  by_cases hi:i<s.2.length
  ·rw [CB hi,aT (e:=ah) hi,yc,aB (by omega),CK k s d hl n (i+1) (by omega) (by omega)]
   by_cases he:s.2[i]=d <;> simp [hi,he,ac,aa]
  ·rw [List.drop_of_length_le (by omega)];simp [hi,aa]
theorem Da (l:List bu) (d:bu):(l.any fun e=>decide (e=d))=decide (d ∈ l):=by
 rw [Bool.eq_iff_iff];simp
theorem En (k:Nat) (s:dv) (d:bu) (hl:s.2.length<k) (hk:k<1000000) (hr:∀ e ∈ s.2,aK e=true):z2K.f k s d=some (rE s d):=by
 rw [z2K.f_eq,BH]
 simp only [bnd]
 have:=CK k s d (by omega) k 0 (by omega) (by omega)
 rw [List.drop_zero,Da] at this
 rw [show z2K.l4 k k 0 s d=_ from this]
 unfold rE
 cases h:aK d with
 | false =>
  have:d ∉ s.2:=fun hd=>by rw [hr d hd] at h;cases h
  simp [this,aa]
 | true =>
  by_cases h2:d.2≤dh s.1 d.1 <;> simp [h2,ac,aa]
end Go.Proofs.YtfhcammihohmjaaGreatDoor
end
noncomputable section
/- What the functions of the layer of dots compute, on. -/
namespace Go.Proofs.YtfhcammihohmjaaGreatDoor
open Pal
theorem B4 {n:Int} (h1:0≤n) (h2:n<2 ^ 63):IntKind.wrap .u64 n=n:=by
 have e1:((2:Int) ^ 63)=9223372036854775808:=by decide
 rw [e1] at h2
 simp only [IntKind.wrap,IntKind.signed,IntKind.bits]
 simp
 omega
theorem xg {i j:Nat} (h:i+j<1000000000):bj .i64 (gZ .u64 (bj .u64 (aH .i64 (i:Int) (j:Int))) 1)=(((i+j) / 2:Nat):Int):=by
 have e1:((2:Int) ^ 63)=9223372036854775808:=by decide
 rw [gu (by omega) (by omega) (by omega) (by omega)]
 unfold bj gZ
 rw [B4 (by omega) (by rw [e1];omega)]
 have e2:(2:Int) ^ (min (1:Int).toNat (IntKind.bits .u64))=2:=by decide
 rw [e2,show (i:Int)+(j:Int)=((i+j:Nat):Int) by omega]
 have e3:Int.fdiv ((i+j:Nat):Int) 2=(((i+j) / 2:Nat):Int):=by
  rw [Int.fdiv_eq_ediv_of_nonneg _ (by decide)];rfl
 rw [e3,wrap_i64 (by rw [e1];omega) (by rw [e1];omega)]
def Ch (l:List bu) (d:bu) (p:Nat) (b:Bool):Prop :=
 p≤l.length∧(∀ j (h:j<l.length),j<p→aP l[j] d=true)∧(∀ j (h:j<l.length),p≤j→aP l[j] d=false)∧b=decide (d ∈ l)
theorem li {l:List bu} (hs:l.Pairwise (fun a b=>aP a b=true)) {i j:Nat} (hi:i<l.length) (hj:j<l.length) (h:i<j):aP l[i] l[j]=true:=List.pairwise_iff_getElem.1 hs i j hi hj h
theorem iP (a b:bu):aq (dw a b) 0=aP a b:=rfl
theorem Eb (a b:bu):az (dw a b) 0=decide (a=b):=by
 rw [aW];congr 1
 unfold dw
 apply propext
 by_cases h:a.1=b.1
 ·rw [if_pos ((eB _ _).2 h),eB];exact ⟨fun h2=>Prod.ext h h2,fun e=>by rw [e]⟩
 ·rw [if_neg (fun e=>h ((eB _ _).1 e)),eB];exact ⟨fun e=>absurd e h,fun e=>by rw [e]⟩
theorem FJ (k:Nat) (l:List bu) (d:bu) (hl:l.length<1000000) (hs:l.Pairwise (fun a b=>aP a b=true)):∀ (n i j:Nat),i≤j→j≤l.length→j<n+i→(∀ t (h:t<l.length),t<i→aP l[t] d=true)→(∀ t (h:t<l.length),j≤t→aP l[t] d=false) →
  ∃ p b,Ch l d p b∧z00.l3 (k+3) n l (af l) (i:Int) (j:Int) d=some ((p:Int),b)
 | 0,i,j,h,_,h',_,_=>by omega
 | n+1,i,j,hij,hj,hn,h1,h2=>by
  rw [z00.l3_eq,bA,xg (by omega)]
  by_cases hlt:i<j
  ·have hm:(i+j) / 2<l.length:=by omega
   rw [aQ,au,aT (e:=ah) hm,fJ]
   simp only [hlt,hm,decide_true,ac,aa,bnd,iP]
   have hi':i≤(i+j) / 2:=by omega
   have hj':(i+j) / 2<j:=by omega
   generalize (i+j) / 2=m at hm hi' hj' ⊢
   cases hc:aP l[m] d with
   | true =>
    rw [aB (by omega)]
    simp only [ac]
    exact FJ k l d hl hs n (m+1) j (by omega) hj (by omega) (fun t ht htm=>by
     rcases Nat.lt_or_ge t m with h | h
     ·exact cE.trans _ _ _ (li hs ht hm h) hc
     ·have:t=m:=by omega
      subst this;exact hc) h2
   | false =>
    simp only [aa]
    exact FJ k l d hl hs n i m hi' (by omega) (by omega) h1 (fun t ht htm=>by
     rcases Nat.lt_or_ge m t with h | h
     ·cases hh:aP l[t] d with
      | false=>rfl
      | true=>exfalso;have:=cE.trans _ _ _ (li hs hm ht h) hh;rw [hc] at this;cases this
     ·have:t=m:=by omega
      subst this;exact hc)
  ·have:i=j:=by omega
   subst this
   have hge:∀ t (h:t<l.length),l[t]=d→i≤t:=fun t h e=>by
    rcases Nat.lt_or_ge t i with hh | hh
    ·have:=h1 t h hh;rw [e,cE.irrefl] at this;cases this
    ·exact hh
   simp only [Nat.lt_irrefl,decide_false,aa,aO,aQ,au]
   by_cases hil:i<l.length
   ·rw [aT (e:=ah) hil,fJ]
    simp only [hil,decide_true,ac,bnd,Eb]
    refine ⟨i,_,⟨hj,h1,h2,?_⟩,rfl⟩
    congr 1
    apply propext
    constructor
    ·intro e;rw [← e];exact List.getElem_mem hil
    ·intro e
     obtain ⟨t,ht,he⟩:=List.getElem_of_mem e
     have h3:=hge t ht he
     rcases Nat.lt_or_ge i t with hh | hh
     ·have h4:=li hs hil ht hh
      rw [he] at h4
      have:=h2 i hil (Nat.le_refl _)
      rw [h4] at this;cases this
     ·have:t=i:=by omega
      subst this;exact he
   ·simp only [hil,decide_false,aa]
    refine ⟨i,_,⟨hj,h1,h2,?_⟩,rfl⟩
    symm;rw [decide_eq_false_iff_not]
    intro e
    obtain ⟨t,ht,he⟩:=List.getElem_of_mem e
    have:=hge t ht he;omega
theorem F2 (k:Nat) (l:List bu) (d:bu) (h3:3≤k) (hl:l.length<k) (hk:k<1000000) (hs:l.Pairwise (fun a b=>aP a b=true)):∃ p b,Ch l d p b∧z00.f k l d=some ((p:Int),b):=by
 obtain ⟨q,rfl⟩:∃ q,k=q+3:=⟨k - 3,by omega⟩
 rw [z00.f_eq]
 exact FJ q l d (by omega) hs (q+3) 0 l.length (by omega) (Nat.le_refl _) (by omega) (fun t _ h=>by omega) (fun t h h'=>by omega)
theorem FI (k:Nat) (s:dv) (d:bu) (h3:3≤k) (hl:s.2.length<k) (hk:k<1000000) (hs:Can s):z2U.f k s d=some (rE s d):=by
 rw [z2U.f_eq,D9]
 simp only [bnd]
 obtain ⟨p,b,hf,he⟩:=F2 k s.2 d h3 hl hk hs.srt
 rw [he,hf.2.2.2]
 unfold rE
 cases h:aK d with
 | false =>
  have:d ∉ s.2:=fun hd=>by rw [hs.rt d hd] at h;cases h
  simp [this,aa]
 | true =>
  by_cases h2:d.2≤dh s.1 d.1 <;> simp [h2,ac,aa]
def mL (d:bu):List bu→List bu
 | []=>[d]
 | y::r=>if aP d y then d::y::r else y::mL d r
theorem en (d:bu):∀ l,(mL d l).Perm (d::l)
 | []=>List.Perm.refl _
 | y::r=>by
  unfold mL
  split
  ·exact List.Perm.refl _
  ·exact ((en d r).cons y).trans (List.Perm.swap d y r)
theorem mw {d:bu}:∀ {l:List bu},l.Pairwise (fun a b=>aP a b=true)→d ∉ l→(mL d l).Pairwise (fun a b=>aP a b=true)
 | [],_,_=>List.pairwise_singleton _ _
 | y::r,h,hd=>by
  have h':=List.pairwise_cons.1 h
  unfold mL
  split
  ·rename_i hy
   refine List.pairwise_cons.2 ⟨fun z hz=>?_,h⟩
   rcases List.mem_cons.1 hz with rfl | hz
   ·exact hy
   ·exact cE.trans _ _ _ hy (h'.1 z hz)
  ·rename_i hy
   have hyd:aP y d=true:=by
    cases hh:aP y d with
    | true=>rfl
    | false=>exact absurd (by rw [dM y d hh (by simpa using hy)];exact List.mem_cons_self) hd
   refine List.pairwise_cons.2 ⟨fun z hz=>?_,mw h'.2 (fun hh=>hd (List.mem_cons_of_mem _ hh))⟩
   rcases List.mem_cons.1 ((en d r).mem_iff.1 hz) with rfl | hz
   ·exact hyd
   ·exact h'.1 z hz
theorem Bd {l:List bu} {d:bu} {p:Nat} {b:Bool} (hf:Ch l d p b) (hd:d ∉ l) (hs:l.Pairwise (fun a b=>aP a b=true)):eC l (p:Int) (d::[])=mL d l:=by
 have hlt:∀ t (h:t<l.length),p≤t→aP d l[t]=true:=fun t h hp=>by
  cases hh:aP d l[t] with
  | true=>rfl
  | false=>exact absurd (by rw [dM d l[t] hh (hf.2.2.1 t h hp)];exact List.getElem_mem h) hd
 have e:eC l (p:Int) (d::[])=l.take p++d::l.drop p:=rfl
 refine qD ?_ (mw hs hd) fun x=>?_
 ·rw [e]
  refine List.pairwise_append.2 ⟨hs.sublist (List.take_sublist _ _),List.pairwise_cons.2 ⟨fun z hz=>?_,hs.sublist (List.drop_sublist _ _)⟩,fun x hx y hy=>?_⟩
  ·obtain ⟨t,ht,rfl⟩:=List.getElem_of_mem hz
   rw [List.getElem_drop]
   exact hlt _ (by rw [List.length_drop] at ht;omega) (by omega)
  ·obtain ⟨t,ht,rfl⟩:=List.getElem_of_mem hx
   rw [List.getElem_take]
   have ht2:t<p∧t<l.length:=by rw [List.length_take] at ht;omega
   have h1:=hf.2.1 t ht2.2 ht2.1
   rcases List.mem_cons.1 hy with rfl | hy
   ·exact h1
   ·obtain ⟨u,hu,rfl⟩:=List.getElem_of_mem hy
    rw [List.getElem_drop]
    exact li hs ht2.2 (by rw [List.length_drop] at hu;omega) (by omega)
 ·rw [e,(en d l).mem_iff,List.mem_append,List.mem_cons,List.mem_cons]
  have:x ∈ l ↔ x ∈ l.take p∨x ∈ l.drop p:=by rw [← List.mem_append,List.take_append_drop]
  rw [this]
  exact ⟨fun h=>h.elim (fun h=>.inr (.inl h)) (fun h=>h.elim .inl (fun h=>.inr (.inr h))),fun h=>h.elim (fun h=>.inr (.inl h)) (fun h=>h.elim .inl (fun h=>.inr (.inr h)))⟩
def ee (s:dv) (d:bu):dv:=if rE s d=true∨aK d=false then s else mk s.1 (mL d s.2)
theorem sO {d:bu} {l:List bu} (hs:l.Pairwise (fun a b=>aP a b=true)) (hd:d ∉ l):(mL d l).Pairwise (fun a b=>aP b a=false):=(mw hs hd).imp gl
theorem kM {s:dv} (hs:Can s) (d:bu):Can (ee s d)∧(∀ x,m9 (ee s d) x ↔ m9 s x∨(aK d=true∧x=d))∧(ee s d).2.length≤s.2.length+1:=by
 unfold ee
 by_cases h:rE s d=true∨aK d=false
 ·rw [if_pos h]
  refine ⟨hs,fun x=>⟨.inl,fun hh=>hh.elim id fun ⟨h1,h2⟩=>?_⟩,by omega⟩
  subst h2
  rcases h with h | h
  ·exact (nq s x).1 h
  ·rw [h] at h1;cases h1
 ·rw [if_neg h]
  have h1:¬ m9 s d:=fun hm=>h (.inl ((nq s d).2 hm))
  have h2:aK d=true:=by cases hh:aK d with
   | true=>rfl
   | false=>exact absurd (.inr hh) h
  have hn:d ∉ s.2:=fun hd=>h1 ⟨h2,.inr hd⟩
  obtain ⟨q1,q2,q3,_⟩:=qJ hs.vok (mL d s.2) (fun e he=>by
   rcases List.mem_cons.1 ((en d s.2).mem_iff.1 he) with rfl | he
   ·exact h2
   ·exact hs.rt e he) (sO hs.srt hn)
  refine ⟨q1,fun x=>?_,by rw [(en d s.2).length_eq] at q3;simpa using q3⟩
  rw [q2,(en d s.2).mem_iff,List.mem_cons]
  constructor
  ·rintro ⟨a,b | b | b⟩
   ·exact .inl ⟨a,.inl b⟩
   ·exact .inr ⟨h2,b⟩
   ·exact .inl ⟨a,.inr b⟩
  ·rintro (⟨a,b⟩ | ⟨a,b⟩)
   ·exact ⟨a,b.imp id .inr⟩
   ·exact ⟨by rw [b];exact a,.inr (.inl b)⟩
theorem Fb (k:Nat) (s:dv) (d:bu) (h3:3≤k) (hl:s.2.length+1<k) (hk:k<1000000) (hs:Can s):z2T.f k s d=some (ee s d):=by
 rw [z2T.f_eq,dN,FI k s d h3 (by omega) hk hs]
 simp only [bnd]
 unfold ee
 cases h:aK d with
 | false=>simp [ai,ac]
 | true =>
  cases hm:rE s d with
  | true=>simp [ai,ac,aa]
  | false =>
   have hn:d ∉ s.2:=fun hd=>by
    have:=(nq s d).2 ⟨h,.inr hd⟩
    rw [hm] at this;cases this
   obtain ⟨p,b,hf,he⟩:=F2 k s.2 d h3 (by omega) hk hs.srt
   rw [he]
   dsimp only
   have e1:bm ([]:List Int) s.2=true:=by simp [bm];omega
   have e2:eE 0 (p:Int) (af s.2)=true:=by have:=hf.1;simp [eE,af];omega
   have hb0:ai true=false:=rfl
   rw [e1,e2,fX (by omega),Bd hf hn hs.srt,hb0]
   simp only [ac,aa]
   rw [tw k _ (by rw [(en d s.2).length_eq];simpa using hl) hk (fun e he=>by
    rcases List.mem_cons.1 ((en d s.2).mem_iff.1 he) with rfl | he
    ·exact h
    ·exact hs.rt e he) (sO hs.srt hn) _ hs.vok]
   simp
end Go.Proofs.YtfhcammihohmjaaGreatDoor
end
noncomputable section
/- What the document's functions of the layer of dots compute. -/
namespace Go.Proofs.YtfhcammihohmjaaGreatDoor
open Pal
theorem vE (k:Nat) (s:dv) (hl:s.2.length<1000000) (hr:∀ d ∈ s.2,aK d=true) (hs:s.2.Pairwise (fun a b=>aP a b=true)) (hv:VOk s.1) (za:iH) (zb:List bu):∀ (n i:Nat),i≤s.2.length→s.2.length<n+i →
  z0W.l3 k n (i:Int) s za zb (mk s.1 (s.2.take i)).1 (mk s.1 (s.2.take i)).2=some (mk s.1 s.2)
 | 0,i,h,h'=>by omega
 | n+1,i,h,h'=>by
  rw [z0W.l3_eq,aO,aQ,au]
  by_cases hi:i<s.2.length
  ·have hstep:mk s.1 (s.2.take (i+1))=mf (mk s.1 (s.2.take i)) s.2[i]:=by rw [sR hi];unfold mk;rw [List.foldl_append];rfl
   have hws:s.2.Pairwise (fun a b=>aP b a=false):=hs.imp gl
   obtain ⟨hc,hm,hml,hin⟩:=qJ hv (s.2.take i) (fun d hd=>hr d (List.mem_of_mem_take hd)) (hws.sublist (List.take_sublist i s.2))
   have ih:=vE k s hl hr hs hv za zb n (i+1) (by omega) (by omega)
   rw [hstep] at ih
   have hnl:(mk s.1 (s.2.take i)).2.getLast? ≠ some s.2[i]:=fun e=>by
    have h1:=hin _ (List.mem_of_getLast? e)
    obtain ⟨t,ht,he⟩:=List.getElem_of_mem h1
    have ht2:t<i:=by rw [List.length_take] at ht;omega
    rw [List.getElem_take] at he
    have:=li hs (by omega) hi ht2
    rw [he,cE.irrefl] at this;cases this
   generalize mk s.1 (s.2.take i)=t at hc hm hml ih hstep hin hnl ⊢
   obtain ⟨V,M⟩:=t
   obtain ⟨r0,r1,r2,r3⟩:=(bV s.2[i]).1 (hr _ (List.getElem_mem hi))
   rw [aT (e:=ah) hi,aB (by omega)]
   obtain ⟨d,hd⟩:∃ d:bu,d=s.2[i]:=⟨_,rfl⟩
   rw [← hd] at r0 r1 r2 r3 ih hnl ⊢
   have hvv:rd (.int .i64) V (aj d.1)=dh V d.1:=rfl
   have v0:0≤dh V d.1:=hc.vok.lo d.1 r0 r1
   have v1:dh V d.1≤1048576:=hc.vok.hi d.1 r0 r1
   have hML:M.length≤i:=by have:M.length≤(s.2.take i).length:=hml;rw [List.length_take] at this;omega
   simp only [hi,decide_true,ac,sk r0 r1,hvv,kW]
   rw [gu (by omega) (by omega) (by omega) (by omega),aW]
   unfold mf at ih
   by_cases h1:d.2≤dh V d.1
   ·rw [if_pos h1] at ih
    rw [decide_eq_false (show ¬ d.2=dh V d.1+1 by omega),decide_eq_false (show ¬ dh V d.1<d.2 by omega)]
    exact ih
   ·rw [if_neg h1] at ih
    by_cases h2:d.2=dh V d.1+1
    ·rw [if_pos h2] at ih
     rw [decide_eq_true h2];exact ih
    ·rw [if_neg h2,if_neg hnl] at ih
     rw [decide_eq_false h2,decide_eq_true (show dh V d.1<d.2 by omega),fX (by omega)]
     exact ih
  ·have:i=s.2.length:=by omega
   subst this
   simp only [List.take_length,Nat.lt_irrefl,decide_false,aa]
theorem AW (k:Nat) (s:dv) (hl:s.2.length<k) (hk:k<1000000) (hr:∀ d ∈ s.2,aK d=true) (hs:s.2.Pairwise (fun a b=>aP a b=true)) (hv:VOk s.1):z0W.f k s=some (mk s.1 s.2):=by
 rw [z0W.f_eq]
 exact vE k s (by omega) hr hs hv (aV 16 0) [] k 0 (by omega) (by omega)
theorem iQ (k:Nat) (a b:bu):z0Q.f k a b=some (dw a b):=by
 rw [z0Q.f_eq,z1R.f_eq,z1R.f_eq,aW,bB]
 have hI:∀ x y:Int,br (aq x y) (some (-1)) (br (aq y x) (some 1) (some 0))=some (gS x y):=fun x y=>by
  unfold gS
  by_cases h1:x<y
  ·simp [aq,h1,ac]
  ·by_cases h2:y<x <;> simp [aq,h1,h2,ac,aa]
 have hI':∀ x y:Int,bnd (br (aq x y) (some (-1)) (br (aq y x) (some 1) (some 0))) (fun r=>some r)=some (gS x y):=fun x y=>by rw [hI];rfl
 rw [hI',hI']
 unfold dw
 by_cases h:a.1=b.1
 ·rw [if_pos ((eB _ _).2 h)];simp [h,aa]
 ·rw [if_neg (fun e=>h ((eB _ _).1 e))];simp [h,ac]
theorem tg (k : Nat) (s : dv) (d : bu) (hl : s.2.length < 1000000) (za : iH) (zb : List bu) : ∀ (n i : Nat) (x : List bu) (b : Bool), i ≤ s.2.length → s.2.length < n + i → x.length ≤ i + b.toNat →
    z2C.l6 k n x b (i:Int) s d za zb=bnd (z0W.f k (s.1,x++if b then s.2.drop i else mL d (s.2.drop i))) fun r=>some r
  | 0,i,_,_,h,h',_=>by omega
  | n + 1, i, x, b, h, h', hx => by
    rw [z2C.l6_eq,aO,aQ,au]
    by_cases hi:i<s.2.length
    · rw [List.drop_eq_getElem_cons hi,aT (e:=ah) hi,aB (by omega),iQ]
      have hbn:b.toNat≤1:=by cases b <;> decide
      have hrm:∀ y:bu,bm x (y::[])=true:=fun y=>fX (by omega)
      have hrm2:∀ y z:bu,bm (app x (y::[])) (z::[])=true:=fun y z=>fX (by simp [app];omega)
      simp only [hi,decide_true,ac,ae,iP,hrm,hrm2]
      cases b with
      | true =>
        have hb:ai true=false:=rfl
        rw [hb]
        simp only [aa]
        rw [tg k s d hl za zb n (i+1) _ true (by omega) (by omega) (by simp [app] at hx ⊢;omega)]
        simp [app]
      | false =>
        have hb:ai false=true:=rfl
        rw [hb]
        simp only [ac,Bool.false_eq_true,if_false]
        unfold mL
        cases hc:aP d s.2[i] with
        | true =>
          simp only [ac,if_true]
          rw [tg k s d hl za zb n (i+1) _ true (by omega) (by omega) (by simp [app] at hx ⊢;omega)]
          simp [app]
        | false =>
          simp only [aa,Bool.false_eq_true,if_false]
          rw [tg k s d hl za zb n (i+1) _ false (by omega) (by omega) (by simp [app] at hx ⊢;omega)]
          simp [app]
    · rw [List.drop_of_length_le (by omega)]
      simp only [hi,decide_false,aa]
      cases b with
      | true => have hb : ai true = false := rfl
                rw [hb];simp [aa]
      | false => have hb : ai false = true := rfl
                 have hx':x.length≤i:=hx
                 rw [hb,fX (by omega)];simp [ac,mL,app]
theorem tT (k:Nat) (s:dv) (d:bu) (hl:s.2.length+1<k) (hk:k<1000000) (hs:Can s):z2C.f k s d=some (ee s d):=by
 rw [z2C.f_eq,dK,En k s d (by omega) hk hs.rt]
 simp only [ae]
 unfold ee
 cases h:aK d with
 | false=>simp [ai,ac]
 | true =>
  cases hm:rE s d with
  | true=>simp [ai,ac,aa]
  | false =>
   have hn:d ∉ s.2:=fun hd=>by
    have:=(nq s d).2 ⟨h,.inr hd⟩
    rw [hm] at this;cases this
   have hb0:ai true=false:=rfl
   rw [hb0]
   simp only [aa]
   have:=tg k s d (by omega) (aV 16 0) [] k 0 [] false (by omega) (by omega) (by simp)
   rw [show z2C.l6 k k [] false 0 s d (aV 16 0) []=_ from this]
   simp only [List.drop_zero,List.nil_append,Bool.false_eq_true,if_false]
   rw [AW k (s.1,mL d s.2) (by show (mL d s.2).length<k;rw [(en d s.2).length_eq];simpa using hl) hk (fun e he=>by
    rcases List.mem_cons.1 ((en d s.2).mem_iff.1 he) with rfl | he
    ·exact h
    ·exact hs.rt e he) (mw hs.srt hn) hs.vok]
   simp [bnd]
end Go.Proofs.YtfhcammihohmjaaGreatDoor
end
noncomputable section
/- The same, and right, among sets of dots. -/
namespace Go.Proofs.YtfhcammihohmjaaGreatDoor
open Pal
theorem EN (k:Nat) (xs ys:List bu) (hl:xs.length=ys.length) (hb:xs.length<1000000):∀ (n i:Nat),i≤xs.length→xs.length<n+i →
  z0e.l4 k n xs ys (af xs) (i:Int)=some (tK (fun x y=>decide (x=y)) (xs.drop i) (ys.drop i))
 | 0,i,h,h'=>by omega
 | n+1,i,h,h'=>by
  rw [z0e.l4_eq,aO,aQ,aQ,au]
  by_cases hi:i<xs.length
  ·have hi':i<ys.length:=by omega
   rw [rW hi hi',aT (e:=ah) hi,aT (e:=ah) hi',yc,bB,aB (by omega)]
   simp only [hi,hi',decide_true,ac]
   by_cases he:xs[i]=ys[i]
   ·simp only [he,not_true,decide_true,decide_false,aa,Bool.true_and]
    exact EN k xs ys hl hb n (i+1) (by omega) (by omega)
   ·simp only [he,not_false_eq_true,decide_false,decide_true,ac,Bool.false_and]
  ·rw [vL (by omega)]
   simp only [hi,decide_false,aa]
theorem H9 (k:Nat) (xs ys:List bu) (hb:xs.length<k) (hk:k<1000000):z0e.f k xs ys=some (decide (xs=ys)):=by
 rw [z0e.f_eq,mM,bB]
 by_cases hl:xs.length=ys.length
 ·simp only [hl,not_true,decide_false,aa]
  have:=EN k xs ys hl (by omega) k 0 (by omega) (by omega)
  simp only [List.drop_zero,ui xs ys hl] at this
  exact this
 ·have:xs ≠ ys:=fun e=>hl (by rw [e])
  simp only [hl,this,not_false_eq_true,decide_true,decide_false,ac]
theorem BG (k:Nat) (xs ys:List bu) (hl:xs.length=ys.length) (hb:xs.length<1000000):∀ (n i:Nat),i≤xs.length→xs.length<n+i →
  z1E.l4 k n xs ys (i:Int)=some (tK (fun x y=>decide (x=y)) (xs.drop i) (ys.drop i))
 | 0,i,h,h'=>by omega
 | n+1,i,h,h'=>by
  rw [z1E.l4_eq,aO,aQ,aQ,au]
  by_cases hi:i<xs.length
  ·have hi':i<ys.length:=by omega
   rw [rW hi hi',aT (e:=ah) hi,aT (e:=ah) hi',yc,bB,aB (by omega)]
   simp only [hi,hi',decide_true,ac]
   by_cases he:xs[i]=ys[i]
   ·simp only [he,not_true,decide_true,decide_false,aa,Bool.true_and]
    exact BG k xs ys hl hb n (i+1) (by omega) (by omega)
   ·simp only [he,not_false_eq_true,decide_false,decide_true,ac,Bool.false_and]
  ·rw [vL (by omega)]
   simp only [hi,decide_false,aa]
theorem GB (k:Nat) (xs ys:List bu) (hb:xs.length<k) (hk:k<1000000):z1E.f k xs ys=some (decide (xs=ys)):=by
 rw [z1E.f_eq,mM,bB]
 by_cases hl:xs.length=ys.length
 ·simp only [hl,not_true,decide_false,aa]
  have:=BG k xs ys hl (by omega) k 0 (by omega) (by omega)
  simp only [List.drop_zero,ui xs ys hl] at this
  exact this
 ·have:xs ≠ ys:=fun e=>hl (by rw [e])
  simp only [hl,this,not_false_eq_true,decide_true,decide_false,ac]
theorem Gx (a b:iH):eQ bc a b=decide (a=b):=by
 have h:=lp bc rfl a b
 by_cases he:a=b
 ·rw [decide_eq_true he];exact h.2 he
 ·rw [decide_eq_false he,← Bool.not_eq_true,h];exact he
theorem ED (k:Nat) (s t:dv) (hb:s.2.length<k) (hk:k<1000000):z2I.f k s t=some (decide (s=t)):=by
 rw [z2I.f_eq,Gx,H9 k _ _ hb hk]
 obtain ⟨a,b⟩:=s
 obtain ⟨c,d⟩:=t
 by_cases h1:a=c <;> by_cases h2:b=d <;> simp [h1,h2,ac,aa,bnd]
theorem pE (k:Nat) (s t:dv) (hb:s.2.length<k) (hk:k<1000000):z1Z.f k s t=some (decide (s=t)):=by
 rw [z1Z.f_eq,Gx,GB k _ _ hb hk]
 obtain ⟨a,b⟩:=s
 obtain ⟨c,d⟩:=t
 by_cases h1:a=c <;> by_cases h2:b=d <;> simp [h1,h2,ac,aa,bnd]
def GM (v:iH) (r:Int):Prop:=0≤dh v r∧dh v r≤1048576
theorem EP (k:Nat) (v:iH):∀ (n i:Nat),i≤16→16<n+i→∃ b,z18.l2 k n (i:Int) v=some b∧(b=true ↔ ∀ r:Nat,i≤r→r<16→GM v r)
 | 0,i,h,h'=>by omega
 | n+1,i,h,h'=>by
  rw [z18.l2_eq,au]
  have e1:aq (i:Int) 16=decide (i<16):=bA i 16
  rw [e1,dS]
  by_cases hi:i<16
  ·have hv:rd (.int .i64) v i=dh v (i:Int):=rfl
   rw [hv,aB (by omega),kW,kW]
   simp only [hi,decide_true,ac]
   by_cases h1:dh v (i:Int)<0
   ·simp only [h1,decide_true,ac]
    exact ⟨false,rfl,⟨fun h=>(by cases h),fun h=>by have:=(h i (Nat.le_refl _) hi).1;omega⟩⟩
   ·simp only [h1,decide_false,aa]
    by_cases h2:1048576<dh v (i:Int)
    ·simp only [h2,decide_true,ac]
     exact ⟨false,rfl,⟨fun h=>(by cases h),fun h=>by have:=(h i (Nat.le_refl _) hi).2;omega⟩⟩
    ·simp only [h2,decide_false,aa]
     obtain ⟨b,hb,hbi⟩:=EP k v n (i+1) (by omega) (by omega)
     refine ⟨b,hb,hbi.trans ⟨fun h r hr hr2=>?_,fun h r hr hr2=>h r (by omega) hr2⟩⟩
     by_cases he:r=i
     ·subst he;exact ⟨by omega,by omega⟩
     ·exact h r (by omega) hr2
  ·simp only [hi,decide_false,aa]
   exact ⟨true,rfl,⟨fun _ r hr hr2=>by omega,fun _=>rfl⟩⟩
theorem zq {v:iH} (hl:v.length=16):VOk v ↔ ∀ r:Nat,0≤r→r<16→GM v r:=by
 constructor
 ·intro h r _ hr;exact ⟨h.lo r (by omega) (by omega),h.hi r (by omega) (by omega)⟩
 ·intro h
  refine ⟨hl,fun r h0 h1=>?_,fun r h0 h1=>?_⟩
  ·obtain ⟨a,rfl⟩:=Int.eq_ofNat_of_zero_le h0;exact (h a (by omega) (by omega)).1
  ·obtain ⟨a,rfl⟩:=Int.eq_ofNat_of_zero_le h0;exact (h a (by omega) (by omega)).2
theorem FH (k:Nat) (v:iH) (hl:v.length=16) (hk:17<k):∃ b,z18.f k v=some b∧(b=true ↔ VOk v):=by
 rw [z18.f_eq,zq hl]
 exact EP k v k 0 (by omega) (by omega)
theorem GC (k:Nat) (v:iH):∀ (n i:Nat),i≤16→16<n+i→∃ b,z2j.l2 k n v (i:Int)=some b∧(b=true ↔ ∀ r:Nat,i≤r→r<16→GM v r)
 | 0,i,h,h'=>by omega
 | n+1,i,h,h'=>by
  rw [z2j.l2_eq,au]
  have e1:aq (i:Int) 16=decide (i<16):=bA i 16
  rw [e1,dS]
  by_cases hi:i<16
  ·have hv:rd (.int .i64) v i=dh v (i:Int):=rfl
   rw [hv,aB (by omega),kW,kW]
   simp only [hi,decide_true,ac]
   by_cases h1:dh v (i:Int)<0
   ·simp only [h1,decide_true,ac]
    exact ⟨false,rfl,⟨fun h=>(by cases h),fun h=>by have:=(h i (Nat.le_refl _) hi).1;omega⟩⟩
   ·simp only [h1,decide_false,aa]
    by_cases h2:1048576<dh v (i:Int)
    ·simp only [h2,decide_true,ac]
     exact ⟨false,rfl,⟨fun h=>(by cases h),fun h=>by have:=(h i (Nat.le_refl _) hi).2;omega⟩⟩
    ·simp only [h2,decide_false,aa]
     obtain ⟨b,hb,hbi⟩:=GC k v n (i+1) (by omega) (by omega)
     refine ⟨b,hb,hbi.trans ⟨fun h r hr hr2=>?_,fun h r hr hr2=>h r (by omega) hr2⟩⟩
     by_cases he:r=i
     ·subst he;exact ⟨by omega,by omega⟩
     ·exact h r (by omega) hr2
  ·simp only [hi,decide_false,aa]
   exact ⟨true,rfl,⟨fun _ r hr hr2=>by omega,fun _=>rfl⟩⟩
theorem EZ (k:Nat) (v:iH) (hl:v.length=16) (hk:17<k):∃ b,z2j.f k v=some b∧(b=true ↔ VOk v):=by
 rw [z2j.f_eq,zq hl]
 exact GC k v k 0 (by omega) (by omega)
def BO (s:dv) (j:Nat) (h:j<s.2.length):Prop:=aK s.2[j]=true∧dh s.1 s.2[j].1+1<s.2[j].2∧(∀ h0:0<j,aP (s.2[j - 1]'(by omega)) s.2[j]=true)
theorem oM {s:dv} (hv:VOk s.1):Can s ↔ ∀ j (h:j<s.2.length),0≤j→BO s j h:=by
 constructor
 ·intro hs j h _
  exact ⟨hs.rt _ (List.getElem_mem h),hs.gap _ (List.getElem_mem h),fun h0=>li hs.srt (by omega) h (by omega)⟩
 ·intro h
  refine ⟨hv,fun d hd=>?_,fun d hd=>?_,?_⟩
  ·obtain ⟨j,hj,rfl⟩:=List.getElem_of_mem hd;exact (h j hj (Nat.zero_le _)).1
  ·obtain ⟨j,hj,rfl⟩:=List.getElem_of_mem hd;exact (h j hj (Nat.zero_le _)).2.1
  ·have key:∀ t i (hi:i<s.2.length) (hj:i+1+t<s.2.length),aP s.2[i] s.2[i+1+t]=true:=by
    intro t
    induction t with
    | zero=>intro i hi hj;exact (h (i+1) hj (Nat.zero_le _)).2.2 (by omega)
    | succ t ih =>
     intro i hi hj
     have h1:=ih i hi (by omega)
     have h2:=(h (i+1+(t+1)) hj (Nat.zero_le _)).2.2 (by omega)
     exact cE.trans _ _ _ h1 h2
   rw [List.pairwise_iff_getElem]
   intro i j hi hj hij
   have:=key (j - i - 1) i hi (by omega)
   have e:i+1+(j - i - 1)=j:=by omega
   simp only [e] at this;exact this
theorem y4 (a b:bu):ai (az (dw a b) (-1))=!aP a b:=by
 have h1:∀ x y:Int,gS x y=-1∨gS x y=0∨gS x y=1:=fun x y=>by unfold gS;split <;> (try split) <;> simp
 have h:dw a b=-1∨dw a b=0∨dw a b=1:=by unfold dw;split <;> exact h1 _ _
 show ai (az (dw a b) (-1))=!decide (dw a b<0)
 rcases h with h | h | h <;> rw [h] <;> rfl
theorem G6 (k:Nat) (s:dv) (hl:s.2.length<1000000) (hv:VOk s.1):∀ (n i:Nat),i≤s.2.length→s.2.length<n+i→∃ b,z1e.l4 k n (i:Int) s=some b∧(b=true ↔ ∀ j (h:j<s.2.length),i≤j→BO s j h)
 | 0,i,h,h'=>by omega
 | n+1,i,h,h'=>by
  rw [z1e.l4_eq,aO,aQ,au]
  by_cases hi:i<s.2.length
  ·rw [aT (e:=ah) hi,dK,aB (by omega)]
   simp only [hi,decide_true,ac,ae]
   cases hr:aK s.2[i] with
   | false =>
    have e:ai false=true:=rfl
    rw [e]
    exact ⟨false,rfl,⟨fun h=>(by cases h),fun h=>by rw [(h i hi (Nat.le_refl _)).1] at hr;cases hr⟩⟩
   | true =>
    have e:ai true=false:=rfl
    obtain ⟨r0,r1,r2,r3⟩:=(bV s.2[i]).1 hr
    have hvv:rd (.int .i64) s.1 (aj s.2[i].1)=dh s.1 s.2[i].1:=rfl
    rw [e,sk r0 r1,hvv,dx (by omega) (by omega) (by omega) (by omega),jK]
    simp only [ac,aa]
    by_cases hg:s.2[i].2 - 1≤dh s.1 s.2[i].1
    ·simp only [hg,decide_true,ac]
     exact ⟨false,rfl,⟨fun h=>(by cases h),fun h=>by have:=(h i hi (Nat.le_refl _)).2.1;omega⟩⟩
    ·simp only [hg,decide_false,aa]
     obtain ⟨b,hb,hbi⟩:=G6 k s hl hv n (i+1) (by omega) (by omega)
     have step:(∀ h0:0<i,aP (s.2[i - 1]'(by omega)) s.2[i]=true)→(b=true ↔ ∀ j (h:j<s.2.length),i≤j→BO s j h):=fun hlt=>hbi.trans ⟨fun h j hj hij=>by
      by_cases he:j=i
      ·subst he;exact ⟨hr,by omega,hlt⟩
      ·exact h j hj (by omega),fun h j hj hij=>h j hj (by omega)⟩
     by_cases h0:0<i
     ·have e2:aq 0 (i:Int)=true:=by simp [aq];omega
      have e3:bw .i64 (i:Int) 1=((i - 1:Nat):Int):=by rw [dx (by omega) (by omega) (by omega) (by omega)];omega
      have hi1:i - 1<s.2.length:=by omega
      rw [e2,e3,aQ,au,aT (e:=ah) hi1,iQ]
      simp only [hi1,decide_true,ac,ae,y4]
      cases hc:aP s.2[i - 1] s.2[i] with
      | true=>exact ⟨b,hb,step fun _=>hc⟩
      | false=>exact ⟨false,rfl,⟨fun h=>(by cases h),fun h=>by have:=(h i hi (Nat.le_refl _)).2.2 h0;rw [hc] at this;cases this⟩⟩
     ·have e2:aq 0 (i:Int)=false:=by simp [aq];omega
      rw [e2]
      exact ⟨b,hb,step fun h=>absurd h h0⟩
  ·simp only [hi,decide_false,aa]
   exact ⟨true,rfl,⟨fun _ j hj hij=>by omega,fun _=>rfl⟩⟩
theorem F3 (k:Nat) (s:dv) (hl:s.1.length=16) (hk:5000<k) (hk2:k<1000000):∃ b,z1e.f k s=some b∧(b=true ↔ Can s∧s.2.length≤4096):=by
 obtain ⟨b,hb,hbi⟩:=FH k s.1 hl (by omega)
 rw [z1e.f_eq,hb]
 simp only [ae]
 cases b with
 | false=>exact ⟨false,rfl,⟨fun h=>(by cases h),fun h=>hbi.2 h.1.vok⟩⟩
 | true =>
  have hv:=hbi.1 rfl
  have e:ai true=false:=rfl
  have e2:aq 4096 (af s.2)=decide (4096<s.2.length):=aO 4096 s.2
  rw [e,e2]
  simp only [aa]
  by_cases h:4096<s.2.length
  ·simp only [h,decide_true,ac]
   exact ⟨false,rfl,⟨fun h=>(by cases h),fun h=>by omega⟩⟩
  ·simp only [h,decide_false,aa]
   obtain ⟨b,hb,hbi⟩:=G6 k s (by omega) hv k 0 (by omega) (by omega)
   exact ⟨b,hb,hbi.trans ⟨fun h2=>⟨(oM hv).2 h2,by omega⟩,fun h2=>(oM hv).1 h2.1⟩⟩
end Go.Proofs.YtfhcammihohmjaaGreatDoor
end
noncomputable section
/- Whether a set is right, how many dots there are, and the next one's cW. -/
namespace Go.Proofs.YtfhcammihohmjaaGreatDoor
open Pal
theorem GE (k:Nat) (s:dv) (hl:s.2.length<1000000) (hv:VOk s.1):∀ (n i:Nat),i≤s.2.length→s.2.length<n+i→∃ b,z2e.l4 (k+3) n s.2 (af s.2) (i:Int) s=some b∧(b=true ↔ ∀ j (h:j<s.2.length),i≤j→BO s j h)
 | 0,i,h,h'=>by omega
 | n+1,i,h,h'=>by
  rw [z2e.l4_eq,aO,aQ,au]
  by_cases hi:i<s.2.length
  ·rw [aT (e:=ah) hi,dN,aB (by omega)]
   simp only [hi,decide_true,ac,ae]
   cases hr:aK s.2[i] with
   | false =>
    have e:ai false=true:=rfl
    rw [e]
    exact ⟨false,rfl,⟨fun h=>(by cases h),fun h=>by rw [(h i hi (Nat.le_refl _)).1] at hr;cases hr⟩⟩
   | true =>
    have e:ai true=false:=rfl
    obtain ⟨r0,r1,r2,r3⟩:=(bV s.2[i]).1 hr
    have hvv:rd (.int .i64) s.1 (aj s.2[i].1)=dh s.1 s.2[i].1:=rfl
    have v0:=hv.lo s.2[i].1 r0 r1
    have v1:=hv.hi s.2[i].1 r0 r1
    rw [e,sk r0 r1,hvv,gu (by omega) (by omega) (by omega) (by omega),jK]
    simp only [ac,aa]
    by_cases hg:s.2[i].2≤dh s.1 s.2[i].1+1
    ·simp only [hg,decide_true,ac]
     exact ⟨false,rfl,⟨fun h=>(by cases h),fun h=>by have:=(h i hi (Nat.le_refl _)).2.1;omega⟩⟩
    ·simp only [hg,decide_false,aa]
     obtain ⟨b,hb,hbi⟩:=GE k s hl hv n (i+1) (by omega) (by omega)
     have step:(∀ h0:0<i,aP (s.2[i - 1]'(by omega)) s.2[i]=true)→(b=true ↔ ∀ j (h:j<s.2.length),i≤j→BO s j h):=fun hlt=>hbi.trans ⟨fun h j hj hij=>by
      by_cases he:j=i
      ·subst he;exact ⟨hr,by omega,hlt⟩
      ·exact h j hj (by omega),fun h j hj hij=>h j hj (by omega)⟩
     by_cases h0:0<i
     ·have e2:aq 0 (i:Int)=true:=by simp [aq];omega
      have e3:bw .i64 (i:Int) 1=((i - 1:Nat):Int):=by rw [dx (by omega) (by omega) (by omega) (by omega)];omega
      have hi1:i - 1<s.2.length:=by omega
      have e4:∀ a b:bu,bM 0 (dw a b)=!aP a b:=fun a b=>by
       show decide (0≤dw a b)=!decide (dw a b<0)
       by_cases h:dw a b<0
       ·rw [decide_eq_true h,decide_eq_false (by omega)];rfl
       ·rw [decide_eq_false h,decide_eq_true (by omega)];rfl
      rw [e2,e3,aQ,au,aT (e:=ah) hi1,fJ]
      simp only [hi1,decide_true,ac,ae,e4]
      cases hc:aP s.2[i - 1] s.2[i] with
      | true=>exact ⟨b,hb,step fun _=>hc⟩
      | false=>exact ⟨false,rfl,⟨fun h=>(by cases h),fun h=>by have:=(h i hi (Nat.le_refl _)).2.2 h0;rw [hc] at this;cases this⟩⟩
     ·have e2:aq 0 (i:Int)=false:=by simp [aq];omega
      rw [e2]
      exact ⟨b,hb,step fun h=>absurd h h0⟩
  ·simp only [hi,decide_false,aa]
   exact ⟨true,rfl,⟨fun _ j hj hij=>by omega,fun _=>rfl⟩⟩
theorem Cn (k:Nat) (s:dv) (hl:s.1.length=16) (hk:5000<k) (hk2:k<1000000):∃ b,z2e.f k s=some b∧(b=true ↔ Can s∧s.2.length≤4096):=by
 obtain ⟨b,hb,hbi⟩:=EZ k s.1 hl (by omega)
 rw [z2e.f_eq,hb]
 simp only [ae]
 cases b with
 | false=>exact ⟨false,rfl,⟨fun h=>(by cases h),fun h=>hbi.2 h.1.vok⟩⟩
 | true =>
  have hv:=hbi.1 rfl
  have e:ai true=false:=rfl
  have e2:aq 4096 (af s.2)=decide (4096<s.2.length):=aO 4096 s.2
  rw [e,e2]
  simp only [aa]
  by_cases h:4096<s.2.length
  ·simp only [h,decide_true,ac]
   exact ⟨false,rfl,⟨fun h=>(by cases h),fun h=>by omega⟩⟩
  ·simp only [h,decide_false,aa]
   obtain ⟨q,rfl⟩:∃ q,k=q+3:=⟨k - 3,by omega⟩
   obtain ⟨b,hb,hbi⟩:=GE q s (by omega) hv (q+3) 0 (by omega) (by omega)
   exact ⟨b,hb,hbi.trans ⟨fun h2=>⟨(oM hv).2 h2,by omega⟩,fun h2=>(oM hv).1 h2.1⟩⟩
end Go.Proofs.YtfhcammihohmjaaGreatDoor
end
noncomputable section
/- Unions, and what is within what. -/
namespace Go.Proofs.YtfhcammihohmjaaGreatDoor
open Pal
def u7 (v u:iH):iH:=(List.range 16).map fun (i:Nat)=>max (dh v (i:Int)) (dh u (i:Int))
theorem pS (v u:iH):(u7 v u).length=16:=by simp [u7]
theorem kQ (v u:iH) (r:Int) (h0:0≤r) (h1:r<16):dh (u7 v u) r=max (dh v r) (dh u r):=by
 obtain ⟨a,rfl⟩:=Int.eq_ofNat_of_zero_le h0
 rw [iO (by rw [pS];omega)]
 simp [u7]
theorem zg {v u:iH} (hv:VOk v) (hu:VOk u):VOk (u7 v u) :=
 ⟨pS v u,fun r h0 h1=>by rw [kQ v u r h0 h1];have:=hv.lo r h0 h1;omega,fun r h0 h1=>by rw [kQ v u r h0 h1];have:=hv.hi r h0 h1;have:=hu.hi r h0 h1;omega⟩
def Dy (v u m:iH) (i:Nat):Prop:=m.length=16∧∀ r:Int,0≤r→r<16→dh m r=if r<(i:Int) then max (dh v r) (dh u r) else dh v r
theorem Bf {v u m:iH} (h:Dy v u m 16):m=u7 v u:=zA h.1 (pS v u) fun r h0 h1=>by rw [h.2 r h0 h1,if_pos (by omega),kQ v u r h0 h1]
theorem AY {v u m:iH} {i:Nat} {x:Int} (h:Dy v u m i) (hi:i<16) (hx:x=max (dh v (i:Int)) (dh u (i:Int))):Dy v u (ja m i x) (i+1):=by
 refine ⟨by simp [ja,h.1],fun r h0 h1=>?_⟩
 have:=zm (v:=m) (r:=(i:Int)) (x:=x) (by omega) (by rw [h.1];omega) r h0
 rw [au] at this
 rw [this]
 by_cases e:r=(i:Int)
 ·rw [if_pos e,if_pos (by omega),hx,e]
 ·rw [if_neg e,h.2 r h0 h1]
  by_cases e2:r<(i:Int)
  ·rw [if_pos e2,if_pos (by omega)]
  ·rw [if_neg e2,if_neg (by omega)]
theorem zu (a b:Int):jk a b=max a b:=by unfold jk;split <;> omega
theorem Cy (k:Nat) (v u za:iH):∀ (n i:Nat) (m:iH),i≤16→16<n+i→Dy v u m i→z0i.l2 k n (i:Int) m u za=some (u7 v u)
 | 0,i,_,h,h',_=>by omega
 | n+1,i,m,h,h',hm=>by
  rw [z0i.l2_eq,au]
  have e1:aq (i:Int) 16=decide (i<16):=bA i 16
  rw [e1,dS]
  by_cases hi:i<16
  ·have h1:rd (.int .i64) m i=dh m (i:Int):=rfl
   have h2:rd (.int .i64) u i=dh u (i:Int):=rfl
   have h3:dh m (i:Int)=dh v (i:Int):=by rw [hm.2 i (by omega) (by omega),if_neg (by omega)]
   rw [h1,h2,h3,z1C.f_eq,zu,aB (by omega)]
   simp only [hi,decide_true,ac,ae]
   exact Cy k v u za n (i+1) _ (by omega) (by omega) (AY hm hi rfl)
  ·have:i=16:=by omega
   subst this
   simp only [Nat.lt_irrefl,decide_false,aa]
   rw [Bf hm]
theorem Ej (k:Nat) (v u:iH) (hv:v.length=16) (hk:17<k):z2M.f k v u=some (u7 v u):=by
 rw [z2M.f_eq,z0i.f_eq]
 have:=Cy k v u (aV 16 0) k 0 v (by omega) (by omega) ⟨hv,fun r h0 _=>by rw [if_neg (by omega)]⟩
 rw [show z0i.l2 k k 0 v u (aV 16 0)=_ from this];rfl
def jo (s t:dv):dv:=mk (u7 s.1 t.1) (fH aP (s.2++t.2))
theorem jt {s t:dv} (hs:Can s) (ht:Can t):Can (jo s t)∧(∀ x,m9 (jo s t) x ↔ m9 s x∨m9 t x)∧(jo s t).2.length≤s.2.length+t.2.length:=by
 have hmem:∀ d,d ∈ fH aP (s.2++t.2) ↔ d ∈ s.2∨d ∈ t.2:=fun d=>by rw [(dH aP _).mem_iff,List.mem_append]
 obtain ⟨h1,h2,h3,_⟩:=qJ (zg hs.vok ht.vok) (fH aP (s.2++t.2)) (fun d hd=>((hmem d).1 hd).elim (hs.rt d) (ht.rt d)) (eS cE _)
 refine ⟨h1,fun x=>?_,?_⟩
 ·rw [show m9 (jo s t) x ↔ _ from h2 x,hmem]
  constructor
  ·rintro ⟨a,b | b | b⟩
   ·obtain ⟨q0,q1,_,_⟩:=(bV x).1 a
    rw [kQ _ _ x.1 q0 q1] at b
    rcases (by omega:x.2≤dh s.1 x.1∨x.2≤dh t.1 x.1) with h | h
    ·exact .inl ⟨a,.inl h⟩
    ·exact .inr ⟨a,.inl h⟩
   ·exact .inl ⟨a,.inr b⟩
   ·exact .inr ⟨a,.inr b⟩
  ·rintro (⟨a,b⟩ | ⟨a,b⟩)
   ·obtain ⟨q0,q1,_,_⟩:=(bV x).1 a
    refine ⟨a,b.imp (fun h=>?_) .inl⟩
    rw [kQ _ _ x.1 q0 q1];omega
   ·obtain ⟨q0,q1,_,_⟩:=(bV x).1 a
    refine ⟨a,b.imp (fun h=>?_) .inr⟩
    rw [kQ _ _ x.1 q0 q1];omega
 ·refine Nat.le_trans h3 ?_
  rw [(dH aP _).length_eq,List.length_append];exact Nat.le_refl _
theorem Av (k:Nat) (a b:List bu) (ha:a.length≤1000000) (hb:b.length≤1000000) (hk:3≤k):z0d.f k (a::(b::[]))=some (a++b):=by
 obtain ⟨q,rfl⟩:∃ q,k=q+1+1+1:=⟨k - 3,by omega⟩
 rw [z0d.f_eq,z0d.l3_eq,z0d.l3_eq,z0d.l3_eq]
 rw [z0d.l11_eq,z0d.l11_eq,z0d.l11_eq]
 have i1:aH .i64 0 1=1:=rfl
 have i2:aH .i64 1 1=2:=rfl
 have l2:af (a::(b::[]))=2:=rfl
 have r0:rd (.slc ah) (a::(b::[])) (aj 0)=a:=rfl
 have r1:rd (.slc ah) (a::(b::[])) (aj 1)=b:=rfl
 have n0:bO 0 (a::(b::[]))=true:=rfl
 have n1:bO 1 (a::(b::[]))=true:=rfl
 have t0:aq 0 2=true:=rfl
 have t1:aq 1 2=true:=rfl
 have t2:aq 2 2=false:=rfl
 have s0:aH .i64 0 (af a)=af a:=by rw [gu (by omega) (by omega) (by unfold af;omega) (by unfold af;omega),Int.zero_add]
 have s1:aH .i64 (af a) (af b)=af a+af b:=gu (by unfold af;omega) (by unfold af;omega) (by unfold af;omega) (by unfold af;omega)
 have g0:aq (af a) 0=false:=decide_eq_false (by unfold af;omega)
 have g1:aq (af a+af b) 0=false:=decide_eq_false (by unfold af;omega)
 have g2:aq 4294967296 (af a+af b)=false:=decide_eq_false (by unfold af;omega)
 have m0:bm ([]:List Int) ([]:List Int)=true:=rfl
 have m1:bm ([]:List bu) a=true:=decide_eq_true (by show 0+a.length≤4294967296;omega)
 have m2:bm (app ([]:List bu) a) b=true:=decide_eq_true (by show a.length+b.length≤4294967296;omega)
 rw [i1,l2,i2,r0,r1,n0,n1,t0,t1,t2,s0,s1,g0,g1,g2,m0,m1,m2]
 simp only [ac,aa,app,List.nil_append]
theorem Bg (k:Nat) (s t:dv) (hs:Can s) (ht:Can t) (hl:s.2.length+t.2.length<k) (h17:17<k) (hk:k<1000000):z28.f k s t=some (jo s t):=by
 have hmem:∀ d,d ∈ fH aP (s.2++t.2) ↔ d ∈ s.2∨d ∈ t.2:=fun d=>by rw [(dH aP _).mem_iff,List.mem_append]
 rw [z28.f_eq,Av k _ _ (by omega) (by omega) (by omega)]
 simp only [ae]
 have e:bm ([]:List Int) (s.2++t.2)=true:=by simp [bm];omega
 rw [e,Ej k _ _ hs.vok.len h17]
 simp only [ac,ae]
 rw [tw k _ (by rw [(dH aP _).length_eq,List.length_append];exact hl) hk (fun d hd=>((hmem d).1 hd).elim (hs.rt d) (ht.rt d)) (eS cE _) _ (zg hs.vok ht.vok)]
 rfl
theorem wb:∀ (l:List bu) (s:dv),Can s→(∀ d ∈ l,aK d=true)→Can (l.foldl ee s)∧(∀ x,m9 (l.foldl ee s) x ↔ m9 s x∨x ∈ l)∧(l.foldl ee s).2.length≤s.2.length+l.length
 | [],s,hs,_=>⟨hs,fun x=>by simp,Nat.le_refl _⟩
 | d::l,s,hs,hr=>by
  obtain ⟨a,b,c⟩:=kM hs d
  obtain ⟨p,q,r⟩:=wb l (ee s d) a (fun e he=>hr e (List.mem_cons_of_mem _ he))
  refine ⟨p,fun x=>?_,by simp only [List.length_cons];show ((d::l).foldl ee s).2.length≤_;simp only [List.foldl_cons];omega⟩
  show m9 (l.foldl ee (ee s d)) x ↔ _
  rw [q,b,List.mem_cons]
  have hd:=hr d (by simp)
  constructor
  ·rintro ((h | ⟨_,h⟩) | h)
   ·exact .inl h
   ·exact .inr (.inl h)
   ·exact .inr (.inr h)
  ·rintro (h | h | h)
   ·exact .inl (.inl h)
   ·exact .inl (.inr ⟨hd,h⟩)
   ·exact .inr h
end Go.Proofs.YtfhcammihohmjaaGreatDoor
end
noncomputable section
/- Readers: the program's and the document's read the same. -/
namespace Go.Proofs.YtfhcammihohmjaaGreatDoor
open Pal
abbrev EC:=List UInt8 × Int
abbrev um:=List UInt8 × (Int × Int)
structure RR (S:List UInt8) (r:EC) (x:um):Prop where
 src:x.1=S
 lo:0≤x.2.1
 hi:x.2.1≤(S.length:Int)
 bad:r.2=x.2.2
 rest:x.2.2=0→r.1=S.drop x.2.1.toNat
theorem fl (k:Nat) (o:EC):z0q.f k o=some (decide (o.2=0),o):=by rw [z0q.f_eq,aW]
theorem fN (k:Nat) (e:Int) (o:EC):z0r.f k e o=some ((),if o.2=0 then (o.1,e) else o):=by
 rw [z0r.f_eq,fl]
 simp only [ae,cT]
 split <;> rfl
theorem EK (b:UInt8):b.toNat<256:=b.toNat_lt
theorem uS (S:List UInt8) (a i:Nat):bd (S.drop a) (i:Int)=bd S ((a+i:Nat):Int):=by
 unfold bd
 rw [Int.toNat_natCast,Int.toNat_natCast]
 simp [List.getD]
theorem yi (S:List UInt8) (i:Int):0≤bd S i∧bd S i<256:=by
 unfold bd
 have:=EK (S.getD i.toNat 0);omega
theorem cU {n:Int} (h1:-9000000000000000000≤n) (h2:n≤9000000000000000000):IntKind.wrap .i64 n=n:=by
 have e1:((2:Int) ^ 63)=9223372036854775808:=by decide
 exact wrap_i64 (by rw [e1];omega) (by rw [e1];omega)
theorem DW {c:Nat} (h:c<9000000000000000000):jL .i64 (c:Int) 127=((c % 128:Nat):Int):=by
 show IntKind.wrap .i64 (((BitVec.ofInt 64 (c:Int) &&& BitVec.ofInt 64 127).toNat:Nat):Int)=_
 have e:(BitVec.ofInt 64 (c:Int) &&& BitVec.ofInt 64 127).toNat=c % 128:=by
  have e1:BitVec.ofInt 64 (c:Int)=BitVec.ofNat 64 c:=by simp
  have e2:BitVec.ofInt 64 127=BitVec.ofNat 64 127:=by decide
  rw [e1,e2,BitVec.toNat_and,BitVec.toNat_ofNat,BitVec.toNat_ofNat,Nat.mod_eq_of_lt (show c<2 ^ 64 by omega),show 127 % 2 ^ 64=2 ^ 7 - 1 by decide,Nat.and_two_pow_sub_one_eq_mod]
 rw [e,cU (by omega) (by omega)]
theorem Dw {a b m:Nat} (ha:a<2 ^ m) (hb:2 ^ m * b+a<9000000000000000000):FL .i64 (a:Int) ((2 ^ m * b:Nat):Int)=((2 ^ m * b+a:Nat):Int):=by
 show IntKind.wrap .i64 (((BitVec.ofInt 64 (a:Int) ||| BitVec.ofInt 64 ((2 ^ m * b:Nat):Int)).toNat:Nat):Int)=_
 have e:(BitVec.ofInt 64 (a:Int) ||| BitVec.ofInt 64 ((2 ^ m * b:Nat):Int)).toNat=2 ^ m * b+a:=by
  have e1:∀ c:Nat,BitVec.ofInt 64 (c:Int)=BitVec.ofNat 64 c:=fun c=>by simp
  rw [e1,e1,BitVec.toNat_or,BitVec.toNat_ofNat,BitVec.toNat_ofNat,Nat.mod_eq_of_lt (show a<2 ^ 64 by omega),Nat.mod_eq_of_lt (show 2 ^ m * b<2 ^ 64 by omega),Nat.or_comm,Nat.two_pow_add_eq_or_of_lt ha]
 rw [e,cU (by omega) (by omega)]
theorem vM {i:Nat} (h:i≤8):2 ^ (7 * i)≤72057594037927936:=by
 have:2 ^ (7 * i)≤2 ^ 56:=Nat.pow_le_pow_right (by decide) (by omega)
 exact this
theorem kS {i:Nat} (h:i<8):2 ^ (7 * i)≤562949953421312:=by
 have:2 ^ (7 * i)≤2 ^ 49:=Nat.pow_le_pow_right (by decide) (by omega)
 exact this
theorem qL {i c n:Nat} (hi:i<8) (hc:c<256) (hn:n<2 ^ (7 * i)) :
  FL .i64 (n:Int) (xp .i64 (jL .i64 (c:Int) 127) (gB .i64 7 (i:Int)))=((2 ^ (7 * i) * (c % 128)+n:Nat):Int)∧2 ^ (7 * i) * (c % 128)+n<2 ^ (7 * (i+1)):=by
 have hp:=kS hi
 have hp1:=vM (show i+1≤8 by omega)
 have e7:2 ^ (7 * (i+1))=2 ^ (7 * i) * 128:=by rw [show 7 * (i+1)=7 * i+7 by omega,Nat.pow_add]
 have hm:c % 128≤127:=by omega
 have hmul:2 ^ (7 * i) * (c % 128)≤2 ^ (7 * i) * 127:=Nat.mul_le_mul_left _ hm
 have hlt:2 ^ (7 * i) * (c % 128)+n<2 ^ (7 * (i+1)):=by rw [e7];omega
 refine ⟨?_,hlt⟩
 have e1:gB .i64 7 (i:Int)=((7 * i:Nat):Int):=by
  show IntKind.wrap .i64 (7 * (i:Int))=_
  rw [cU (by omega) (by omega)];omega
 have e2:xp .i64 ((c % 128:Nat):Int) ((7 * i:Nat):Int)=((2 ^ (7 * i) * (c % 128):Nat):Int):=by
  show IntKind.wrap .i64 (((c % 128:Nat):Int) * 2 ^ (min ((7 * i:Nat):Int).toNat 64))=_
  have:min ((7 * i:Nat):Int).toNat 64=7 * i:=by omega
  rw [this]
  have e3:((c % 128:Nat):Int) * 2 ^ (7 * i)=((2 ^ (7 * i) * (c % 128):Nat):Int):=by
   rw [Int.natCast_mul,Int.natCast_pow,Int.mul_comm];rfl
  rw [e3,cU (by omega) (by omega)]
 rw [DW (by omega),e1,e2,Dw hn (by omega)]
theorem BJ {i c n:Nat} (hi:i<8) (hc:c<256) (hn:n<2 ^ (7 * i)) (hc2:128≤c) :
  aH .i64 (n:Int) (gB .i64 (bw .i64 (c:Int) 128) ((2 ^ (7 * i):Nat):Int))=((2 ^ (7 * i) * (c % 128)+n:Nat):Int):=by
 have hp:=kS hi
 have e1:bw .i64 (c:Int) 128=((c % 128:Nat):Int):=by
  show IntKind.wrap .i64 ((c:Int) - 128)=_
  rw [cU (by omega) (by omega)];omega
 have hmul:(c % 128) * 2 ^ (7 * i)≤127 * 2 ^ (7 * i):=Nat.mul_le_mul_right _ (by omega)
 have e2:gB .i64 ((c % 128:Nat):Int) ((2 ^ (7 * i):Nat):Int)=(((c % 128) * 2 ^ (7 * i):Nat):Int):=by
  show IntKind.wrap .i64 (((c % 128:Nat):Int) * ((2 ^ (7 * i):Nat):Int))=_
  rw [← Int.natCast_mul,cU (by omega) (by omega)]
 rw [e1,e2]
 show IntKind.wrap .i64 ((n:Int)+(((c % 128) * 2 ^ (7 * i):Nat):Int))=_
 rw [cU (by omega) (by omega),Nat.mul_comm];omega
theorem BR {i c n:Nat} (hi:i<8) (hn:n<2 ^ (7 * i)) (hc2:c<128) :
  aH .i64 (n:Int) (gB .i64 (c:Int) ((2 ^ (7 * i):Nat):Int))=((2 ^ (7 * i) * (c % 128)+n:Nat):Int):=by
 have hp:=kS hi
 have hmul:c * 2 ^ (7 * i)≤127 * 2 ^ (7 * i):=Nat.mul_le_mul_right _ (by omega)
 have e2:gB .i64 (c:Int) ((2 ^ (7 * i):Nat):Int)=((c * 2 ^ (7 * i):Nat):Int):=by
  show IntKind.wrap .i64 ((c:Int) * ((2 ^ (7 * i):Nat):Int))=_
  rw [← Int.natCast_mul,cU (by omega) (by omega)]
 rw [e2,Nat.mod_eq_of_lt (show c<128 by omega)]
 show IntKind.wrap .i64 ((n:Int)+((c * 2 ^ (7 * i):Nat):Int))=_
 rw [cU (by omega) (by omega),Nat.mul_comm];omega
theorem A3 {i:Nat} (hi:i<8):gB .i64 ((2 ^ (7 * i):Nat):Int) 128=((2 ^ (7 * (i+1)):Nat):Int):=by
 have hp:=kS hi
 have e7:2 ^ (7 * (i+1))=2 ^ (7 * i) * 128:=by rw [show 7 * (i+1)=7 * i+7 by omega,Nat.pow_add]
 show IntKind.wrap .i64 (((2 ^ (7 * i):Nat):Int) * 128)=_
 rw [cU (by omega) (by omega),e7];omega
theorem xB {S s:List UInt8} {a:Nat} {e:Int} (h:a≤S.length) (he:e ≠ 0):RR S (s,e) (S,((a:Int),e)) :=
 ⟨rfl,by show (0:Int)≤(a:Int);omega,by show (a:Int)≤(S.length:Int);omega,rfl,fun hh=>absurd hh he⟩
def sZ (S:List UInt8) (p:Option (Int × EC)) (q:Option (Int × um)):Prop :=
 ∃ n r x,p=some (n,r)∧q=some (n,x)∧RR S r x∧0≤n∧n<72057594037927936∧(x.2.2 ≠ 0→n=0)
theorem kV (k m:Nat) (a b:Int) (s:List UInt8) (e:Int) (he:e ≠ 0):z0G.l3 k (m+1) a b (s,e)=some (0,(s,e)):=by
 rw [z0G.l3_eq,fl]
 simp only [ae,he,decide_false,aa]
theorem EM {S:List UInt8} {a i:Nat} (hl:a+i<S.length) (hS:S.length<4000000) {v:Int} (h0:0≤v) (h1:v<72057594037927936) :
  sZ S (br (eE ((i+1:Nat):Int) (af (S.drop a)) (af (S.drop a))) (some (v,((ba (S.drop a) ((i+1:Nat):Int) (af (S.drop a))),(0:Int)))) none) (some (v,(S,((aH .i64 ((a+i:Nat):Int) 1),(0:Int))))):=by
 have hin:eE ((i+1:Nat):Int) (af (S.drop a)) (af (S.drop a))=true:=by
  have q1:((i+1:Nat):Int)≤((S.drop a).length:Int):=by rw [List.length_drop];omega
  show (decide ((0:Int)≤((i+1:Nat):Int)) && decide (((i+1:Nat):Int)≤((S.drop a).length:Int)) && decide (((S.drop a).length:Int)≤((S.drop a).length:Int)))=true
  rw [decide_eq_true q1,decide_eq_true (show (0:Int)≤((i+1:Nat):Int) by omega),decide_eq_true (Int.le_refl _)];rfl
 rw [hin,aB (by omega)]
 refine ⟨_,_,_,rfl,rfl,⟨rfl,by show (0:Int)≤((a+i+1:Nat):Int);omega,by show ((a+i+1:Nat):Int)≤(S.length:Int);omega,rfl,fun _=>?_⟩,h0,h1,fun h=>absurd rfl h⟩
 show ba (S.drop a) ((i+1:Nat):Int) (af (S.drop a))=S.drop ((a+i+1:Nat):Int).toNat
 unfold ba af
 rw [Int.toNat_natCast,Int.toNat_natCast,Int.toNat_natCast,List.take_length,List.drop_drop]
 congr 1
theorem DC (k:Nat) (S:List UInt8) (a:Nat) (ha:a≤S.length) (n u:Int) (m1 m2:Nat) :
  sZ S (z0G.l3 k (m1+2) n ((8:Nat):Int) (S.drop a,0)) (z0z.l5 k (m2+1) n u ((8:Nat):Int) (S,((a:Int),0))):=by
  rw [z0G.l3_eq,z0z.l5_eq,fl]
  have e1:az ((8:Nat):Int) 8=true:=rfl
  have e2:aq ((8:Nat):Int) 8=false:=rfl
  simp only [ae,decide_true,ac,e1,e2,aa,fN,if_true]
  rw [kV k m1 _ _ _ 6 (by decide)]
  exact ⟨0,_,_,rfl,rfl,xB ha (by decide),by decide,by decide,fun _=>rfl⟩
theorem Ci (k:Nat) (S:List UInt8) (a:Nat) (ha:a≤S.length) (hS:S.length<4000000) (i n m1 m2:Nat) (hi8:i<8) (hn:n<2 ^ (7 * i))
  (ih:∀ v:Nat,v<2 ^ (7 * (i+1))→sZ S (z0G.l3 k (m1+1) (v:Int) ((i+1:Nat):Int) (S.drop a,0)) (z0z.l5 k m2 (v:Int) ((2 ^ (7 * (i+1)):Nat):Int) ((i+1:Nat):Int) (S,((a:Int),0)))) :
  sZ S (z0G.l3 k (m1+2) (n:Int) (i:Int) (S.drop a,0)) (z0z.l5 k (m2+1) (n:Int) ((2 ^ (7 * i):Nat):Int) (i:Int) (S,((a:Int),0))):=by
  rw [z0G.l3_eq,z0z.l5_eq,fl]
  have e1:az (i:Int) 8=false:=by rw [aW];exact decide_eq_false (by omega)
  have e2:aq (i:Int) 8=true:=decide_eq_true (by omega)
  have e3:aH .i64 (a:Int) (i:Int)=((a+i:Nat):Int):=by rw [gu (by omega) (by omega) (by omega) (by omega)];omega
  have e4:bM (af (S.drop a)) (i:Int)=decide (S.length≤a+i):=by
   unfold bM af;rw [List.length_drop];exact decide_eq_decide.2 ⟨fun h=>by omega,fun h=>by omega⟩
  have e5:bM (af S) ((a+i:Nat):Int)=decide (S.length≤a+i):=by
   unfold bM af;exact decide_eq_decide.2 ⟨fun h=>by omega,fun h=>by omega⟩
  have e6:bO (i:Int) (S.drop a)=decide (a+i<S.length):=by
   rw [aQ,List.length_drop];exact decide_eq_decide.2 ⟨fun h=>by omega,fun h=>by omega⟩
  have e8':bO ((a+i:Nat):Int) S=decide (a+i<S.length):=aQ _ _
  have e7:aq (gB .i64 7 (i:Int)) 0=false:=by
   show decide (IntKind.wrap .i64 (7 * (i:Int))<0)=false
   rw [cU (by omega) (by omega)];exact decide_eq_false (by omega)
  simp only [ae,decide_true,ac,e1,e2,aa,fN,if_true,e3,e4,e5,e6,e7,e8',uS]
  by_cases hl:S.length≤a+i
  ·simp only [hl,decide_true,ac]
   rw [kV k m1 _ _ _ 4 (by decide)]
   exact ⟨0,_,_,rfl,rfl,xB ha (by decide),by decide,by decide,fun _=>rfl⟩
  ·have hl2:a+i<S.length:=by omega
   simp only [hl,hl2,decide_true,decide_false,ac,aa]
   have hcr:=yi S ((a+i:Nat):Int)
   obtain ⟨c,hc⟩:∃ c:Nat,bd S ((a+i:Nat):Int)=(c:Int):=⟨(bd S ((a+i:Nat):Int)).toNat,by omega⟩
   rw [hc] at hcr ⊢
   have hw:bj .i64 (c:Int)=(c:Int):=cU (by omega) (by omega)
   have hc256:c<256:=by omega
   obtain ⟨g1,g2⟩:=qL (c:=c) hi8 hc256 hn
   have e12:aH .i64 (i:Int) 1=((i+1:Nat):Int):=aB (by omega)
   rw [hw,g1,e12]
   have e8:bM 128 (c:Int)=decide (128≤c):=by unfold bM;exact decide_eq_decide.2 ⟨fun h=>by omega,fun h=>by omega⟩
   have e9:aq (c:Int) 128=decide (c<128):=by unfold aq;exact decide_eq_decide.2 ⟨fun h=>by omega,fun h=>by omega⟩
   have e10:az (c:Int) 0=decide (c=0):=by rw [aW];exact decide_eq_decide.2 ⟨fun h=>by omega,fun h=>by omega⟩
   have e11:aq 0 (i:Int)=decide (0<i):=bA 0 i
   rw [e8,e9,e10,e11]
   by_cases hc2:128≤c
   ·have hc3:¬ c<128:=by omega
    rw [decide_eq_true hc2,decide_eq_false hc3,ac,aa]
    rw [BJ hi8 hc256 hn hc2,A3 hi8]
    exact ih _ g2
   ·have hc3:c<128:=by omega
    rw [decide_eq_false hc2,decide_eq_true hc3,aa,ac]
    rw [BR hi8 hn hc3]
    have hp1:=vM (show i+1≤8 by omega)
    obtain ⟨v,hv⟩:∃ v:Int,v=((2 ^ (7 * i) * (c % 128)+n:Nat):Int):=⟨_,rfl⟩
    have v0:0≤v:=by omega
    have v1:v<72057594037927936:=by omega
    rw [← hv]
    have fin:=EM hl2 hS v0 v1
    by_cases hc0:c=0
    ·simp only [hc0,decide_true,ac]
     by_cases h0:0<i
     ·simp only [h0,decide_true,ac]
      rw [kV k m1 _ _ _ 3 (by decide)]
      exact ⟨0,_,_,rfl,rfl,xB ha (by decide),by decide,by decide,fun _=>rfl⟩
     ·simp only [h0,decide_false,aa]
      exact fin
    ·simp only [hc0,decide_false,aa]
     exact fin
theorem Gf (k:Nat) (S:List UInt8) (a:Nat) (ha:a≤S.length) (hS:S.length<4000000) (m:Nat):∀ (i n m1 m2:Nat),i+m=8→m+2≤m1→m+1≤m2→n<2 ^ (7 * i) →
  sZ S (z0G.l3 k m1 (n:Int) (i:Int) (S.drop a,0)) (z0z.l5 k m2 (n:Int) ((2 ^ (7 * i):Nat):Int) (i:Int) (S,((a:Int),0))):=by
 induction m with
 | zero =>
  intro i n m1 m2 hi h1 h2 hn
  obtain ⟨q1,rfl⟩:∃ q,m1=q+2:=⟨m1 - 2,by omega⟩
  obtain ⟨q2,rfl⟩:∃ q,m2=q+1:=⟨m2 - 1,by omega⟩
  have:i=8:=by omega
  subst this
  exact DC k S a ha _ _ q1 q2
 | succ m ih =>
  intro i n m1 m2 hi h1 h2 hn
  obtain ⟨q1,rfl⟩:∃ q,m1=q+2:=⟨m1 - 2,by omega⟩
  obtain ⟨q2,rfl⟩:∃ q,m2=q+1:=⟨m2 - 1,by omega⟩
  exact Ci k S a ha hS i n q1 q2 (by omega) hn fun v hv=>ih (i+1) v (q1+1) q2 (by omega) (by omega) (by omega) hv
theorem Ff (k:Nat) (S:List UInt8) (r:EC) (x:um) (h:RR S r x) (hS:S.length<4000000) (hk:12<k):sZ S (z0G.f k r) (z0z.f k x):=by
 obtain ⟨s,b⟩:=r
 obtain ⟨S',a,e⟩:=x
 obtain ⟨h1,h2,h3,h4,h5⟩:=h
 simp only at h1 h2 h3 h4 h5
 subst h1;subst h4
 rw [z0G.f_eq,z0z.f_eq,aW,bB]
 by_cases hb:b=0
 ·subst hb
  simp only [not_true,decide_false,aa]
  rw [h5 rfl]
  obtain ⟨A,hA⟩:∃ A:Nat,a=(A:Int):=⟨a.toNat,by omega⟩
  subst hA
  have:=Gf k S' A (by omega) hS 8 0 0 k k (by omega) (by omega) (by omega) (by decide)
  exact this
 ·simp only [hb,not_false_eq_true,decide_true,ac]
  obtain ⟨m,rfl⟩:∃ m,k=m+1:=⟨k - 1,by omega⟩
  rw [kV (m+1) m _ _ _ b hb]
  exact ⟨0,_,_,rfl,rfl,⟨rfl,h2,h3,rfl,fun h=>absurd h hb⟩,by decide,by decide,fun _=>rfl⟩
theorem cp (k:Nat) (r:EC):z0p.f k r=some (r.2,r):=z0p.f_eq k r
theorem DX (k:Nat) (S:List UInt8) (r:EC) (x:um) (h:RR S r x) (hS:S.length<4000000):∃ n,z0t.f k r=some (n,r)∧z0m.f k x=some (n,x):=by
 rw [z0t.f_eq,z0m.f_eq,fl]
 obtain ⟨s1,b1⟩:=r
 obtain ⟨S1,a1,e3⟩:=x
 obtain ⟨q1,q2,q3,q4,q5⟩:=h
 simp only at q1 q2 q3 q4 q5 ⊢
 subst q1;subst q4
 simp only [ae,aW,bB,cT]
 by_cases hb:b1=0
 ·subst hb
  refine ⟨af s1,by simp,?_⟩
  have hsub:bw .i64 (af S1) a1=af s1:=by unfold af;rw [dx (by omega) (by omega) (by omega) (by omega),q5 rfl,List.length_drop];omega
  simp [hsub]
 ·exact ⟨0,by simp [hb],by simp [hb]⟩
theorem Dx (S:List UInt8):RR S (S,0) (S,(0,0)):=⟨rfl,Int.le_refl _,by show (0:Int)≤_;omega,rfl,fun _=>rfl⟩
end Go.Proofs.YtfhcammihohmjaaGreatDoor
end
noncomputable section
/- Numbers of 32 bits: what the operations come to. -/
namespace Go.Proofs.YtfhcammihohmjaaGreatDoor
open Pal
theorem oI {n:Nat} (h:n<4294967296):IntKind.wrap .u32 (n:Int)=(n:Int):=by
 rw [IntKind.wrap_u32];omega
theorem Dz (c:Nat):BitVec.ofInt 32 (c:Int)=BitVec.ofNat 32 c:=by simp
theorem mo {a b:Nat} (ha:a<4294967296) (hb:b<4294967296):fP .u32 (a:Int) (b:Int)=((a ^^^ b:Nat):Int):=by
 show IntKind.wrap .u32 (((BitVec.ofInt 32 (a:Int) ^^^ BitVec.ofInt 32 (b:Int)).toNat:Nat):Int)=_
 have e:(BitVec.ofInt 32 (a:Int) ^^^ BitVec.ofInt 32 (b:Int)).toNat=a ^^^ b:=by
  rw [Dz,Dz,BitVec.toNat_xor,BitVec.toNat_ofNat,BitVec.toNat_ofNat,Nat.mod_eq_of_lt (show a<2 ^ 32 by omega),Nat.mod_eq_of_lt (show b<2 ^ 32 by omega)]
 rw [e,oI (Crc.xor_lt ha hb)]
theorem Bz {a:Nat} (j:Nat) (hj:j≤8) (ha:a<4294967296):jL .u32 (a:Int) ((2 ^ j - 1:Nat):Int)=((a % 2 ^ j:Nat):Int):=by
 have hp:2 ^ j≤2 ^ 8:=Nat.pow_le_pow_right (by decide) hj
 have hp1:0<2 ^ j:=Nat.pow_pos (by decide)
 show IntKind.wrap .u32 (((BitVec.ofInt 32 (a:Int) &&& BitVec.ofInt 32 ((2 ^ j - 1:Nat):Int)).toNat:Nat):Int)=_
 have e:(BitVec.ofInt 32 (a:Int) &&& BitVec.ofInt 32 ((2 ^ j - 1:Nat):Int)).toNat=a % 2 ^ j:=by
  rw [Dz,Dz,BitVec.toNat_and,BitVec.toNat_ofNat,BitVec.toNat_ofNat,Nat.mod_eq_of_lt (show a<2 ^ 32 by omega),Nat.mod_eq_of_lt (show 2 ^ j - 1<2 ^ 32 by omega),Nat.and_two_pow_sub_one_eq_mod]
 have hm:=Nat.mod_lt a hp1
 rw [e,oI (by omega)]
theorem Gc {a:Nat} (ha:a<4294967296):jL .u32 (a:Int) 1=((a % 2:Nat):Int):=Bz 1 (by decide) ha
theorem Ck {a:Nat} (ha:a<4294967296):jL .u32 (a:Int) 15=((a % 16:Nat):Int):=Bz 4 (by decide) ha
theorem Gv (a:Nat):gZ .u32 (a:Int) 1=((a / 2:Nat):Int):=by
 show (a:Int).fdiv 2=_
 rw [Int.fdiv_eq_ediv_of_nonneg _ (by decide)];rfl
theorem Ga (a:Nat):gZ .u32 (a:Int) 4=((a / 16:Nat):Int):=by
 show (a:Int).fdiv 16=_
 rw [Int.fdiv_eq_ediv_of_nonneg _ (by decide)];rfl
theorem Gj {a:Nat} (ha:a<4294967296):pG .u32 (a:Int) 2=((a / 2:Nat):Int):=by
 show IntKind.wrap .u32 ((a:Int).tdiv 2)=_
 have e:((a:Int)).tdiv 2=((a / 2:Nat):Int):=rfl
 rw [e,oI (by omega)]
theorem Fa (a:Nat):As (a:Int) 2=((a % 2:Nat):Int):=rfl
theorem xz {a:Nat} (ha:a<4294967296):bj .u32 (a:Int)=(a:Int):=oI ha
theorem Gt (a:Nat):az (a:Int) 1=decide (a=1):=by rw [aW];exact decide_eq_decide.2 ⟨fun h=>by omega,fun h=>by omega⟩
theorem yF (c:Nat):Crc.step c=if c % 2=1 then (c / 2) ^^^ 3988292384 else c / 2:=rfl
end Go.Proofs.YtfhcammihohmjaaGreatDoor
end
noncomputable section
/- The sums: the program's and the document's are the plain one. -/
namespace Go.Proofs.YtfhcammihohmjaaGreatDoor
open Pal
theorem pN {s:List UInt8} {i:Nat} (h:i<s.length):bd s (i:Int)=((s[i].toNat:Nat):Int):=by
 unfold bd
 rw [Int.toNat_natCast,List.getD_eq_getElem?_getD,List.getElem?_eq_getElem h];rfl
theorem mS (k n3 n7:Nat) (x2 x4:Int) (m0 m1:List Int) {c j:Nat} (hc:c<4294967296) (hj:j<4):z2k.l7 k n3 (n7+1) x2 (c:Int) x4 (j:Int) m0 m1=z2k.l7 k n3 n7 x2 ((Crc.step c:Nat):Int) x4 ((j+1:Nat):Int) m0 m1:=by
 have e4:aH .i64 (j:Int) 1=((j+1:Nat):Int):=aB (by omega)
 rw [z2k.l7_eq,show aq (j:Int) 4=decide (j<4) from bA j 4,decide_eq_true hj,ac,Gc hc,Gt,Gv,e4,yF]
 have hx:fP .u32 ((c / 2:Nat):Int) 3988292384=((c / 2 ^^^ 3988292384:Nat):Int):=mo (b:=3988292384) (by omega) (by decide)
 rw [hx]
 by_cases h:c % 2=1
 ·rw [decide_eq_true h,ac,if_pos h]
 ·rw [decide_eq_false h,aa,if_neg h]
theorem Cw (k:Nat) (hk:20<k) (m0:List Int):∀ (n i:Nat) (m1:List Int),i≤16→16<n+i→m1.length=16→(∀ j:Nat,j<i→m1[j]? = some ((Crc.step4 j:Nat):Int)) →
  ∃ T:List Int,z2k.l3 k n (i:Int) m0 m1=some T∧T.length=16∧∀ j:Nat,j<16→T[j]? = some ((Crc.step4 j:Nat):Int)
 | 0,i,_,h,h',_,_=>by omega
 | n+1,i,m1,h,h',hl,hm=>by
  rw [z2k.l3_eq,show aq (i:Int) 16=decide (i<16) from bA i 16]
  by_cases hi:i<16
  ·obtain ⟨q,rfl⟩:∃ q,k=q+5:=⟨k - 5,by omega⟩
   have e4:aH .i64 (i:Int) 1=((i+1:Nat):Int):=aB (by omega)
   have s1:Crc.step i<4294967296:=Crc.step_lt (by omega)
   have s2:=Crc.step_lt s1
   have s3:=Crc.step_lt s2
   rw [decide_eq_true hi,ac,xz (by omega)]
   have t0:=mS (q+5) n (q+4) (i:Int) (i:Int) m0 m1 (c:=i) (j:=0) (by omega) (by decide)
   have t1:=mS (q+5) n (q+3) (i:Int) (i:Int) m0 m1 (j:=1) s1 (by decide)
   have t2:=mS (q+5) n (q+2) (i:Int) (i:Int) m0 m1 (j:=2) s2 (by decide)
   have t3:=mS (q+5) n (q+1) (i:Int) (i:Int) m0 m1 (j:=3) s3 (by decide)
   rw [show ((0:Nat):Int)=0 from rfl] at t0
   rw [t0,t1,t2,t3,z2k.l7_eq,show aq ((3+1:Nat):Int) 4=false from rfl,aa,dS,decide_eq_true hi,ac,au,e4]
   refine Cw (q+5) hk m0 n (i+1) _ (by omega) (by omega) (by simp [ja,hl]) (fun j hj=>?_)
   show (List.set m1 i _)[j]? = _
   by_cases e:j=i
   ·subst e
    rw [List.getElem?_set_self (by omega)];rfl
   ·rw [List.getElem?_set_ne (fun h=>e h.symm)]
    exact hm j (by omega)
  ·rw [decide_eq_false hi,aa]
   exact ⟨m1,rfl,hl,fun j hj=>hm j (by omega)⟩
theorem BV (k:Nat) (hk:20<k):∃ T:List Int,z2k.f k=some T∧T.length=16∧∀ j:Nat,j<16→T[j]? = some ((Crc.step4 j:Nat):Int):=by
 rw [z2k.f_eq]
 exact Cw k hk (aV 16 0) k 0 (aV 16 0) (by omega) (by omega) (by simp [aV]) (fun j hj=>by omega)
theorem Ce (k:Nat) (s:List UInt8) (hs:s.length<4000000) (T:List Int) (hT:T.length=16) (hTj:∀ j:Nat,j<16→T[j]? = some ((Crc.step4 j:Nat):Int)):∀ (n i c:Nat),i≤s.length→s.length<n+i→c<4294967296 →
  z2V.l4 k n s (c:Int) (af s) (i:Int) T=some (((Crc.crc c (s.drop i) ^^^ 4294967295:Nat)):Int)
 | 0,i,c,h,h',_=>by omega
 | n+1,i,c,h,h',hc=>by
  rw [z2V.l4_eq,aO,aQ]
  by_cases hi:i<s.length
  ·have e4:aH .i64 (i:Int) 1=((i+1:Nat):Int):=aB (by omega)
   have hb:s[i].toNat<256:=Crc.ub _
   have hx:=Crc.xor_lt hc (show s[i].toNat<4294967296 by omega)
   have rdT:∀ j:Nat,j<16→rd (.int .u32) T j=((Crc.step4 j:Nat):Int):=fun j hj=>by
    have hj':j<T.length:=by omega
    rw [aT (e:=.int .u32) hj']
    have:=hTj j hj
    rw [List.getElem?_eq_getElem hj'] at this
    injection this
   have nib:∀ x:Nat,x<4294967296→fP .u32 (gZ .u32 (x:Int) 4) (rd (.int .u32) T (aj (jL .u32 (x:Int) 15)))=((Crc.step4 x:Nat):Int):=fun x hx=>by
    have h16:x % 16<16:=by omega
    have h4:Crc.step4 (x % 16)<4294967296:=Crc.step4_lt (by omega)
    rw [Ck hx,au,rdT _ h16,Ga,mo (by omega) h4,← Crc.step4_is]
   have inb:∀ x:Nat,x<4294967296→gh (jL .u32 (x:Int) 15) 16=true:=fun x hx=>by
    rw [Ck hx,dS];exact decide_eq_true (by omega)
   have s4:=Crc.step4_lt hx
   rw [decide_eq_true hi,ac,ac,pN hi,xz (by omega),mo hc (show s[i].toNat<4294967296 by omega),inb _ hx,ac,nib _ hx,inb _ s4,ac,nib _ s4,e4]
   have ed:s.drop i=s[i]::s.drop (i+1):=List.drop_eq_getElem_cons hi
   rw [ed]
   exact Ce k s hs T hT hTj n (i+1) (Crc.byteStep c s[i].toNat) (by omega) (by omega) (Crc.byteStep_lt hc hb)
  ·have e0:s.drop i=[]:=List.drop_eq_nil_of_le (by omega)
   have hx:fP .u32 4294967295 (c:Int)=((c ^^^ 4294967295:Nat):Int):=by
    rw [Nat.xor_comm];exact mo (a:=4294967295) (by decide) hc
   rw [decide_eq_false hi,aa,e0,hx];rfl
theorem D3 (k:Nat) (s:List UInt8) (hs:s.length<k) (hk:20<k) (hk2:k<1000000):z3e.f k s=some ((Crc.sumN s:Nat):Int):=by
 obtain ⟨T,h1,h2,h3⟩:=BV k hk
 have hx:fP .u32 4294967295 0=((4294967295:Nat):Int):=by decide
 rw [z3e.f_eq,z2V.f_eq,h1,ae,hx]
 have:=Ce k s (by omega) T h2 h3 k 0 4294967295 (by omega) (by omega) (by decide)
 rw [show ((0:Nat):Int)=0 from rfl,List.drop_zero] at this
 rw [this,ae];rfl
theorem ov (k n3 n7:Nat) (s:List UInt8) (x6:Int) {c j:Nat} (hc:c<4294967296) (hj:j<8):z2c.l7 k n3 (n7+1) s (c:Int) x6 (j:Int)=z2c.l7 k n3 n7 s ((Crc.step c:Nat):Int) x6 ((j+1:Nat):Int):=by
 have e4:aH .i64 (j:Int) 1=((j+1:Nat):Int):=aB (by omega)
 rw [z2c.l7_eq,show aq (j:Int) 8=decide (j<8) from bA j 8,decide_eq_true hj,ac,Fa,Gt,Gj hc,e4,yF]
 have hx:fP .u32 ((c / 2:Nat):Int) 3988292384=((c / 2 ^^^ 3988292384:Nat):Int):=mo (b:=3988292384) (by omega) (by decide)
 rw [hx]
 by_cases h:c % 2=1
 ·rw [decide_eq_true h,ac,if_pos h]
 ·rw [decide_eq_false h,aa,if_neg h]
theorem zJ (k:Nat) (hk:20<k) (s:List UInt8) (hs:s.length<4000000):∀ (n i c:Nat),i≤s.length→s.length<n+i→c<4294967296 →
  z2c.l3 k n s (c:Int) (i:Int)=some (((Crc.crc c (s.drop i) ^^^ 4294967295:Nat)):Int)
 | 0,i,c,h,h',_=>by omega
 | n+1,i,c,h,h',hc=>by
  rw [z2c.l3_eq,aO,aQ]
  by_cases hi:i<s.length
  ·have e4:aH .i64 (i:Int) 1=((i+1:Nat):Int):=aB (by omega)
   have hb:s[i].toNat<256:=Crc.ub _
   have hx:=Crc.xor_lt hc (show s[i].toNat<4294967296 by omega)
   obtain ⟨q,rfl⟩:∃ q,k=q+9:=⟨k - 9,by omega⟩
   have s1:=Crc.step_lt hx
   have s2:=Crc.step_lt s1
   have s3:=Crc.step_lt s2
   have s4:=Crc.step_lt s3
   have s5:=Crc.step_lt s4
   have s6:=Crc.step_lt s5
   have s7:=Crc.step_lt s6
   have t0:=ov (q+9) n (q+8) s (i:Int) (j:=0) hx (by decide)
   rw [show ((0:Nat):Int)=0 from rfl] at t0
   rw [decide_eq_true hi,ac,ac,pN hi,xz (by omega),mo hc (show s[i].toNat<4294967296 by omega),t0,
    ov (q+9) n (q+7) s (i:Int) (j:=1) s1 (by decide),ov (q+9) n (q+6) s (i:Int) (j:=2) s2 (by decide),ov (q+9) n (q+5) s (i:Int) (j:=3) s3 (by decide),
    ov (q+9) n (q+4) s (i:Int) (j:=4) s4 (by decide),ov (q+9) n (q+3) s (i:Int) (j:=5) s5 (by decide),ov (q+9) n (q+2) s (i:Int) (j:=6) s6 (by decide),ov (q+9) n (q+1) s (i:Int) (j:=7) s7 (by decide),
    z2c.l7_eq,show aq ((7+1:Nat):Int) 8=false from rfl,aa,e4]
   have ed:s.drop i=s[i]::s.drop (i+1):=List.drop_eq_getElem_cons hi
   rw [ed]
   exact zJ (q+9) hk s hs n (i+1) (Crc.byteStep c s[i].toNat) (by omega) (by omega) (Crc.byteStep_lt hc hb)
  ·have e0:s.drop i=[]:=List.drop_eq_nil_of_le (by omega)
   have hx:fP .u32 (c:Int) 4294967295=((c ^^^ 4294967295:Nat):Int):=mo (b:=4294967295) hc (by decide)
   rw [decide_eq_false hi,aa,e0,hx];rfl
theorem Ep (k:Nat) (s:List UInt8) (hs:s.length<k) (hk:20<k) (hk2:k<1000000):z2N.f k s=some ((Crc.sumN s:Nat):Int):=by
 have hx:fP .u32 0 4294967295=((4294967295:Nat):Int):=by decide
 rw [z2N.f_eq,z2c.f_eq,hx]
 have:=zJ k hk s (by omega) k 0 4294967295 (by omega) (by omega) (by decide)
 rw [show ((0:Nat):Int)=0 from rfl,List.drop_zero] at this
 rw [this,ae];rfl
end Go.Proofs.YtfhcammihohmjaaGreatDoor
end
noncomputable section
/- That runs answer; binary search. -/
namespace Go.Proofs.YtfhcammihohmjaaGreatDoor.Pal
open Go
def pF {α:Type} (x:Option α):Prop:=∃ r,x=some r
theorem ch {α:Type} (a:α):pF (some a):=⟨a,rfl⟩
theorem dJ {α:Type} {b:Bool} {x y:Option α} (h1:pF x) (h2:pF y):pF (br b x y):=by cases b <;> assumption
theorem Du {α β:Type} {x:Option α} {f:α→Option β} (h1:pF x) (h2:∀ r,x=some r→pF (f r)):pF (bnd x f):=by
 obtain ⟨r,rfl⟩:=h1
 exact h2 r rfl
theorem nu {α β:Type} {x:Option α} {f:α→Option β} (h1:pF x) (h2:∀ r,pF (f r)):pF (bnd x f):=Du h1 fun r _=>h2 r
theorem jT {ρ:Type} (N:Nat) (L:Nat→Nat→Option ρ) (hs:∀ n i,i<N→pF (L n (i+1))→pF (L (n+1) i)) (he:∀ n,pF (L (n+1) N)):∀ n i,i≤N→N<n+i→pF (L n i)
 | 0,i,h,h'=>by omega
 | n+1,i,h,h'=>by
  by_cases hi:i<N
  ·exact hs n i hi (jT N L hs he n (i+1) (by omega) (by omega))
  ·have:i=N:=by omega
   subst this;exact he n
theorem u9 {α ρ:Type} (l:List α) (lt:α→Bool) (hm:l.Pairwise (fun a b=>lt b=true→lt a=true)) (L:Nat→Nat→Nat→Option ρ) (E:Nat→Option ρ)
  (hs:∀ n i j,i<j→j≤l.length→∀ h:(i+j) / 2<l.length,L (n+1) i j=if lt l[(i+j) / 2]=true then L n ((i+j) / 2+1) j else L n i ((i+j) / 2)) (he:∀ n i,i≤l.length→L (n+1) i i=E i) :
  ∀ n i j,i≤j→j≤l.length→j<n+i→(∀ t (h:t<l.length),t<i→lt l[t]=true)→(∀ t (h:t<l.length),j≤t→lt l[t]=false) →
   ∃ p,p≤l.length∧(∀ t (h:t<l.length),t<p→lt l[t]=true)∧(∀ t (h:t<l.length),p≤t→lt l[t]=false)∧L n i j=E p
 | 0,i,j,h,_,h',_,_=>by omega
 | n+1,i,j,hij,hj,hn,h1,h2=>by
  have mono:∀ s t (hs:s<l.length) (ht:t<l.length),s<t→lt l[t]=true→lt l[s]=true:=fun s t hs ht hst=>List.pairwise_iff_getElem.1 hm s t hs ht hst
  by_cases e:i=j
  ·subst e
   exact ⟨i,hj,h1,h2,he n i hj⟩
  ·have hlt:i<j:=by omega
   have hm':(i+j) / 2<l.length:=by omega
   have:=hs n i j hlt hj hm'
   cases hc:lt l[(i+j) / 2] with
   | true =>
    rw [hc,if_pos rfl] at this
    rw [this]
    exact u9 l lt hm L E hs he n ((i+j) / 2+1) j (by omega) hj (by omega) (fun t ht htm=>by
     rcases Nat.lt_or_ge t ((i+j) / 2) with h | h
     ·exact mono t _ ht hm' h hc
     ·have:t=(i+j) / 2:=by omega
      subst this;exact hc) h2
   | false =>
    rw [hc] at this
    simp only [Bool.false_eq_true,if_false] at this
    rw [this]
    exact u9 l lt hm L E hs he n i ((i+j) / 2) (by omega) (by omega) (by omega) h1 (fun t ht htm=>by
     rcases Nat.lt_or_ge ((i+j) / 2) t with h | h
     ·cases hh:lt l[t] with
      | false=>rfl
      | true=>have:=mono _ t hm' ht h hh;rw [hc] at this;cases this
     ·have:t=(i+j) / 2:=by omega
      subst this;exact hc)
end Go.Proofs.YtfhcammihohmjaaGreatDoor.Pal
end
noncomputable section
/- The document's checks of names, paths, values, operations and transactions answer, of short wT. -/
namespace Go.Proofs.YtfhcammihohmjaaGreatDoor
open Pal
abbrev iG:=List UInt8
abbrev xX:=Int × (Int × iG)
abbrev Op:=Int × (List iG × (xX × (Int × List (bu × Int))))
abbrev cG:=bu × (Int × (Int × (Bool × List Op)))
noncomputable instance decOp:DecidableEq Op:=fun a b=>Classical.propDecidable (a=b)
noncomputable instance decTxn:DecidableEq cG:=fun a b=>Classical.propDecidable (a=b)
theorem cq {α:Type} (c:Nat) (xs:List α):aq (c:Int) (af xs)=decide (c<xs.length):=by unfold aq af;exact decide_eq_decide.2 ⟨fun h=>by omega,fun h=>by omega⟩
theorem oR {α:Type} (c:Nat) (xs:List α):bM (af xs) (c:Int)=decide (xs.length≤c):=by unfold bM af;exact decide_eq_decide.2 ⟨fun h=>by omega,fun h=>by omega⟩
theorem vR (k:Nat) (s:iG) (hk:10<k) (hs:s.length<4000000):∃ (c n:Int),z1V.f k s=some (c,n)∧0≤n∧n≤(s.length:Int):=by
 rw [z1V.f_eq]
 have e0:az (af s) 0=decide (s.length=0):=uM s
 rw [e0]
 by_cases h0:s.length=0
 ·rw [decide_eq_true h0];exact ⟨0,0,rfl,by decide,by omega⟩
 rw [decide_eq_false h0]
 have e1:bO 0 s=true:=by
  have:=aQ 0 s
  rw [show bO 0 s=decide (0<s.length) from this];exact decide_eq_true (by omega)
 have l2:∀ c:Nat,aq (af s) (c:Int)=decide (s.length<c):=fun c=>by unfold aq af;exact decide_eq_decide.2 ⟨fun h=>by omega,fun h=>by omega⟩
 have key:∀ (N:Nat) (m x:Int),1≤N→N≤s.length→N≤4→∃ (c n:Int),z1V.l17 k k s x (N:Int) m 1=some (c,n)∧0≤n∧n≤(s.length:Int):=by
  intro N m x hN1 hN hN4
  have:∀ n i (x:Int),1≤i→N<n+i→i≤N→∃ (c q:Int),z1V.l17 k n s x (N:Int) m (i:Int)=some (c,q)∧0≤q∧q≤(s.length:Int):=by
   intro n
   induction n with
   | zero =>
    intro i x h1 h2 h3
    omega
   | succ n ih =>
    intro i x h1 h2 h3
    rw [z1V.l17_eq,bA]
    by_cases hi:i<N
    ·have e2:bO (i:Int) s=true:=by rw [aQ];exact decide_eq_true (by omega)
     have e3:aH .i64 (i:Int) 1=((i+1:Nat):Int):=aB (by omega)
     rw [decide_eq_true hi,e2,e3]
     simp only [ac]
     have z:∃ (c q:Int),(some ((0:Int),(0:Int)))=some (c,q)∧0≤q∧q≤(s.length:Int):=⟨0,0,rfl,by decide,by omega⟩
     have y:=ih (i+1) (bw .i64 (aH .i64 (gB .i64 64 x) (bj .i64 (bd s (i:Int)))) 128) (by omega) (by omega) (by omega)
     cases aq (bd s (i:Int)) 128 with
     | true=>exact z
     | false =>
      cases aq 191 (bd s (i:Int)) with
      | true=>exact z
      | false=>exact y
    ·rw [decide_eq_false hi]
     simp only [aa]
     have z:∃ (c q:Int),(some ((0:Int),(0:Int)))=some (c,q)∧0≤q∧q≤(s.length:Int):=⟨0,0,rfl,by decide,by omega⟩
     have y:∃ (c q:Int),(some (x,(N:Int)))=some (c,q)∧0≤q∧q≤(s.length:Int):=⟨x,N,rfl,by omega,by omega⟩
     cases aq x m with
     | true=>exact z
     | false =>
      cases aq 1114111 x with
      | true=>exact z
      | false =>
       cases bM 55296 x with
       | false=>exact y
       | true=>cases bM x 57343 with
        | true=>exact z
        | false=>exact y
  exact this k 1 x (by omega) (by omega) (by omega)
 have z:∃ (c q:Int),(some ((0:Int),(0:Int)))=some (c,q)∧0≤q∧q≤(s.length:Int):=⟨0,0,rfl,by decide,by omega⟩
 have kk:∀ (N:Nat) (m x:Int),1≤N→N≤4→∃ (c n:Int),br (aq (af s) (N:Int)) (some ((0:Int),(0:Int))) (z1V.l17 k k s x (N:Int) m 1)=some (c,n)∧0≤n∧n≤(s.length:Int):=by
  intro N m x hN1 hN
  rw [l2]
  by_cases h:s.length<N
  ·rw [decide_eq_true h];exact z
  ·rw [decide_eq_false h];exact key N m x hN1 (by omega) hN
 have k2:=fun m x=>kk 2 m x (by decide) (by decide)
 have k3:=fun m x=>kk 3 m x (by decide) (by decide)
 have k4:=fun m x=>kk 4 m x (by decide) (by decide)
 rw [e1]
 simp only [ac,aa]
 generalize bj .i64 (bd s 0)=b
 cases aq b 128 with
 | true=>exact ⟨b,1,rfl,by decide,by omega⟩
 | false =>
  cases bM 194 b <;> cases aq b 224 <;> cases bM 224 b <;> cases aq b 240 <;> cases bM 240 b <;> cases aq b 245 <;> simp only [ac,aa] <;> first | exact z | exact k2 _ _ | exact k3 _ _ | exact k4 _ _
theorem t8 (k:Nat) (s:iG) (hk:10<k) (hs:s.length<k) (hk2:k<1000000):∃ (l:List Int) (b:Bool),z1A.f k s=some (l,b)∧l.length≤s.length:=by
 rw [z1A.f_eq]
 have:∀ n i (l:List Int),i≤s.length→s.length<n+i→l.length≤i→∃ (l':List Int) (b:Bool),z1A.l3 k n s l (i:Int)=some (l',b)∧l'.length≤s.length:=by
  intro n
  induction n with
  | zero=>intro i l h1 h2;omega
  | succ n ih =>
   intro i l h1 h2 hl
   rw [z1A.l3_eq,aO]
   by_cases hi:i<s.length
   ·have hin:eE (i:Int) (af s) (af s)=true:=by
     have h1:(i:Int)≤(s.length:Int):=by omega
     show (decide ((0:Int)≤(i:Int)) && decide ((i:Int)≤(s.length:Int)) && decide ((s.length:Int)≤(s.length:Int)))=true
     rw [decide_eq_true h1,decide_eq_true (show (0:Int)≤(i:Int) by omega),decide_eq_true (Int.le_refl _)];rfl
    have hp:(ba s (i:Int) (af s)).length=s.length - i:=by
     unfold ba af
     rw [Int.toNat_natCast,Int.toNat_natCast,List.take_length,List.length_drop]
    obtain ⟨c,q,hc,q0,q1⟩:=vR k (ba s (i:Int) (af s)) hk (by omega)
    rw [decide_eq_true hi,hin,hc]
    simp only [ac,ae,aW]
    rw [hp] at q1
    by_cases hq:q=0
    ·rw [decide_eq_true hq];exact ⟨[],false,rfl,by simp⟩
    ·rw [decide_eq_false hq]
     simp only [aa]
     have hr:bm l (c::[])=true:=iR (by simp only [List.length_cons,List.length_nil];omega)
     obtain ⟨Q,rfl⟩:∃ Q:Nat,q=(Q:Int):=⟨q.toNat,by omega⟩
     have e3:aH .i64 (i:Int) (Q:Int)=((i+Q:Nat):Int):=by rw [gu (by omega) (by omega) (by omega) (by omega)];omega
     rw [hr,e3]
     simp only [ac]
     exact ih (i+Q) _ (by omega) (by omega) (by simp only [app,List.length_append,List.length_cons,List.length_nil];omega)
   ·rw [decide_eq_false hi]
    exact ⟨l,true,rfl,by omega⟩
 exact this k 0 [] (by omega) (by omega) (by simp)
theorem CZ (k:Nat) (c:Int):pF (z2m.f k c):=by
 rw [z2m.f_eq]
 repeat' first | exact ch _ | apply dJ
theorem A2 (k:Nat) (s:iG) (hk:10<k) (hs:s.length<k) (hk2:k<1000000):pF (z1t.f k s):=by
 obtain ⟨l,b,h,hl⟩:=t8 k s hk hs hk2
 rw [z1t.f_eq,h]
 simp only [ae]
 refine jT l.length (fun n i=>z1t.l3 k n l b (i:Int)) (fun n i hi ih=>?_) (fun n=>?_) k 0 (by omega) (by omega)
 ·have e3:aH .i64 (i:Int) 1=((i+1:Nat):Int):=aB (by omega)
  simp only [z1t.l3_eq,aO,aQ,hi,decide_true,ac,e3]
  exact nu (CZ k _) fun r=>dJ (ch _) ih
 ·simp only [z1t.l3_eq,aO,Nat.lt_irrefl,decide_false,aa]
  repeat' first | exact ch _ | apply dJ
def ks (p:List iG):Prop:=p.length≤12∧∀ s ∈ p,List.length s≤120
theorem AR (k:Nat) (p:List iG) (hp:ks p) (hk:1000<k) (hk2:k<1000000):pF (z1u.f k p):=by
 rw [z1u.f_eq]
 refine dJ (ch _) (dJ (ch _) ?_)
 have:=hp.1
 refine jT p.length (fun n i=>z1u.l6 k n p (i:Int)) (fun n i hi ih=>?_) (fun n=>?_) k 0 (by omega) (by omega)
 ·have e3:aH .i64 (i:Int) 1=((i+1:Nat):Int):=aB (by omega)
  simp only [z1u.l6_eq,aO,aQ,au,hi,decide_true,ac,e3,aT (e:=.str) hi]
  have:=hp.2 p[i] (List.getElem_mem hi)
  exact nu (A2 k _ (by omega) (by omega) hk2) fun r=>dJ (ch _) ih
 ·simp only [z1u.l6_eq,aO,Nat.lt_irrefl,decide_false,aa]
  exact ch _
theorem C6 (k:Nat) (v:xX) (hv:v.2.2.length≤200) (hk:1000<k) (hk2:k<1000000):pF (z1w.f k v):=by
 rw [z1w.f_eq]
 obtain ⟨l,b,h,hl⟩:=t8 k v.2.2 (by omega) (by omega) hk2
 rw [h]
 simp only [ae]
 repeat' first | exact ch _ | apply dJ
theorem AO (k:Nat) (l:List (bu × Int)) (hl:l.length≤300) (hk:1000<k) (hk2:k<1000000):pF (z1X.f k l):=by
 rw [z1X.f_eq]
 refine jT l.length (fun n i=>z1X.l2 k n l (i:Int)) (fun n i hi ih=>?_) (fun n=>?_) k 0 (by omega) (by omega)
 ·have e3:aH .i64 (i:Int) 1=((i+1:Nat):Int):=aB (by omega)
  have e4:aq 0 (i:Int)=decide (0<i):=bA 0 i
  simp only [z1X.l2_eq,aO,aQ,hi,decide_true,ac,e3,dK,ae,e4]
  refine dJ (ch _) (dJ (ch _) (dJ (ch _) ?_))
  by_cases h0:0<i
  ·have hi1:i - 1<l.length:=by omega
   have e5:bw .i64 (i:Int) 1=((i - 1:Nat):Int):=by rw [dx (by omega) (by omega) (by omega) (by omega)];omega
   simp only [h0,decide_true,ac,e5,aQ,hi1,z1B.f_eq,iQ,ae]
   refine nu (dJ (ch _) (nu ?_ fun r=>ch _)) fun r=>dJ (ch _) ih
   rw [z1R.f_eq]
   repeat' first | exact ch _ | apply dJ
  ·simp only [h0,decide_false,aa];exact ih
 ·simp only [z1X.l2_eq,aO,Nat.lt_irrefl,decide_false,aa]
  exact ch _
structure ShortO (o:Op):Prop where
 path:ks o.2.1
 val:o.2.2.1.2.2.length≤200
 seen:o.2.2.2.2.length≤300
theorem Au (k:Nat) (o:Op):pF (z1I.f k o):=by
 rw [z1I.f_eq]
 repeat' first | exact ch _ | apply dJ
theorem DB (k:Nat) (o:Op) (ho:ShortO o) (hk:1000<k) (hk2:k<1000000):pF (z14.f k o):=by
 rw [z14.f_eq]
 obtain ⟨r1,h1⟩:=AR k _ ho.path hk hk2
 obtain ⟨r2,h2⟩:=C6 k _ ho.val hk hk2
 obtain ⟨r3,h3⟩:=AO k _ ho.seen hk hk2
 rw [h1,h2,h3]
 simp only [ae]
 repeat' first | exact ch _ | apply dJ
structure ShortT (t:cG):Prop where
 len:t.2.2.2.2.length≤20
 ops:∀ o ∈ t.2.2.2.2,ShortO o
theorem rr (k:Nat) (p:List iG) (hk:1000<k) (hk2:k<1000000):∃ b,z1h.f k p=some b∧(b=true→ks p):=by
 rw [z1h.f_eq,show aq 12 (af p)=decide (12<p.length) from cq 12 p]
 by_cases h:12<p.length
 ·rw [decide_eq_true h];exact ⟨false,rfl,fun h=>by cases h⟩
 ·rw [decide_eq_false h]
  simp only [aa]
  obtain ⟨b,hb,hbi⟩:=ep p.length (fun n i=>z1h.l4 k n p (i:Int)) (fun j=>∀ s,p[j]? = some s→List.length s≤120) (fun n i hi=>by
   have e3:aH .i64 (i:Int) 1=((i+1:Nat):Int):=aB (by omega)
   have e4:aq 120 (af p[i])=decide (120<List.length p[i]):=cq 120 p[i]
   simp only [z1h.l4_eq,aO,aQ,au,hi,decide_true,ac,e3,aT (e:=.str) hi,e4,cT,List.getElem?_eq_getElem hi]
   by_cases hl:120<List.length p[i]
   ·exact .inr ⟨fun hh=>by have:=hh _ rfl;omega,if_pos hl⟩
   ·exact .inl ⟨fun s hs=>by injection hs with hs;subst hs;omega,if_neg hl⟩) (fun n=>by simp only [z1h.l4_eq,aO,Nat.lt_irrefl,decide_false,aa]) k 0 (by omega) (by omega)
  refine ⟨b,hb,fun hh=>⟨by omega,fun s hs=>?_⟩⟩
  obtain ⟨j,hj,rfl⟩:=List.mem_iff_getElem.1 hs
  exact hbi.1 hh j (by omega) hj _ (List.getElem?_eq_getElem hj)
theorem o4 (k:Nat) (o:Op) (hk:1000<k) (hk2:k<1000000):∃ b,z1g.f k o=some b∧(b=true→ShortO o):=by
 obtain ⟨b,hb,hbi⟩:=rr k o.2.1 hk hk2
 rw [z1g.f_eq,hb]
 simp only [ae]
 rw [show bM (af o.2.2.1.2.2) 200=decide (o.2.2.1.2.2.length≤200) from oR 200 _,show bM (af o.2.2.2.2) 300=decide (o.2.2.2.2.length≤300) from oR 300 _]
 cases b with
 | false=>exact ⟨false,rfl,fun h=>by cases h⟩
 | true =>
  simp only [ac,cT]
  by_cases h:o.2.2.1.2.2.length≤200
  ·rw [if_pos h];exact ⟨_,rfl,fun hh=>⟨hbi rfl,h,of_decide_eq_true hh⟩⟩
  ·rw [if_neg h];exact ⟨false,rfl,fun h=>by cases h⟩
def Eu (k:Nat) (t:cG) (j:Nat):Prop:=∀ o,t.2.2.2.2[j]? = some o→∃ b,z1g.f k o=some b∧b=true
theorem jE (k:Nat) (t:cG) (hk:1000<k) (hk2:k<1000000):∃ b,z1q.f k t=some b∧(b=true→ShortT t):=by
 rw [z1q.f_eq,show aq 20 (af t.2.2.2.2)=decide (20<t.2.2.2.2.length) from cq 20 _]
 by_cases h:20<t.2.2.2.2.length
 ·rw [decide_eq_true h];exact ⟨false,rfl,fun h=>by cases h⟩
 ·rw [decide_eq_false h]
  simp only [aa]
  obtain ⟨b,hb,hbi⟩:=ep t.2.2.2.2.length (fun n i=>br (decide True) (z1q.l4 k n (i:Int) t) none) (Eu k t) (fun n i hi=>by
   have e3:aH .i64 (i:Int) 1=((i+1:Nat):Int):=aB (by omega)
   obtain ⟨b,hb,_⟩:=o4 k t.2.2.2.2[i] hk hk2
   simp only [decide_true,ac,z1q.l4_eq,aO,aQ,au,hi,e3,aT (e:=eJ) hi,hb,ae]
   cases b with
   | false=>exact .inr ⟨fun hh=>(by obtain ⟨c,h1,h2⟩:=hh _ (List.getElem?_eq_getElem hi);rw [hb] at h1;injection h1 with h1;subst h1;cases h2),rfl⟩
   | true=>exact .inl ⟨fun s hs=>(by rw [List.getElem?_eq_getElem hi] at hs;injection hs with hs;subst hs;exact ⟨true,hb,rfl⟩),rfl⟩) (fun n=>by simp only [decide_true,ac,z1q.l4_eq,aO,Nat.lt_irrefl,decide_false,aa]) k 0 (by omega) (by omega)
  refine ⟨b,hb,fun hh=>⟨by omega,fun o ho=>?_⟩⟩
  obtain ⟨j,hj,rfl⟩:=List.mem_iff_getElem.1 ho
  obtain ⟨c,h1,h2⟩:=hbi.1 hh j (by omega) hj _ (List.getElem?_eq_getElem hj)
  obtain ⟨d,h3,h4⟩:=o4 k _ hk hk2
  rw [h3] at h1;injection h1 with h1;subst h1
  exact h4 h2
theorem tF (k:Nat) (t:cG) (ht:ShortT t) (hk:1000<k) (hk2:k<1000000):∃ e:Int,z17.f k t=some e∧(e=0→aK t.1=true):=by
 rw [z17.f_eq,dK]
 simp only [ae]
 cases hd:aK t.1 with
 | false=>exact ⟨2,rfl,fun h=>by cases h⟩
 | true =>
  have:pF (z17.l8 k k 0 t):=by
   have:=ht.len
   refine jT t.2.2.2.2.length (fun n i=>z17.l8 k n (i:Int) t) (fun n i hi ih=>?_) (fun n=>?_) k 0 (by omega) (by omega)
   ·have e3:aH .i64 (i:Int) 1=((i+1:Nat):Int):=aB (by omega)
    obtain ⟨e,he⟩:=DB k t.2.2.2.2[i] (ht.ops _ (List.getElem_mem hi)) hk hk2
    obtain ⟨g,hg⟩:=Au k t.2.2.2.2[i]
    simp only [z17.l8_eq,aO,aQ,au,hi,decide_true,ac,e3,aT (e:=eJ) hi,he,hg,ae]
    exact dJ (dJ (dJ (ch _) ih) (dJ (ch _) ih)) ih
   ·simp only [z17.l8_eq,aO,Nat.lt_irrefl,decide_false,aa]
    exact ch _
  have bt:ai true=false:=rfl
  rw [bt]
  simp only [aa]
  have all:pF (br (aq t.2.1 0) (some (2:Int)) (br (aq 7 t.2.1) (some 2) (br (aq t.2.2.1 1) (some 2) (br (aq 1099511627776 t.2.2.1) (some 2) (br (az (af t.2.2.2.2) 0) (some 11) (br (aq 16 (af t.2.2.2.2)) (some 7) (z17.l8 k k 0 t))))))):=by
   repeat' first | exact ch _ | exact this | apply dJ
  obtain ⟨e,he⟩:=all
  exact ⟨e,he,fun _=>trivial⟩
end Go.Proofs.YtfhcammihohmjaaGreatDoor
end
noncomputable section
/- The document's characters are the machine's. -/
namespace Go.Proofs.YtfhcammihohmjaaGreatDoor
open Pal
def mX (x m w:Nat):Nat × Nat:=if x<m∨1114111<x∨(55296≤x∧x≤57343) then (0,0) else (x,w)
def CM (n b0 b1 b2 b3:Nat):Nat × Nat :=
 if b0<128 then (b0,1)
 else if 194≤b0∧b0<224 then (if n<2 then (0,0) else if b1<128∨191<b1 then (0,0) else mX (64 * (b0 - 192)+b1 - 128) 128 2)
 else if 224≤b0∧b0<240 then (if n<3 then (0,0) else if b1<128∨191<b1 then (0,0) else if b2<128∨191<b2 then (0,0) else mX (64 * (64 * (b0 - 224)+b1 - 128)+b2 - 128) 2048 3)
 else if 240≤b0∧b0<245 then (if n<4 then (0,0) else if b1<128∨191<b1 then (0,0) else if b2<128∨191<b2 then (0,0) else if b3<128∨191<b3 then (0,0) else mX (64 * (64 * (64 * (b0 - 240)+b1 - 128)+b2 - 128)+b3 - 128) 65536 4)
 else (0,0)
def sU (n b0 b1 b2 b3:Nat):Nat × Nat:=if (Go.Lib.decodeN n b0 b1 b2 b3).1=65533∧(Go.Lib.decodeN n b0 b1 b2 b3).2≤1 then (0,0) else Go.Lib.decodeN n b0 b1 b2 b3
theorem gm {n b0 b1 b2 b3:Nat} (e:Go.Lib.decodeN n b0 b1 b2 b3=(65533,1)):sU n b0 b1 b2 b3=(0,0):=by
 unfold sU;rw [e];exact if_pos ⟨rfl,Nat.le_refl _⟩
theorem mr {n b0 b1 b2 b3 c w:Nat} (e:Go.Lib.decodeN n b0 b1 b2 b3=(c,w)) (h:¬ (c=65533∧w≤1)):sU n b0 b1 b2 b3=(c,w):=by
 unfold sU;rw [e];exact if_neg h
theorem FZ {n b0 b1 b2 b3:Nat} (h:194≤b0∧b0<224):Go.Lib.decodeN n b0 b1 b2 b3=if 1<n∧b1 / 64=2 then (b0 % 32 * 64+b1 % 64,2) else (65533,1):=by
 unfold Go.Lib.decodeN
 rw [if_neg (show ¬ b0<128 by omega)]
 by_cases g:1<n∧b1 / 64=2
 ·rw [if_pos (show b0 / 32=6∧(1<n∧b1 / 64=2) from ⟨by omega,g⟩),if_pos g,if_pos (show b0 % 32 * 64+b1 % 64≥128 by omega)]
 ·rw [if_neg (show ¬ (b0 / 32=6∧(1<n∧b1 / 64=2)) from fun h=>g h.2),if_neg g,if_neg (fun hh=>by omega),if_neg (fun hh=>by omega)]
def px (b0 b1 b2:Nat):Nat:=b0 % 16 * 4096+b1 % 64 * 64+b2 % 64
def lA (b0 b1 b2 b3:Nat):Nat:=b0 % 8 * 262144+b1 % 64 * 4096+b2 % 64 * 64+b3 % 64
theorem Gz {n b0 b1 b2 b3:Nat} (h:224≤b0∧b0<240):Go.Lib.decodeN n b0 b1 b2 b3=if (1<n∧b1 / 64=2)∧(2<n∧b2 / 64=2) then (if px b0 b1 b2≥2048∧(px b0 b1 b2<55296∨(57344≤px b0 b1 b2∧px b0 b1 b2≤1114111)) then (px b0 b1 b2,3) else (65533,1)) else (65533,1):=by
 unfold Go.Lib.decodeN
 rw [if_neg (show ¬ b0<128 by omega),if_neg (show ¬ (b0 / 32=6∧(1<n∧b1 / 64=2)) from fun hh=>by omega)]
 by_cases g:(1<n∧b1 / 64=2)∧(2<n∧b2 / 64=2)
 ·rw [if_pos (show b0 / 16=14∧(1<n∧b1 / 64=2)∧(2<n∧b2 / 64=2) from ⟨by omega,g⟩),if_pos g];rfl
 ·rw [if_neg (show ¬ (b0 / 16=14∧(1<n∧b1 / 64=2)∧(2<n∧b2 / 64=2)) from fun h=>g h.2),if_neg g,if_neg (fun hh=>by omega)]
theorem EQ {n b0 b1 b2 b3:Nat} (h:240≤b0∧b0<248):Go.Lib.decodeN n b0 b1 b2 b3=if (1<n∧b1 / 64=2)∧(2<n∧b2 / 64=2)∧(3<n∧b3 / 64=2) then (if lA b0 b1 b2 b3≥65536∧(lA b0 b1 b2 b3<55296∨(57344≤lA b0 b1 b2 b3∧lA b0 b1 b2 b3≤1114111)) then (lA b0 b1 b2 b3,4) else (65533,1)) else (65533,1):=by
 unfold Go.Lib.decodeN
 rw [if_neg (show ¬ b0<128 by omega),if_neg (show ¬ (b0 / 32=6∧(1<n∧b1 / 64=2)) from fun hh=>by omega),if_neg (show ¬ (b0 / 16=14∧(1<n∧b1 / 64=2)∧(2<n∧b2 / 64=2)) from fun hh=>by omega)]
 by_cases g:(1<n∧b1 / 64=2)∧(2<n∧b2 / 64=2)∧(3<n∧b3 / 64=2)
 ·rw [if_pos (show b0 / 8=30∧(1<n∧b1 / 64=2)∧(2<n∧b2 / 64=2)∧(3<n∧b3 / 64=2) from ⟨by omega,g⟩),if_pos g];rfl
 ·rw [if_neg (show ¬ (b0 / 8=30∧(1<n∧b1 / 64=2)∧(2<n∧b2 / 64=2)∧(3<n∧b3 / 64=2)) from fun h=>g h.2),if_neg g]
theorem Gk {n b0 b1 b2 b3:Nat} (h:(128≤b0∧b0<194)∨248≤b0) (hb:b0<256):Go.Lib.decodeN n b0 b1 b2 b3=(65533,1):=by
 unfold Go.Lib.decodeN
 rw [if_neg (show ¬ b0<128 by omega)]
 by_cases g:b0 / 32=6∧(1<n∧b1 / 64=2)
 ·rw [if_pos g,if_neg (show ¬ b0 % 32 * 64+b1 % 64≥128 by omega)]
 ·rw [if_neg g,if_neg (show ¬ (b0 / 16=14∧(1<n∧b1 / 64=2)∧(2<n∧b2 / 64=2)) from fun hh=>by omega),if_neg (show ¬ (b0 / 8=30∧(1<n∧b1 / 64=2)∧(2<n∧b2 / 64=2)∧(3<n∧b3 / 64=2)) from fun hh=>by omega)]
theorem zk {x m w:Nat} (h:¬ (x≥m∧(x<55296∨(57344≤x∧x≤1114111)))):mX x m w=(0,0):=if_pos (by omega)
theorem uq {x m w:Nat} (h:x≥m∧(x<55296∨(57344≤x∧x≤1114111))):mX x m w=(x,w):=if_neg (by omega)
theorem Dj (n b0 b1 b2 b3:Nat) (hn:1≤n) (h0:b0<256) (h1:b1<256) (h2:b2<256) (h3:b3<256):CM n b0 b1 b2 b3=sU n b0 b1 b2 b3:=by
 unfold CM
 by_cases c0:b0<128
 ·have e:Go.Lib.decodeN n b0 b1 b2 b3=(b0,1):=by unfold Go.Lib.decodeN;rw [if_pos c0]
  rw [if_pos c0,mr e (fun h=>by omega)]
 rw [if_neg c0]
 by_cases c1:194≤b0∧b0<224
 ·rw [if_pos c1]
  have e:=FZ (n:=n) (b1:=b1) (b2:=b2) (b3:=b3) c1
  by_cases g:1<n∧b1 / 64=2
  ·rw [if_pos g] at e
   rw [mr e (fun h=>by omega),if_neg (show ¬ n<2 by omega),if_neg (show ¬ (b1<128∨191<b1) by omega),show 64 * (b0 - 192)+b1 - 128=b0 % 32 * 64+b1 % 64 by omega]
   exact uq (by omega)
  ·rw [if_neg g] at e
   rw [gm e]
   by_cases g1:n<2
   ·rw [if_pos g1]
   ·rw [if_neg g1,if_pos (show b1<128∨191<b1 by omega)]
 rw [if_neg c1]
 by_cases c2:224≤b0∧b0<240
 ·rw [if_pos c2]
  have e:=Gz (n:=n) (b1:=b1) (b2:=b2) (b3:=b3) c2
  by_cases g:(1<n∧b1 / 64=2)∧(2<n∧b2 / 64=2)
  ·rw [if_pos g] at e
   rw [if_neg (show ¬ n<3 by omega),if_neg (show ¬ (b1<128∨191<b1) by omega),if_neg (show ¬ (b2<128∨191<b2) by omega),show 64 * (64 * (b0 - 224)+b1 - 128)+b2 - 128=px b0 b1 b2 by unfold px;omega]
   by_cases q:px b0 b1 b2≥2048∧(px b0 b1 b2<55296∨(57344≤px b0 b1 b2∧px b0 b1 b2≤1114111))
   ·rw [if_pos q] at e
    rw [mr e (fun h=>by omega),uq q]
   ·rw [if_neg q] at e
    rw [gm e,zk q]
  ·rw [if_neg g] at e
   rw [gm e]
   by_cases g1:n<3
   ·rw [if_pos g1]
   ·rw [if_neg g1]
    by_cases g2:b1<128∨191<b1
    ·rw [if_pos g2]
    ·rw [if_neg g2,if_pos (show b2<128∨191<b2 by omega)]
 rw [if_neg c2]
 by_cases c3:240≤b0∧b0<245
 ·rw [if_pos c3]
  have e:=EQ (n:=n) (b1:=b1) (b2:=b2) (b3:=b3) (show 240≤b0∧b0<248 by omega)
  by_cases g:(1<n∧b1 / 64=2)∧(2<n∧b2 / 64=2)∧(3<n∧b3 / 64=2)
  ·rw [if_pos g] at e
   rw [if_neg (show ¬ n<4 by omega),if_neg (show ¬ (b1<128∨191<b1) by omega),if_neg (show ¬ (b2<128∨191<b2) by omega),if_neg (show ¬ (b3<128∨191<b3) by omega),show 64 * (64 * (64 * (b0 - 240)+b1 - 128)+b2 - 128)+b3 - 128=lA b0 b1 b2 b3 by unfold lA;omega]
   by_cases q:lA b0 b1 b2 b3≥65536∧(lA b0 b1 b2 b3<55296∨(57344≤lA b0 b1 b2 b3∧lA b0 b1 b2 b3≤1114111))
   ·rw [if_pos q] at e
    rw [mr e (fun h=>by omega),uq q]
   ·rw [if_neg q] at e
    rw [gm e,zk q]
  ·rw [if_neg g] at e
   rw [gm e]
   by_cases g1:n<4
   ·rw [if_pos g1]
   ·rw [if_neg g1]
    by_cases g2:b1<128∨191<b1
    ·rw [if_pos g2]
    ·rw [if_neg g2]
     by_cases g3:b2<128∨191<b2
     ·rw [if_pos g3]
     ·rw [if_neg g3,if_pos (show b3<128∨191<b3 by omega)]
 ·rw [if_neg c3]
  by_cases c4:245≤b0∧b0<248
  ·have e:=EQ (n:=n) (b1:=b1) (b2:=b2) (b3:=b3) (show 240≤b0∧b0<248 by omega)
   have hv:¬ (lA b0 b1 b2 b3≥65536∧(lA b0 b1 b2 b3<55296∨(57344≤lA b0 b1 b2 b3∧lA b0 b1 b2 b3≤1114111))):=by unfold lA;omega
   rw [if_neg hv,ite_self] at e
   rw [gm e]
  ·rw [gm (Gk (by omega) h0)]
def ci (t:iG) (i:Nat):Nat:=(List.getD t i 0).toNat
theorem jv (t:iG) (i:Nat):ci t i<256:=UInt8.toNat_lt _
theorem Fy (t:iG) (i:Nat):bd t (i:Int)=(ci t i:Int):=rfl
theorem ug (k n N x m:Nat) (t:iG):z1V.l17 k (n+1) t (x:Int) (N:Int) (m:Int) (N:Int)=some (((mX x m N).1:Int),((mX x m N).2:Int)):=by
 rw [z1V.l17_eq,bA,decide_eq_false (Nat.lt_irrefl _),aa,bA]
 unfold mX
 by_cases h1:x<m
 ·rw [decide_eq_true h1,ac,if_pos (.inl h1)];rfl
 ·rw [decide_eq_false h1,aa,show aq (1114111:Int) (x:Int)=decide (1114111<x) from bA 1114111 x]
  by_cases h2:1114111<x
  ·rw [decide_eq_true h2,ac,if_pos (.inr (.inl h2))];rfl
  ·rw [decide_eq_false h2,aa,show bM (55296:Int) (x:Int)=decide (55296≤x) from decide_eq_decide.2 ⟨fun h=>by omega,fun h=>by omega⟩]
   by_cases h3:55296≤x
   ·rw [decide_eq_true h3,ac,show bM (x:Int) (57343:Int)=decide (x≤57343) from decide_eq_decide.2 ⟨fun h=>by omega,fun h=>by omega⟩]
    by_cases h4:x≤57343
    ·rw [decide_eq_true h4,ac,if_pos (.inr (.inr ⟨h3,h4⟩))];rfl
    ·rw [decide_eq_false h4,aa,if_neg (by omega)]
   ·rw [decide_eq_false h3,aa,if_neg (by omega)]
theorem jh (k n N x m i:Nat) (t:iG) (hi:i<N) (hN:N≤t.length) (hx:x<1000000) (hi4:i<100) :
  z1V.l17 k (n+1) t (x:Int) (N:Int) (m:Int) (i:Int)=if ci t i<128∨191<ci t i then some (0,0) else z1V.l17 k n t ((64 * x+ci t i - 128:Nat):Int) (N:Int) (m:Int) ((i+1:Nat):Int):=by
 have hb:=jv t i
 rw [z1V.l17_eq,bA,decide_eq_true hi,ac,aQ,decide_eq_true (show i<t.length by omega),ac,Fy,show aq ((ci t i:Nat):Int) 128=decide (ci t i<128) from bA _ 128,
  show aq (191:Int) ((ci t i:Nat):Int)=decide (191<ci t i) from bA 191 _]
 by_cases h1:ci t i<128
 ·rw [decide_eq_true h1,ac,if_pos (.inl h1)]
 ·rw [decide_eq_false h1,aa,ac]
  by_cases h2:191<ci t i
  ·rw [decide_eq_true h2,ac,if_pos (.inr h2)]
  ·have e1:bj .i64 ((ci t i:Nat):Int)=((ci t i:Nat):Int):=by
    show IntKind.wrap .i64 _=_
    rw [IntKind.wrap_i64];omega
   have e2:gB .i64 64 (x:Int)=((64 * x:Nat):Int):=by
    show IntKind.wrap .i64 (64 * (x:Int))=_
    rw [IntKind.wrap_i64];omega
   have e3:aH .i64 ((64 * x:Nat):Int) ((ci t i:Nat):Int)=((64 * x+ci t i:Nat):Int):=by
    show IntKind.wrap .i64 (((64 * x:Nat):Int)+((ci t i:Nat):Int))=_
    rw [IntKind.wrap_i64];omega
   have e4:bw .i64 ((64 * x+ci t i:Nat):Int) 128=((64 * x+ci t i - 128:Nat):Int):=by
    show IntKind.wrap .i64 (((64 * x+ci t i:Nat):Int) - 128)=_
    rw [IntKind.wrap_i64];omega
   rw [decide_eq_false h2,aa,ac,e1,e2,e3,e4,aB (show i<4611686018427387904 by omega),if_neg (by omega)]
theorem Bu (k:Nat) (t:iG) (hk:10<k) (h0:t ≠ []):z1V.f k t=some (((CM t.length (ci t 0) (ci t 1) (ci t 2) (ci t 3)).1:Int),((CM t.length (ci t 0) (ci t 1) (ci t 2) (ci t 3)).2:Int)):=by
 have hl:0<t.length:=List.length_pos_iff.2 h0
 obtain ⟨q,rfl⟩:∃ q,k=q+5:=⟨k - 5,by omega⟩
 have hb:=jv t 0;have hb1:=jv t 1;have hb2:=jv t 2;have hb3:=jv t 3
 have e0:az (af t) 0=decide (t.length=0):=uM t
 have e1:bO 0 t=true:=by
  rw [show bO 0 t=decide (0<t.length) from aQ 0 t];exact decide_eq_true hl
 have l2:∀ c:Nat,aq (af t) (c:Int)=decide (t.length<c):=fun c=>by unfold aq af;exact decide_eq_decide.2 ⟨fun h=>by omega,fun h=>by omega⟩
 have eb:bj .i64 (bd t 0)=((ci t 0:Nat):Int):=by
  show IntKind.wrap .i64 ((ci t 0:Nat):Int)=_
  rw [IntKind.wrap_i64];omega
 have m2:∀ x:Nat,x<100→2≤t.length→z1V.l17 (q+5) (q+5) t (x:Int) 2 128 1=some (((if ci t 1<128∨191<ci t 1 then (0,0) else mX (64 * x+ci t 1 - 128) 128 2:Nat × Nat).1:Int),((if ci t 1<128∨191<ci t 1 then (0,0) else mX (64 * x+ci t 1 - 128) 128 2:Nat × Nat).2:Int)):=fun x hx h2=>by
  have s1:=jh (q+5) (q+4) 2 x 128 1 t (by omega) h2 (by omega) (by omega)
  have s2:=ug (q+5) (q+3) 2 (64 * x+ci t 1 - 128) 128 t
  refine s1.trans ?_
  by_cases h:ci t 1<128∨191<ci t 1
  ·rw [if_pos h,if_pos h];rfl
  ·rw [if_neg h,if_neg h];exact s2
 have m3:∀ x:Nat,x<100→3≤t.length→z1V.l17 (q+5) (q+5) t (x:Int) 3 2048 1=some (((if ci t 1<128∨191<ci t 1 then (0,0) else if ci t 2<128∨191<ci t 2 then (0,0) else mX (64 * (64 * x+ci t 1 - 128)+ci t 2 - 128) 2048 3:Nat × Nat).1:Int),((if ci t 1<128∨191<ci t 1 then (0,0) else if ci t 2<128∨191<ci t 2 then (0,0) else mX (64 * (64 * x+ci t 1 - 128)+ci t 2 - 128) 2048 3:Nat × Nat).2:Int)):=fun x hx h2=>by
  have s1:=jh (q+5) (q+4) 3 x 2048 1 t (by omega) h2 (by omega) (by omega)
  have s2:=jh (q+5) (q+3) 3 (64 * x+ci t 1 - 128) 2048 2 t (by omega) h2 (by omega) (by omega)
  have s3:=ug (q+5) (q+2) 3 (64 * (64 * x+ci t 1 - 128)+ci t 2 - 128) 2048 t
  refine s1.trans ?_
  by_cases h:ci t 1<128∨191<ci t 1
  ·rw [if_pos h,if_pos h];rfl
  ·rw [if_neg h,if_neg h]
   refine s2.trans ?_
   by_cases h':ci t 2<128∨191<ci t 2
   ·rw [if_pos h',if_pos h'];rfl
   ·rw [if_neg h',if_neg h'];exact s3
 have m4:∀ x:Nat,x<100→4≤t.length→z1V.l17 (q+5) (q+5) t (x:Int) 4 65536 1=some (((if ci t 1<128∨191<ci t 1 then (0,0) else if ci t 2<128∨191<ci t 2 then (0,0) else if ci t 3<128∨191<ci t 3 then (0,0) else mX (64 * (64 * (64 * x+ci t 1 - 128)+ci t 2 - 128)+ci t 3 - 128) 65536 4:Nat × Nat).1:Int),((if ci t 1<128∨191<ci t 1 then (0,0) else if ci t 2<128∨191<ci t 2 then (0,0) else if ci t 3<128∨191<ci t 3 then (0,0) else mX (64 * (64 * (64 * x+ci t 1 - 128)+ci t 2 - 128)+ci t 3 - 128) 65536 4:Nat × Nat).2:Int)):=fun x hx h2=>by
  have s1:=jh (q+5) (q+4) 4 x 65536 1 t (by omega) h2 (by omega) (by omega)
  have s2:=jh (q+5) (q+3) 4 (64 * x+ci t 1 - 128) 65536 2 t (by omega) h2 (by omega) (by omega)
  have s3:=jh (q+5) (q+2) 4 (64 * (64 * x+ci t 1 - 128)+ci t 2 - 128) 65536 3 t (by omega) h2 (by omega) (by omega)
  have s4:=ug (q+5) (q+1) 4 (64 * (64 * (64 * x+ci t 1 - 128)+ci t 2 - 128)+ci t 3 - 128) 65536 t
  refine s1.trans ?_
  by_cases h:ci t 1<128∨191<ci t 1
  ·rw [if_pos h,if_pos h];rfl
  ·rw [if_neg h,if_neg h]
   refine s2.trans ?_
   by_cases h':ci t 2<128∨191<ci t 2
   ·rw [if_pos h',if_pos h'];rfl
   ·rw [if_neg h',if_neg h']
    refine s3.trans ?_
    by_cases h'':ci t 3<128∨191<ci t 3
    ·rw [if_pos h'',if_pos h''];rfl
    ·rw [if_neg h'',if_neg h''];exact s4
 have bl:∀ c:Nat,aq ((ci t 0:Nat):Int) (c:Int)=decide (ci t 0<c):=fun c=>bA _ c
 have bg:∀ c:Nat,bM (c:Int) ((ci t 0:Nat):Int)=decide (c≤ci t 0):=fun c=>decide_eq_decide.2 ⟨fun h=>by omega,fun h=>by omega⟩
 have su:∀ c:Nat,c≤ci t 0→bw .i64 ((ci t 0:Nat):Int) (c:Int)=((ci t 0 - c:Nat):Int):=fun c hc=>by
  show IntKind.wrap .i64 (((ci t 0:Nat):Int) - (c:Int))=_
  rw [IntKind.wrap_i64];omega
 rw [z1V.f_eq,e0,decide_eq_false (by omega),aa,e1,ac,eb,show aq ((ci t 0:Nat):Int) 128=_ from bl 128]
 unfold CM
 by_cases c0:ci t 0<128
 ·rw [decide_eq_true c0,ac,if_pos c0];rfl
 rw [decide_eq_false c0,aa,if_neg c0,show bM (194:Int) ((ci t 0:Nat):Int)=_ from bg 194,show aq ((ci t 0:Nat):Int) 224=_ from bl 224,show bM (224:Int) ((ci t 0:Nat):Int)=_ from bg 224,
  show aq ((ci t 0:Nat):Int) 240=_ from bl 240,show bM (240:Int) ((ci t 0:Nat):Int)=_ from bg 240,show aq ((ci t 0:Nat):Int) 245=_ from bl 245,
  show aq (af t) 2=_ from l2 2,show aq (af t) 3=_ from l2 3,show aq (af t) 4=_ from l2 4]
 by_cases c1:194≤ci t 0∧ci t 0<224
 ·rw [decide_eq_true c1.1,ac,decide_eq_true c1.2,ac,if_pos c1]
  by_cases g:t.length<2
  ·rw [decide_eq_true g,ac,if_pos g];rfl
  ·rw [decide_eq_false g,aa,if_neg g,show bw .i64 ((ci t 0:Nat):Int) 192=_ from su 192 (by omega)]
   exact m2 _ (by omega) (by omega)
 rw [if_neg c1]
 by_cases c2:224≤ci t 0∧ci t 0<240
 ·rw [decide_eq_true (show 194≤ci t 0 by omega),ac,decide_eq_false (show ¬ ci t 0<224 by omega),aa,decide_eq_true c2.1,ac,decide_eq_true c2.2,ac,if_pos c2]
  by_cases g:t.length<3
  ·rw [decide_eq_true g,ac,if_pos g];rfl
  ·rw [decide_eq_false g,aa,if_neg g,show bw .i64 ((ci t 0:Nat):Int) 224=_ from su 224 (by omega)]
   exact m3 _ (by omega) (by omega)
 rw [if_neg c2]
 by_cases c3:240≤ci t 0∧ci t 0<245
 ·rw [decide_eq_true (show 194≤ci t 0 by omega),ac,decide_eq_false (show ¬ ci t 0<224 by omega),aa,decide_eq_true (show 224≤ci t 0 by omega),ac,decide_eq_false (show ¬ ci t 0<240 by omega),aa,decide_eq_true c3.1,ac,decide_eq_true c3.2,ac,if_pos c3]
  by_cases g:t.length<4
  ·rw [decide_eq_true g,ac,if_pos g];rfl
  ·rw [decide_eq_false g,aa,if_neg g,show bw .i64 ((ci t 0:Nat):Int) 240=_ from su 240 (by omega)]
   exact m4 _ (by omega) (by omega)
 rw [if_neg c3]
 by_cases d1:194≤ci t 0
 ·have d2:¬ ci t 0<224:=by omega
  have d3:224≤ci t 0:=by omega
  have d4:¬ ci t 0<240:=by omega
  have d5:240≤ci t 0:=by omega
  have d6:¬ ci t 0<245:=by omega
  rw [decide_eq_true d1,ac,decide_eq_false d2,aa,decide_eq_true d3,ac,decide_eq_false d4,aa,decide_eq_true d5,ac,decide_eq_false d6,aa];rfl
 ·have d3:¬ 224≤ci t 0:=by omega
  have d5:¬ 240≤ci t 0:=by omega
  rw [decide_eq_false d1,aa,decide_eq_false d3,aa,decide_eq_false d5,aa];rfl
end Go.Proofs.YtfhcammihohmjaaGreatDoor
end
noncomputable section
/- Names and values: the program's tests are the document's. -/
namespace Go.Proofs.YtfhcammihohmjaaGreatDoor
open Pal
theorem E4 (s:iG) (j:Nat):((⟨s.toArray⟩:ByteArray).get! j).toNat=ci s j:=by
 unfold ci
 show (s.toArray.getD j default).toNat=_
 rw [Array.getD_eq_getD_getElem?,List.getElem?_toArray,← List.getD_eq_getElem?_getD];rfl
theorem nc (s:iG) (i j:Nat):ci (s.drop i) j=ci s (i+j):=by
 unfold ci
 rw [List.getD_eq_getElem?_getD,List.getD_eq_getElem?_getD,List.getElem?_drop]
theorem mi (s:iG) (i:Nat):ba s (i:Int) (af s)=s.drop i:=by
 unfold ba af
 rw [Int.toNat_natCast,Int.toNat_natCast,List.take_length]
theorem Co (k:Nat) (s:iG) (i:Nat) (hi:i<s.length) (hk:10<k) :
  z1V.f k (ba s (i:Int) (af s))=some (if lD ⟨s.toArray⟩ i=true then (0,0) else (((Go.Utf8.decode ⟨s.toArray⟩ i).1:Int),((Go.Utf8.decode ⟨s.toArray⟩ i).2:Int))):=by
 have hne:s.drop i ≠ []:=fun h=>by have:=congrArg List.length h;rw [List.length_drop,List.length_nil] at this;omega
 have hd:Go.Utf8.decode ⟨s.toArray⟩ i=Go.Lib.decodeN (s.length - i) (ci s i) (ci s (i+1)) (ci s (i+2)) (ci s (i+3)):=by
  rw [Go.Lib.decode_at,E4,E4,E4,E4];rfl
 rw [mi,Bu k _ hk hne,Dj _ _ _ _ _ (by rw [List.length_drop];omega) (jv _ _) (jv _ _) (jv _ _) (jv _ _),List.length_drop,nc,nc,nc,nc,Nat.add_zero]
 unfold sU lD
 rw [← hd]
 by_cases h:(Go.Utf8.decode ⟨s.toArray⟩ i).1=65533∧(Go.Utf8.decode ⟨s.toArray⟩ i).2≤1
 ·rw [if_pos h,if_pos (by rw [decide_eq_true h.1,decide_eq_true h.2];rfl)];rfl
 ·rw [if_neg h,if_neg (fun hh=>h (by simpa using hh))]
theorem vX (k:Nat) (s:iG) (hk:10<k) (hs:s.length<1000000):∀ (f n i:Nat) (x:List Int),s.length≤f+i→s.length<n+i→i≤s.length→x.length≤i →
  z1A.l3 k n s x (i:Int)=some (match dG ⟨s.toArray⟩ f i with | some l=>(x++l,true) | none=>([],false))
 | f,0,i,x,_,h,_,_=>by omega
 | 0,n+1,i,x,h0,h,hi,hx=>by
  have e:i=s.length:=by omega
  subst e
  rw [z1A.l3_eq,aO,decide_eq_false (Nat.lt_irrefl _),aa]
  show some (x,true)=some (x++[],true)
  rw [List.append_nil]
 | f+1,n+1,i,x,h0,h,hi,hx=>by
  have hsz:(⟨s.toArray⟩:ByteArray).size=s.length:=by simp [ByteArray.size]
  rw [z1A.l3_eq,aO]
  by_cases hl:i<s.length
  ·have hin:eE (i:Int) (af s) (af s)=true:=by
    have h1:(i:Int)≤(s.length:Int):=by omega
    show (decide ((0:Int)≤(i:Int)) && decide ((i:Int)≤(s.length:Int)) && decide ((s.length:Int)≤(s.length:Int)))=true
    rw [decide_eq_true h1,decide_eq_true (show (0:Int)≤(i:Int) by omega),decide_eq_true (Int.le_refl _)];rfl
   have hw:=qU ⟨s.toArray⟩ i (by rw [hsz];exact hl)
   obtain ⟨c,q,hc,q0,q1⟩:=vR k (ba s (i:Int) (af s)) hk (by rw [mi,List.length_drop];omega)
   rw [mi,List.length_drop] at q1
   have hr:=Co k s i hl hk
   rw [dG,if_pos (by rw [hsz];exact hl),decide_eq_true hl,ac,hin,ac,hr,ae]
   by_cases hb:lD ⟨s.toArray⟩ i=true
   ·rw [if_pos hb,if_pos hb];rfl
   ·rw [if_neg hb,if_neg hb]
    rw [hr,if_neg hb] at hc
    injection hc with hc
    have hq:((Go.Utf8.decode ⟨s.toArray⟩ i).2:Int)=q:=congrArg Prod.snd hc
    have e0:az ((Go.Utf8.decode ⟨s.toArray⟩ i).2:Int) 0=false:=by rw [aW];exact decide_eq_false (by omega)
    have e3:aH .i64 (i:Int) ((Go.Utf8.decode ⟨s.toArray⟩ i).2:Int)=((i+(Go.Utf8.decode ⟨s.toArray⟩ i).2:Nat):Int):=by rw [gu (by omega) (by omega) (by omega) (by omega)];omega
    rw [show az ((((Go.Utf8.decode ⟨s.toArray⟩ i).1:Int),((Go.Utf8.decode ⟨s.toArray⟩ i).2:Int)):Int × Int).2 0=false from e0,aa,fX (show x.length<4000000 by omega),ac]
    show z1A.l3 k n s _ (aH .i64 (i:Int) ((Go.Utf8.decode ⟨s.toArray⟩ i).2:Int))=_
    rw [e3,vX k s hk hs f n _ _ (by omega) (by omega) (by omega) (by simp only [app,List.length_append,List.length_cons,List.length_nil];omega)]
    cases dG ⟨s.toArray⟩ f (i+(Go.Utf8.decode ⟨s.toArray⟩ i).2) with
    | none=>rfl
    | some l=>simp [app]
  ·have e:i=s.length:=by omega
   subst e
   rw [decide_eq_false hl,aa,dG,if_neg (by rw [hsz];omega)]
   show some (x,true)=some (x++[],true)
   rw [List.append_nil]
theorem uQ (k:Nat) (s:iG) (hk:10<k) (hs:s.length<k) (hk2:k<1000000):z1A.f k s=gz s:=by
 have h:=vX k s hk (by omega) s.length k 0 [] (by omega) (by omega) (by omega) (by simp)
 have hz:Nat.ble s.length 1099511627776=true:=Nat.ble_eq_true_of_le (by omega)
 rw [z1A.f_eq]
 refine h.trans ?_
 unfold gz
 rw [hz,cond_true];rfl
theorem FK (k:Nat) (c:Int):z2R.f k c=some (uW c):=by
 rw [z2R.f_eq,show aq c 32=decide (c<32) from rfl]
 unfold uW
 by_cases h1:c<32
 ·rw [decide_eq_true h1,ac,ac];rfl
 ·rw [decide_eq_false h1,aa,show bM 127 c=decide (127≤c) from rfl,show aq c 160=decide (c<160) from rfl,aW,bB]
  by_cases h2:127≤c
  ·rw [decide_eq_true h2,ac]
   by_cases h3:c<160
   ·rw [decide_eq_true h3,ac];rfl
   ·rw [decide_eq_false h3,aa];simp
  ·rw [decide_eq_false h2,aa];simp
theorem Dm (k:Nat) (c:Int):z2m.f k c=some (uW c):=by
 rw [z2m.f_eq,show bM 32 c=decide (32≤c) from rfl,show aq c 127=decide (c<127) from rfl,show aq 159 c=decide (159<c) from rfl,aW,bB]
 unfold uW
 by_cases h1:32≤c
 ·rw [decide_eq_true h1,ac,decide_eq_false (show ¬ c<32 by omega)]
  by_cases h2:c<127
  ·rw [decide_eq_true h2,ac,decide_eq_false (show ¬ 127≤c by omega)];simp
  ·rw [decide_eq_false h2,aa,decide_eq_true (show 127≤c by omega)]
   by_cases h3:159<c
   ·rw [decide_eq_true h3,ac,decide_eq_false (show ¬ c<160 by omega)];simp
   ·rw [decide_eq_false h3,aa,decide_eq_true (show c<160 by omega)];rfl
 ·rw [decide_eq_false h1,aa,decide_eq_true (show c<32 by omega)];rfl
theorem pO {α:Type} {xs:List α} {i:Nat} (h:i<xs.length) (p:α→Bool):(xs.drop i).all p=(p xs[i] && (xs.drop (i+1)).all p):=by
 rw [List.drop_eq_getElem_cons h,List.all_cons]
theorem CU (k:Nat) (l:List Int) (hl:l.length<1000000):∀ (n i:Nat),i≤l.length→l.length<n+i→z1K.l5 k n l (af l) (i:Int)=some ((l.drop i).all uW)
 | 0,i,_,h=>by omega
 | n+1,i,h,h'=>by
  rw [z1K.l5_eq,aO,aQ,au]
  by_cases hi:i<l.length
  ·rw [decide_eq_true hi,ac,ac,aT (e:=.int .i32) hi,FK,ae,aB (by omega),pO hi,CU k l hl n (i+1) (by omega) (by omega)]
   cases uW l[i] <;> rfl
  ·rw [decide_eq_false hi,aa,List.drop_eq_nil_of_le (by omega)];rfl
theorem zB (k:Nat) (l:List Int) (b:Bool) (hl:l.length<1000000):∀ (n i:Nat),i≤l.length→l.length<n+i→z1t.l3 k n l b (i:Int)=some ((l.drop i).all uW && (b && (decide (1≤l.length) && decide (l.length≤24))))
 | 0,i,_,h=>by omega
 | n+1,i,h,h'=>by
  rw [z1t.l3_eq,aO,aQ,au]
  by_cases hi:i<l.length
  ·rw [decide_eq_true hi,ac,ac,aT (e:=.int .i64) hi,Dm,ae,aB (by omega),pO hi,zB k l b hl n (i+1) (by omega) (by omega)]
   cases uW l[i] <;> rfl
  ·have e1:bM 1 (af l)=decide (1≤l.length):=decide_eq_decide.2 ⟨fun h=>by unfold af at h;omega,fun h=>by unfold af;omega⟩
   have e2:bM (af l) 24=decide (l.length≤24):=oR 24 l
   rw [decide_eq_false hi,aa,List.drop_eq_nil_of_le (by omega),e1,e2]
   cases b <;> cases decide (1≤l.length) <;> rfl
theorem xA {s:iG} {r:List Int × Bool} (h:gz s=some r):r.1.length≤s.length∧(r.2=false→r.1=[]):=by
 unfold gz at h
 cases hz:Nat.ble s.length 1099511627776 with
 | false=>rw [hz] at h;cases h
 | true =>
  rw [hz,cond_true] at h
  injection h with h
  subst h
  have key:∀ (f i:Nat) (l:List Int),dG ⟨s.toArray⟩ f i=some l→l.length≤f:=by
   intro f
   induction f with
   | zero=>intro i l h;injection h with h;subst h;simp
   | succ f ih =>
    intro i l h
    rw [dG] at h
    by_cases hp:i<(⟨s.toArray⟩:ByteArray).size
    ·rw [if_pos hp] at h
     by_cases hb:lD ⟨s.toArray⟩ i=true
     ·rw [if_pos hb] at h;cases h
     ·rw [if_neg hb] at h
      cases hr:dG ⟨s.toArray⟩ f (i+(Go.Utf8.decode ⟨s.toArray⟩ i).2) with
      | none=>rw [hr] at h;cases h
      | some l' =>
       rw [hr] at h
       have h:some (((Go.Utf8.decode ⟨s.toArray⟩ i).1:Int)::l')=some l:=h
       injection h with h;subst h
       have:=ih _ _ hr
       simp only [List.length_cons];omega
    ·rw [if_neg hp] at h;injection h with h;subst h;simp
  cases hr:dG ⟨s.toArray⟩ s.length 0 with
  | none=>exact ⟨by simp,fun _=>rfl⟩
  | some l=>exact ⟨key _ _ _ hr,fun h=>by cases h⟩
theorem E7 (k:Nat) (s:iG) (hk:10<k) (hs:s.length<k) (hk2:k<1000000):∃ b,z1K.f k s=some b∧z1t.f k s=some b:=by
 have hz:Nat.ble s.length 1099511627776=true:=Nat.ble_eq_true_of_le (by omega)
 obtain ⟨r,hr⟩:∃ r,gz s=some r:=⟨_,by unfold gz;rw [hz,cond_true]⟩
 obtain ⟨l1,l2⟩:=xA hr
 rw [z1t.f_eq,uQ k s hk hs hk2,hr,ae,z1K.f_eq,hr,ae]
 have g2:=zB k r.1 r.2 (by omega) k 0 (by omega) (by omega)
 have g1:=CU k r.1 (by omega) k 0 (by omega) (by omega)
 rw [List.drop_zero] at g1 g2
 refine ⟨_,?_,g2⟩
 cases h2:r.2 with
 | false=>rw [l2 h2];rfl
 | true =>
  have bt:ai true=false:=rfl
  have e0:az (af r.1) 0=decide (r.1.length=0):=uM r.1
  rw [bt,aa,e0,show aq 24 (af r.1)=decide (24<r.1.length) from cq 24 r.1]
  by_cases c1:r.1.length=0
  ·rw [decide_eq_true c1,ac,decide_eq_false (show ¬ 1≤r.1.length by omega)];simp
  ·rw [decide_eq_false c1,aa,decide_eq_true (show 1≤r.1.length by omega)]
   by_cases c2:24<r.1.length
   ·rw [decide_eq_true c2,ac,decide_eq_false (show ¬ r.1.length≤24 by omega)];simp
   ·rw [decide_eq_false c2,aa,decide_eq_true (show r.1.length≤24 by omega)]
    refine g1.trans ?_
    simp
theorem Bo (k:Nat) (v:xX) (hk:10<k) (hs:v.2.2.length<k) (hk2:k<1000000):∃ b,z1r.f k v=some b∧z1w.f k v=some b:=by
 have hz:Nat.ble v.2.2.length 1099511627776=true:=Nat.ble_eq_true_of_le (by omega)
 obtain ⟨r,hr⟩:∃ r,gz v.2.2=some r:=⟨_,by unfold gz;rw [hz,cond_true]⟩
 rw [z1r.f_eq,z1w.f_eq,uQ k v.2.2 hk hs hk2,hr]
 simp only [ae]
 cases az v.1 1 with
 | true =>
  simp only [ac]
  cases seq v.2.2 [] <;> cases bM (-2147483647) v.2.1 <;> exact ⟨_,rfl,rfl⟩
 | false =>
  simp only [aa]
  cases az v.1 2 with
  | true =>
   simp only [ac]
   cases r.2 <;> cases az v.2.1 0 <;> exact ⟨_,rfl,rfl⟩
  | false =>
   simp only [aa]
   cases az v.1 3 with
   | false=>exact ⟨_,rfl,rfl⟩
   | true =>
    simp only [ac]
    cases seq v.2.2 [] with
    | false=>exact ⟨_,rfl,rfl⟩
    | true =>
     simp only [ac]
     rw [aW,show bM 0 v.2.1=decide (0≤v.2.1) from rfl,show bM v.2.1 1=decide (v.2.1≤1) from rfl,aW]
     by_cases h0:v.2.1=0
     ·rw [decide_eq_true h0,ac,decide_eq_true (show 0≤v.2.1 by omega),ac,decide_eq_true (show v.2.1≤1 by omega)];exact ⟨_,rfl,rfl⟩
     ·rw [decide_eq_false h0,aa]
      by_cases h1:v.2.1=1
      ·rw [decide_eq_true h1,decide_eq_true (show 0≤v.2.1 by omega),ac,decide_eq_true (show v.2.1≤1 by omega)];exact ⟨_,rfl,rfl⟩
      ·rw [decide_eq_false h1]
       by_cases h2:0≤v.2.1
       ·rw [decide_eq_true h2,ac,decide_eq_false (show ¬ v.2.1≤1 by omega)];exact ⟨_,rfl,rfl⟩
       ·rw [decide_eq_false h2,aa];exact ⟨_,rfl,rfl⟩
end Go.Proofs.YtfhcammihohmjaaGreatDoor
end
noncomputable section
/- Paths, operations, transactions: the program's tests are the document's. -/
namespace Go.Proofs.YtfhcammihohmjaaGreatDoor
open Pal
theorem Ba (k:Nat) (p:List iG) (hp:∀ s ∈ p,List.length s<k) (hk:10<k) (hk2:k<1000000) (hl:p.length<1000000):∀ (n i:Nat),i≤p.length→p.length<n+i →
  ∃ r:Int,z0c.l2 k n p (af p) (i:Int)=some r∧z1u.l6 k n p (i:Int)=some (if 0≤r then 8 else 0)
 | 0,i,_,h=>by omega
 | n+1,i,h,h'=>by
  rw [z0c.l2_eq,z1u.l6_eq,aO,aQ,au]
  by_cases hi:i<p.length
  ·obtain ⟨b,g1,g2⟩:=E7 k p[i] hk (hp _ (List.getElem_mem hi)) hk2
   rw [decide_eq_true hi,ac,ac,ac,ac,aT (e:=.str) hi,z0Z.f_eq,g1,g2,ae,ae,ae,aB (by omega)]
   cases b with
   | false=>exact ⟨(i:Int),rfl,by rw [if_pos (by omega)];rfl⟩
   | true=>exact Ba k p hp hk hk2 hl n (i+1) (by omega) (by omega)
  ·rw [decide_eq_false hi,aa,aa];exact ⟨-1,rfl,rfl⟩
theorem zw (k:Nat) (p:List iG) (hp:∀ s ∈ p,List.length s<k) (hk:10<k) (hk2:k<1000000) (hl:p.length<k):∃ e:Int,z1Q.f k p=some e∧z1u.f k p=some e:=by
 rw [z1Q.f_eq,z1u.f_eq,z09.f_eq,z0c.f_eq]
 cases az (af p) 0 with
 | true=>exact ⟨8,rfl,rfl⟩
 | false =>
  cases aq 8 (af p) with
  | true=>exact ⟨9,rfl,rfl⟩
  | false =>
   obtain ⟨r,g1,g2⟩:=Ba k p hp hk hk2 (by omega) k 0 (by omega) (by omega)
   rw [show ((0:Nat):Int)=0 from rfl] at g1 g2
   rw [aa,aa,aa,aa,g1,g2,ae,ae,show bM 0 r=decide (0≤r) from rfl]
   by_cases h:0≤r
   ·rw [decide_eq_true h,ac,if_pos h];exact ⟨8,rfl,rfl⟩
   ·rw [decide_eq_false h,aa,if_neg h];exact ⟨0,rfl,rfl⟩
def ru (a b:bu × Int):Int:=if dw a.1 b.1=0 then gS a.2 b.2 else dw a.1 b.1
theorem lU (a b:Int):gS a b=-1∨gS a b=0∨gS a b=1:=by unfold gS;split <;> (try split) <;> simp
theorem xZ (a b:bu × Int):ru a b=-1∨ru a b=0∨ru a b=1:=by
 unfold ru dw
 have h1:=lU a.1.1 b.1.1;have h2:=lU a.1.2 b.1.2;have h3:=lU a.2 b.2
 split <;> (try split) <;> assumption
theorem Cc (k:Nat) (a b:bu × Int) (h3:3≤k):z33.f k a b=some (ru a b):=by
 obtain ⟨q,rfl⟩:∃ q,k=q+3:=⟨k - 3,by omega⟩
 rw [z33.f_eq,fJ,uk,ae,ae,H2,ae];rfl
theorem Dp (k:Nat) (a b:Int):z1R.f k a b=some (gS a b):=by
 rw [z1R.f_eq]
 unfold gS
 by_cases h1:a<b
 ·simp [aq,h1,ac]
 ·by_cases h2:b<a <;> simp [aq,h1,h2,ac,aa]
theorem Er (k:Nat) (a b:bu × Int):z1B.f k a b=some (ru a b):=by
 rw [z1B.f_eq,iQ,ae,ae,Dp,ae,aW,bB]
 unfold ru
 by_cases h:dw a.1 b.1=0
 ·rw [decide_eq_false (by simp [h]),aa,if_pos h]
 ·rw [decide_eq_true h,ac,if_neg h]
theorem C3 (k:Nat) (l:List (bu × Int)) (h3:3≤k) (hl:l.length<1000000):∀ (n i:Nat),i≤l.length→l.length<n+i→∃ b,z3d.l2 k n l l (af l) (i:Int)=some b∧z1X.l2 k n l (i:Int)=some b
 | 0,i,_,h=>by omega
 | n+1,i,h,h'=>by
  rw [z3d.l2_eq,z1X.l2_eq,aO,aQ,au]
  by_cases hi:i<l.length
  ·have ih:=C3 k l h3 hl n (i+1) (by omega) (by omega)
   rw [decide_eq_true hi,aT (e:=ak) hi,dN,dK,aB (by omega)]
   simp only [ac,ae]
   cases aK l[i].1 with
   | false=>exact ⟨false,rfl,rfl⟩
   | true =>
    have bt:ai true=false:=rfl
    simp only [bt,aa]
    cases aq l[i].2 0 with
    | true=>exact ⟨false,rfl,rfl⟩
    | false =>
     simp only [aa]
     rw [show bM 16 l[i].2=decide (16≤l[i].2) from rfl,show aq 15 l[i].2=decide (16≤l[i].2) from decide_eq_decide.2 ⟨fun h=>by omega,fun h=>by omega⟩]
     by_cases h16:16≤l[i].2
     ·rw [decide_eq_true h16];exact ⟨false,rfl,rfl⟩
     ·rw [decide_eq_false h16]
      simp only [aa]
      rw [show aq 0 (i:Int)=decide (0<i) from bA 0 i]
      by_cases hp:0<i
      ·have hi1:i - 1<l.length:=by omega
       have e3:bw .i64 (i:Int) 1=((i - 1:Nat):Int):=by rw [dx (by omega) (by omega) (by omega) (by omega)];omega
       rw [decide_eq_true hp,ac,ac,e3,aQ,au,aT (e:=ak) hi1,decide_eq_true hi1,ac,ac,Cc k _ _ h3,Er,ae,ae,aW,bB,
        show bM 0 (ru l[i - 1] l[i])=decide (0≤ru l[i - 1] l[i]) from rfl]
       rcases xZ l[i - 1] l[i] with e | e | e
       ·rw [e,decide_eq_false (by decide),decide_eq_false (by decide),aa,aa];exact ih
       ·rw [e];exact ⟨false,rfl,rfl⟩
       ·rw [e];exact ⟨false,rfl,rfl⟩
      ·rw [decide_eq_false hp,aa,aa];exact ih
  ·rw [decide_eq_false hi,aa,aa];exact ⟨true,rfl,rfl⟩
theorem zF (k:Nat) (l:List (bu × Int)) (h3:3≤k) (hl:l.length<k) (hk:k<1000000):∃ b,z3d.f k l=some b∧z1X.f k l=some b:=by
 rw [z3d.f_eq,z1X.f_eq]
 exact C3 k l h3 (by omega) k 0 (by omega) (by omega)
theorem w8 (a b:Int):bM a b=ai (aq b a):=by
 show decide (a≤b)=!decide (b<a)
 by_cases h:a≤b
 ·rw [decide_eq_true h,decide_eq_false (by omega)];rfl
 ·rw [decide_eq_false h,decide_eq_true (by omega)];rfl
theorem AK (k:Nat) (o:Op):z35.f k o=z1I.f k o:=by rw [z35.f_eq,z1I.f_eq]
set_option maxHeartbeats 4000000 in
theorem F1 (k:Nat) (o:Op) (hp:∀ s ∈ o.2.1,List.length s<k) (hpl:o.2.1.length<k) (hv:o.2.2.1.2.2.length<k) (hs:o.2.2.2.2.length<k) (hk:10<k) (hk2:k<1000000):∃ e:Int,z2Z.f k o=some e∧z14.f k o=some e:=by
 obtain ⟨e1,p1,p2⟩:=zw k o.2.1 hp hk hk2 hpl
 obtain ⟨b1,v1,v2⟩:=Bo k o.2.2.1 hk hv hk2
 obtain ⟨b2,r1,r2⟩:=zF k o.2.2.2.2 (by omega) hs hk2
 rw [z2Z.f_eq,z14.f_eq,z2u.f_eq,z2B.f_eq,p1,p2,v1,v2,r1,r2]
 obtain ⟨K,P,V,A,S⟩:=o
 simp only at *
 have bt:ai true=false:=rfl
 have bf:ai false=true:=rfl
 by_cases h1:K<1
 ·rw [show aq K 1=true from decide_eq_true h1];exact ⟨18,rfl,rfl⟩
 by_cases h5:5<K
 ·rw [show aq K 1=false from decide_eq_false h1,show aq 5 K=true from decide_eq_true h5];exact ⟨18,rfl,rfl⟩
 have hK:K=1∨K=2∨K=3∨K=4∨K=5:=by omega
 rw [show aq K 1=false from decide_eq_false h1,show aq 5 K=false from decide_eq_false h5]
 clear h1 h5 p1 p2 v1 v2 r1 r2 hp hpl hv hs
 have i1:bM A 2147483647=ai (aq 2147483647 A):=w8 _ _
 have i2:bM (-2147483647) A=ai (aq A (-2147483647)):=w8 _ _
 rw [i1,i2]
 rcases hK with rfl | rfl | rfl | rfl | rfl
 ·simp only [show az (1:Int) 1=true from rfl,show az (1:Int) 2=false from rfl,show az (1:Int) 3=false from rfl,show az (1:Int) 4=false from rfl,show az (1:Int) 5=false from rfl,ac,aa,bt,bf,ae]
  cases az e1 0 <;> cases b1 <;> cases az A 0 <;> cases aq 256 (af S) <;> cases b2 <;> exact ⟨_,rfl,rfl⟩
 ·simp only [show az (2:Int) 1=false from rfl,show az (2:Int) 2=true from rfl,show az (2:Int) 3=false from rfl,show az (2:Int) 4=false from rfl,show az (2:Int) 5=false from rfl,ac,aa,bt,bf,ae]
  cases az e1 0 <;> cases b1 <;> cases az A 0 <;> cases aq 0 (af S) <;> cases aq 256 (af S) <;> cases b2 <;> exact ⟨_,rfl,rfl⟩
 ·simp only [show az (3:Int) 1=false from rfl,show az (3:Int) 2=false from rfl,show az (3:Int) 3=true from rfl,show az (3:Int) 4=false from rfl,show az (3:Int) 5=false from rfl,ac,aa,bt,bf,ae]
  cases az e1 0 <;> cases eQ cC V (0,(0,[])) <;> cases az A 0 <;> cases aq 2147483647 A <;> cases aq A (-2147483647) <;> cases aq 0 (af S) <;> cases aq 256 (af S) <;> cases b2 <;> exact ⟨_,rfl,rfl⟩
 ·simp only [show az (4:Int) 1=false from rfl,show az (4:Int) 2=false from rfl,show az (4:Int) 3=false from rfl,show az (4:Int) 4=true from rfl,show az (4:Int) 5=false from rfl,ac,aa,bt,bf,ae]
  cases az e1 0 <;> cases b1 <;> cases az A 0 <;> cases aq 256 (af S) <;> cases b2 <;> exact ⟨_,rfl,rfl⟩
 ·simp only [show az (5:Int) 1=false from rfl,show az (5:Int) 2=false from rfl,show az (5:Int) 3=false from rfl,show az (5:Int) 4=false from rfl,show az (5:Int) 5=true from rfl,ac,aa,bt,bf,ae]
  cases az e1 0 <;> cases eQ cC V (0,(0,[])) <;> cases az A 0 <;> cases aq 256 (af S) <;> cases b2 <;> exact ⟨_,rfl,rfl⟩
end Go.Proofs.YtfhcammihohmjaaGreatDoor
end
