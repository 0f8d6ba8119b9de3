/- The functions that the statement reaches, and what they come to. Part 5. -/
import Derived.KernelRfl
import Derived.PinnedBridge
import Derived.Lib.LaidU8T
import Derived.MakeChecks
import Derived.Test.YtggcagclpkhlhaaGreatDoorFw1
import Derived.Test.YtggcagclpkhlhaaGreatDoorFw2
import Derived.Test.YtggcagclpkhlhaaGreatDoorFw3
import Derived.Test.YtggcagclpkhlhaaGreatDoorRecordTells1
import Derived.Test.YtggcagclpkhlhaaGreatDoorRecordTells2
import Derived.Test.YtggcagclpkhlhaaGreatDoorRecordTells3
import Derived.Test.YtggcagclpkhlhaaGreatDoorRecordTells4
set_option linter.unusedVariables false
set_option linter.unusedSimpArgs false
set_option linter.unusedSectionVars false
noncomputable section
/- The document's bytes of states and records are the program's. -/
namespace Go.Proofs.YtggcagclpkhlhaaGreatDoor
open Pal
theorem rvcode_l (k:Nat) (v:Vec) (hv:VOk v):∀ (n i:Nat) (x:List UInt8),i≤16→16<n+i→x.length≤100+8 * i→z1c.l3 k n x (i:Int) v=some (x++List.flatMap (fun n:Int=>packB n.toNat) (List.drop i v))
 | 0,i,_,h,h',_=>by omega
 | n+1,i,x,h,h',hx=>by
  have hvl:=hv.len
  rw [z1c.l3_eq,show ilt (i:Int) 16=decide (i<16) from ilt_nn i 16,inB_nat,natOf_nat]
  by_cases hi:i<16
  ·have hil:i<List.length v:=by omega
   have e:rd (.int .i64) v i=v[i]:=rd_at' (e:=.int .i64) hil
   have hge:0≤v[i]∧v[i]≤1048576:=by
    have h1:=hv.lo (i:Int) (by omega) (by omega)
    have h2:=hv.hi (i:Int) (by omega) (by omega)
    rw [vat_get hil] at h1 h2;exact ⟨h1,h2⟩
   have e4:iadd .i64 (i:Int) 1=((i+1:Nat):Int):=iadd_nat (by omega)
   have hp:(packB v[i].toNat).length≤8:=packB_le (by omega)
   have ed:List.drop i v=v[i]::List.drop (i+1) v:=List.drop_eq_getElem_cons hil
   rw [decide_eq_true hi,e,packI_is (n:=v[i]) (by omega),e4,ed,List.flatMap_cons]
   simp only [br_true,bnd_some]
   rw [roomS_ok (by omega) (by omega),br_true]
   refine (rvcode_l k v hv n (i+1) _ (by omega) (by omega) (by unfold app;rw [List.length_append];omega)).trans ?_
   unfold app;rw [List.append_assoc]
  ·have e0:List.drop i v=[]:=List.drop_eq_nil_of_le (by omega)
   rw [decide_eq_false hi,br_false,e0];simp
theorem rvcode_is (k:Nat) {v:Vec} (hv:VOk v) (hk:17<k):z1c.f k v=some (codeV v):=by
 rw [z1c.f_eq]
 exact rvcode_l k v hv k 0 [] (by omega) (by omega) (by simp)
theorem rscode_is (k:Nat) {s:DSet} (hs:Can s) (hl:s.2.length<k) (h17:17<k) (hk:k<1000000):z1A.f k s=some (codeS s):=by
 have h1:=codeV_le hs.vok
 have h2:=codeL_le hs.rt (by omega)
 rw [z1A.f_eq,rvcode_is k hs.vok h17,rlcode_is k hs.rt hl hk]
 simp only [bnd_some]
 rw [roomS_ok (by omega) (by omega)];rfl
theorem rsstcode_l (k:Nat) (s:Sta) (h8:s.2.2.2.2.length=8) (hr:∀ l ∈ s.2.2.2.2,l.length≤40∧∀ d ∈ l,rightD d=true) (hk:5000<k) (hk2:k<1000000):∀ (n i:Nat) (x:List UInt8),i≤8→8<n+i→x.length≤3000000+648 * i→z1K.l3 k n x (i:Int) s=some (x++(s.2.2.2.2.drop i).flatMap codeL)
 | 0,i,_,h,h',_=>by omega
 | n+1,i,x,h,h',hx=>by
  rw [z1K.l3_eq,show ilt (i:Int) 8=decide (i<8) from ilt_nn i 8,inB_nat,natOf_nat]
  by_cases hi:i<8
  ·have hi':i<s.2.2.2.2.length:=by omega
   obtain ⟨hd1,hd2⟩:=hr s.2.2.2.2[i] (List.getElem_mem hi')
   have hp:=codeL_le hd2 (by omega)
   have e4:iadd .i64 (i:Int) 1=((i+1:Nat):Int):=iadd_nat (by omega)
   have ed:s.2.2.2.2.drop i=s.2.2.2.2[i]::s.2.2.2.2.drop (i+1):=List.drop_eq_getElem_cons hi'
   rw [decide_eq_true hi,rd_at' (e:=.slc tDot) hi',rlcode_is k hd2 (by omega) hk2,e4,ed,List.flatMap_cons]
   simp only [br_true,bnd_some]
   rw [roomS_ok (by omega) (by omega),br_true]
   refine (rsstcode_l k s h8 hr hk hk2 n (i+1) _ (by omega) (by omega) (by unfold app;rw [List.length_append];omega)).trans ?_
   unfold app;rw [List.append_assoc]
  ·have e0:s.2.2.2.2.drop i=[]:=List.drop_eq_nil_of_le (by omega)
   rw [decide_eq_false hi,br_false,e0];simp
theorem rstcode_is (k:Nat) {s:Sta} (sh:ShortS s) (hr:RightS k s) (h8:s.2.2.2.2.length=8) (hk:5000<k) (hk2:k<1000000):z1K.f k s=some (codeSt s):=by
 have ho:=hr.ok sh.each (by omega) hk2
 have l1:=codeTL_le ho sh.each sh.tx
 have l2:=codeT_le hr.un.rt sh.un (by omega)
 have l3:=codeS_le hr.se.1 sh.se (by omega)
 have hun:=sh.un;have hse:=sh.se
 rw [z1K.f_eq,rtlcode_is k ho sh.each sh.tx hk hk2,bnd_some,rtcode_is k hr.un.rt (by omega) hk2,bnd_some,roomS_ok (by omega) (by omega),br_true,rscode_is k hr.se.1 (by omega) (by omega) hk2,bnd_some,roomS_ok (by unfold app;rw [List.length_append];omega) (by omega),br_true]
 refine (rsstcode_l k s h8 (sh.redoR hr) hk hk2 k 0 _ (by omega) (by omega) (by unfold app;simp only [List.length_append];omega)).trans ?_
 rw [List.drop_zero];unfold app codeSt;simp only [List.append_assoc]
section
variable (k:Nat) (hk:5000<k) (hk2:k<1000000)
include hk hk2
theorem rrcd_1 (t:Txn) (u:Int) (U:Undo) (b:Int) (d:Dlt) (s:Sta) (ho:OkT k t) (hs:ShortT t):z1e.f k (1,(t,(u,(U,(b,(d,s))))))=some (packB 1++codeTx t):=by
 have h0:packI 1=some (packB 1):=pI 1 (by decide)
 have hl:=codeTx_le ho hs
 have hp:=packB_le (n:=1) (by omega)
 rw [z1e.f_eq]
 simp only [h0,bnd_some,show ieq (1:Int) 1=true from rfl,br_true,rtxcode_is k ho hs hk hk2]
 rw [roomS_ok (by omega) (by omega)];rfl
theorem rrcd_2 (t:Txn) (u:Int) (U:Undo) (b:Int) (d:Dlt) (s:Sta) (hu:0≤u∧u<8) (hU:rightU U=true) (hb:0≤b∧b≤2):z1e.f k (2,(t,(u,(U,(b,(d,s))))))=some (packB 2++(packB u.toNat++(codeD U.1++(packB U.2.toNat++packB b.toNat)))):=by
 have h0:packI 2=some (packB 2):=pI 2 (by decide)
 obtain ⟨h1,h2,h3⟩:=(rightU_iff U).1 hU
 have p0:=packB_le (n:=2) (by omega)
 have p1:=packB_le (n:=u.toNat) (by omega)
 have p2:=codeD_le h1
 have p3:=packB_le (n:=U.2.toNat) (by omega)
 have p4:=packB_le (n:=b.toNat) (by omega)
 rw [z1e.f_eq]
 simp only [h0,bnd_some,show ieq (2:Int) 1=false from rfl,show ieq (2:Int) 2=true from rfl,br_true,br_false,packI_is (n:=u) (by omega),rdcode_is k h1,packI_is (n:=U.2) (by omega),packI_is (n:=b) (by omega)]
 rw [roomS_ok (by omega) (by omega),br_true,roomS_ok (by unfold app;simp only [List.length_append];omega) (by omega),br_true,roomS_ok (by unfold app;simp only [List.length_append];omega) (by omega),br_true,roomS_ok (by unfold app;simp only [List.length_append];omega) (by omega),br_true]
 unfold app;simp only [List.append_assoc]
theorem rrcd_3 (t:Txn) (u:Int) (U:Undo) (b:Int) (d:Dlt) (s:Sta) (sh:ShortD d) (hr:RightDl k d):z1e.f k (3,(t,(u,(U,(b,(d,s))))))=some (packB 3++codeDl d):=by
 have h0:packI 3=some (packB 3):=pI 3 (by decide)
 obtain ⟨_,hl⟩:=dlcode_is k sh hr hk hk2
 have hp:=packB_le (n:=3) (by omega)
 rw [z1e.f_eq]
 simp only [h0,bnd_some,show ieq (3:Int) 1=false from rfl,show ieq (3:Int) 2=false from rfl,show ieq (3:Int) 3=true from rfl,br_true,br_false,rdlcode_is k sh hr hk hk2]
 rw [roomS_ok (by omega) (by omega)];rfl
theorem rrcd_4 (t:Txn) (u:Int) (U:Undo) (b:Int) (d:Dlt) (s:Sta) (sh:ShortS s) (hr:RightS k s) (h8:s.2.2.2.2.length=8):z1e.f k (4,(t,(u,(U,(b,(d,s))))))=some (packB 4++codeSt s):=by
 have h0:packI 4=some (packB 4):=pI 4 (by decide)
 obtain ⟨_,hl⟩:=stcode_is k sh hr h8 hk hk2
 have hp:=packB_le (n:=4) (by omega)
 rw [z1e.f_eq]
 simp only [h0,bnd_some,show ieq (4:Int) 1=false from rfl,show ieq (4:Int) 2=false from rfl,show ieq (4:Int) 3=false from rfl,br_true,br_false,rstcode_is k sh hr h8 hk hk2]
 rw [roomS_ok (by omega) (by omega)];rfl
end
theorem rreccode_is (k:Nat) {x:Rec} (sh:ShortR x) (sz:SizR k 100 x) (hk:5000<k) (hk2:k<1000000) (h:z11.f k x=some true):z1e.f k x=some (codeR x):=by
 have inv:=recright_inv k sz (by omega) hk hk2 h
 have s8:=sz.s8;have sz1:=sz.t
 obtain ⟨sT,sD,sS⟩:=sh
 clear h sz
 obtain ⟨K,t,u,U,b,d,s⟩:=x
 simp only at inv sT sD sS s8 sz1
 unfold codeR codeRb codeTu
 rcases inv with ⟨rfl,c⟩ | ⟨rfl,c1,c2,c3⟩ | ⟨rfl,c⟩ | ⟨rfl,c⟩
 ·exact rrcd_1 k hk hk2 t u U b d s (txn_of k sz1 (by omega) hk2 c) sT
 ·exact rrcd_2 k hk hk2 t u U b d s c1 (c2.rt _ (by simp)) c3
 ·exact rrcd_3 k hk hk2 t u U b d s sD c
 ·exact rrcd_4 k hk hk2 t u U b d s sS c s8
end Go.Proofs.YtggcagclpkhlhaaGreatDoor
end
noncomputable section
/- States with more of each: the document's functions. -/
namespace Go.Proofs.YtggcagclpkhlhaaGreatDoor
open Pal
theorem rfindT_l (k:Nat) (l:List Txn) (d:Dot) (hl:l.length<1000000):∀ (n i:Nat),i≤l.length→l.length<n+i→∃ r:Int,z1q.l2 k n l (i:Int) d=some r∧(0≤r ↔ (findT (l.drop i) d).isSome=true)
 | 0,i,h,h'=>by omega
 | n+1,i,h,h'=>by
  rw [z1q.l2_eq,ilt_nat]
  by_cases hi:i<l.length
  ·have e3:iadd .i64 (i:Int) 1=((i+1:Nat):Int):=iadd_nat (by omega)
   rw [decide_eq_true hi,br_true,inL_nat,decide_eq_true hi,br_true,natOf_nat,rd_at' (e:=tTxn) hi,e3,deqD,List.drop_eq_getElem_cons hi,findT]
   by_cases h1:l[i].1=d
   ·rw [decide_eq_true h1,br_true,if_pos h1]
    exact ⟨_,rfl,⟨fun _=>rfl,fun _=>by omega⟩⟩
   ·rw [decide_eq_false h1,br_false,if_neg h1]
    exact rfindT_l k l d hl n (i+1) (by omega) (by omega)
  ·rw [decide_eq_false hi,br_false,List.drop_eq_nil_of_le (by omega)]
   exact ⟨-1,rfl,⟨fun h=>by omega,fun h=>by cases h⟩⟩
theorem rfindT_is (k:Nat) (l:List Txn) (d:Dot) (hl:l.length<k) (hk:k<1000000):∃ r:Int,z1q.f k l d=some r∧(0≤r ↔ (findT l d).isSome=true):=by
 rw [z1q.f_eq]
 exact rfindT_l k l d (by omega) k 0 (by omega) (by omega)
def insB (t:Txn):List Txn→List Txn
 | []=>[t]
 | x::r=>if dotLt t.1 x.1 then t::x::r else x::insB t r
theorem insB_is (t:Txn):∀ l:List Txn,(∀ x ∈ l,x.1 ≠ t.1)→insB t l=insT t l
 | [],_=>rfl
 | x::r,h=>by
  have ih:=insB_is t r fun y hy=>h y (List.mem_cons_of_mem _ hy)
  rw [insB,insT,ih]
  cases h1:dotLt t.1 x.1 with
  | true=>rw [dotLt_asym h1];rfl
  | false =>
   cases h2:dotLt x.1 t.1 with
   | true=>rfl
   | false=>exact absurd (dotLt_tot _ _ h2 h1) (h x (by simp))
theorem rputT_l (k : Nat) (l : List Txn) (t : Txn) (hl : l.length < 1000000) : ∀ (n i : Nat) (x : List Txn) (b : Bool), i ≤ l.length → l.length < n + i → x.length ≤ i + b.toNat →
    z1N.l6 k n l x b (i : Int) t = some (x ++ if b then l.drop i else insB t (l.drop i))
  | 0, i, _, _, h, h', _ => by omega
  | n + 1, i, x, b, h, h', hx => by
    rw [z1N.l6_eq, ilt_nat, inL_nat, natOf_nat]
    by_cases hi : i < l.length
    · rw [List.drop_eq_getElem_cons hi, rd_at' (e := tTxn) hi, iadd_nat (by omega), rcmp_is]
      have hbn : b.toNat ≤ 1 := by cases b <;> decide
      have hrm : ∀ y : Txn, room x (y :: []) = true := fun y => room1 (by omega)
      have hrm2 : ∀ y z : Txn, room (app x (y :: [])) (z :: []) = true := fun y z => room1 (by simp [app]; omega)
      simp only [hi, decide_true, br_true, bnd_some, cmp_lt0, hrm, hrm2]
      cases b with
      | true =>
        have hb : bnot true = false := rfl
        rw [hb]
        simp only [br_false]
        rw [rputT_l k l t hl n (i + 1) _ true (by omega) (by omega) (by simp [app] at hx ⊢; omega)]
        simp [app]
      | false =>
        have hb : bnot false = true := rfl
        rw [hb]
        simp only [br_true, Bool.false_eq_true, if_false]
        unfold insB
        cases hc : dotLt t.1 l[i].1 with
        | true =>
          simp only [br_true, if_true]
          rw [rputT_l k l t hl n (i + 1) _ true (by omega) (by omega) (by simp [app] at hx ⊢; omega)]
          simp [app]
        | false =>
          simp only [br_false, Bool.false_eq_true, if_false]
          rw [rputT_l k l t hl n (i + 1) _ false (by omega) (by omega) (by simp [app] at hx ⊢; omega)]
          simp [app]
    · rw [List.drop_of_length_le (by omega)]
      simp only [hi, decide_false, br_false]
      cases b with
      | true => have hb : bnot true = false := rfl
                rw [hb]; simp [br_false]
      | false => have hb : bnot false = true := rfl
                 have hx' : x.length ≤ i := hx
                 rw [hb, room1 (by omega)]; simp [br_true, insB, app]
theorem rputT_is (k:Nat) (l:List Txn) (t:Txn) (hl:l.length<k) (hk:k<1000000):z1N.f k l t=some (if (findT l t.1).isSome then l else insT t l):=by
 obtain ⟨r,h1,h2⟩:=rfindT_is k l t.1 hl hk
 rw [z1N.f_eq,h1,bnd_some,show ile 0 r=decide (0≤r) from rfl]
 by_cases hf:(findT l t.1).isSome=true
 ·rw [if_pos hf,decide_eq_true (h2.2 hf),br_true]
 ·have hn:findT l t.1=none:=by
   cases h:findT l t.1 with
   | none=>rfl
   | some x=>rw [h] at hf;exact absurd rfl hf
  rw [if_neg hf,decide_eq_false (fun h=>hf (h2.1 h)),br_false]
  have h:=rputT_l k l t (by omega) k 0 [] false (by omega) (by omega) (by simp)
  rw [show ((0:Nat):Int)=0 from rfl] at h
  rw [h,List.drop_zero]
  show some (insB t l)=_
  rw [insB_is t l (findT_none.1 hn)]
theorem rsput_is (k:Nat) (s:Sta) (t:Txn) {n:Nat} (ls:LenS n s) (hl:n+1<k) (hk:k<1000000) (hs:CanS s):z1S.f k s t=some (putS s t):=by
 have l1:=ls.tx;have l2:=ls.kn
 obtain ⟨r,h1,h2⟩:=rfindT_is k s.1 t.1 (by omega) hk
 rw [z1S.f_eq,h1,bnd_some,show ile 0 r=decide (0≤r) from rfl]
 unfold putS
 by_cases hf:(findT s.1 t.1).isSome=true
 ·rw [if_pos hf,decide_eq_true (h2.2 hf),br_true]
 ·rw [if_neg hf,decide_eq_false (fun h=>hf (h2.1 h)),br_false,rputT_is k s.1 t (by omega) hk,if_neg hf,bnd_some,rput_is k s.2.2.1 t.1 (by omega) hk hs.kn,bnd_some]
theorem rsraise_is (k:Nat) (s:Sta) (u:List (Dot × Int)) {n m:Nat} (ls:LenS n s) (hm:u.length≤m) (hl:n+m<k) (hk:k<1000000) (hs:CanS s) (hu:CanU u):z0R.f k s u=some (raiseS s u):=by
 have l1:=ls.un
 rw [z0R.f_eq,rjoinU_is k s.2.1 u hs.un (by omega) hk,bnd_some,rjoin_eq hs.un hu];rfl
theorem rsseal_l (k:Nat) (l:List Dot) (hlb:l.length<1000000) (hk:k<1000000) (z1:List Txn) (z2:List Undo) (z3:Vec) (z4:List Dot) (z5:Vec) (z6:List Dot) (z7:List (List Dot)):∀ (n i:Nat) (s:Sta),Can s.2.2.2.1→i≤l.length→l.length<n+i→s.2.2.2.1.2.length+(l.length - i)+1<k →
  z1b.l2 k n l (i:Int) s z1 z2 z3 z4 z5 z6 z7=some (s.1,(s.2.1,(s.2.2.1,((l.drop i).foldl putD s.2.2.2.1,s.2.2.2.2))))
 | 0,i,s,_,h,h',_=>by omega
 | n+1,i,s,hc,h,h',hb=>by
  rw [z1b.l2_eq,ilt_nat]
  by_cases hi:i<l.length
  ·have e3:iadd .i64 (i:Int) 1=((i+1:Nat):Int):=iadd_nat (by omega)
   obtain ⟨c1,_,c3⟩:=putD_can hc l[i]
   rw [decide_eq_true hi,br_true,inL_nat,decide_eq_true hi,br_true,natOf_nat,rd_at' (e:=tDot) hi,e3,rput_is k _ _ (by omega) hk hc,bnd_some,List.drop_eq_getElem_cons hi,List.foldl_cons]
   exact rsseal_l k l hlb hk z1 z2 z3 z4 z5 z6 z7 n (i+1) (s.1,(s.2.1,(s.2.2.1,(putD s.2.2.2.1 l[i],s.2.2.2.2)))) c1 (by omega) (by omega) (by show (putD s.2.2.2.1 l[i]).2.length+_+1<k;omega)
  ·rw [decide_eq_false hi,br_false,List.drop_eq_nil_of_le (by omega)];rfl
theorem rsseal_is (k:Nat) (s:Sta) (l:List Dot) {n m:Nat} (ls:LenS n s) (hm:l.length≤m) (hl:n+m+1<k) (hk:k<1000000) (hs:CanS s):z1b.f k s l=some (sealS s l):=by
 have l1:=ls.se
 rw [z1b.f_eq]
 have h:=rsseal_l k l (by omega) hk [] [] (zarr 16 0) [] (zarr 16 0) [] (zarr 8 []) k 0 s hs.se (by omega) (by omega) (by omega)
 rw [show ((0:Nat):Int)=0 from rfl,List.drop_zero,puts_union hs.se] at h
 exact h
end Go.Proofs.YtggcagclpkhlhaaGreatDoor
end
noncomputable section
/- The state behind a record: the program's is the document's, and may be. -/
namespace Go.Proofs.YtggcagclpkhlhaaGreatDoor
open Pal
def setR (s:Sta) (u:Int) (l:List Dot):Sta:=(s.1,(s.2.1,(s.2.2.1,(s.2.2.2.1,upd s.2.2.2.2 (natOf u) l))))
theorem setR_8 {s:Sta} {u:Int} {l:List Dot} (h:s.2.2.2.2.length=8):(setR s u l).2.2.2.2.length=8:=by
 show (upd s.2.2.2.2 (natOf u) l).length=8
 simp [upd,h]
theorem setR_len {s:Sta} {u:Int} {l:List Dot} {n:Nat} (ls:LenS n s) (hl:l.length≤n):LenS n (setR s u l):=⟨ls.tx,ls.un,ls.kn,ls.se,upd_mem ls.re hl⟩
theorem setR_right {k:Nat} {s:Sta} {u:Int} {l:List Dot} (h:RightS k s) (hl:l.length≤1000∧∀ d ∈ l,rightD d=true):RightS k (setR s u l) :=
 ⟨h.many,h.ris,h.un,h.se,h.chk,fun l' hl'=>by
  rcases List.mem_or_eq_of_mem_set hl' with h1 | rfl
  ·exact h.redo _ h1
  ·exact hl,h.kn,h.know⟩
def lastF (l:List Dot) (d:Dot):Nat→Int
 | 0=>-1
 | j+1=>if l[j]? = some d then (j:Int) else lastF l d j
theorem lastF_le (l:List Dot) (d:Dot):∀ j,-1≤lastF l d j∧lastF l d j<(j:Int)
 | 0=>⟨Int.le_refl _,by show (-1:Int)<((0:Nat):Int);omega⟩
 | j+1=>by
  have:=lastF_le l d j
  unfold lastF
  split <;> omega
def cutF (l:List Dot) (d:Dot) (j:Nat):List Dot:=if 0≤lastF l d j then l.take (lastF l d j).toNat else l
def turnS (l:List Dot) (d:Dot) (b:Int):List Dot:=if b=1 then l++[d] else if b=2 then cutF l d l.length else l
theorem turn_l6 (k:Nat) (l:List Dot) (x:Rec) (hl:l.length<1000000):∀ (n i:Nat),i≤l.length→i<n→z0P.l6 k n l ((i:Int) - 1) x=some (cutF l x.2.2.2.1.1 i)
 | 0,i,_,h=>by omega
 | n+1,0,_,_=>by
  rw [z0P.l6_eq,show ile 0 (((0:Nat):Int) - 1)=false from rfl,br_false];rfl
 | n+1,i+1,h,h'=>by
  have e0:((i+1:Nat):Int) - 1=(i:Int):=by omega
  have hi:i<l.length:=by omega
  have e1:isub .i64 (i:Int) 1=(i:Int) - 1:=isub_s (by omega) (by omega) (by omega) (by omega)
  rw [z0P.l6_eq,e0,show ile 0 (i:Int)=true from decide_eq_true (by omega),br_true,inL_nat,natOf_nat,decide_eq_true hi,br_true,rd_at' (e:=tDot) hi,deqDot,e1]
  by_cases he:l[i]=x.2.2.2.1.1
  ·have hg:l[i]? = some x.2.2.2.1.1:=by rw [List.getElem?_eq_getElem hi,he]
   have hc:cutF l x.2.2.2.1.1 (i+1)=l.take i:=by unfold cutF lastF;rw [if_pos hg,if_pos (by omega),Int.toNat_natCast]
   have hin:inS 0 (i:Int) (ilen l)=true:=inS_nn (a:=0) (by omega) (by omega)
   have hp:piece l 0 (i:Int)=l.take i:=by unfold piece;simp
   rw [decide_eq_true he,br_true,hin,br_true,hp,hc,show room ([]:List Int) (l.take i)=true from by simp [room];omega,br_true]
  ·have hg:¬ l[i]? = some x.2.2.2.1.1:=by rw [List.getElem?_eq_getElem hi];intro h;injection h with h;exact he h
   have hc:cutF l x.2.2.2.1.1 (i+1)=cutF l x.2.2.2.1.1 i:=by unfold cutF lastF;rw [if_neg hg];cases i <;> rfl
   rw [decide_eq_false he,br_false,hc]
   exact turn_l6 k l x hl n i (by omega) (by omega)
theorem turn_is (k:Nat) (l:List Dot) (x:Rec) (hl:l.length<k) (hk:k<1000000):z0P.f k l x=some (turnS l x.2.2.2.1.1 x.2.2.2.2.1):=by
 rw [z0P.f_eq,ieq_dec,ieq_dec]
 unfold turnS
 by_cases h1:x.2.2.2.2.1=1
 ·rw [decide_eq_true h1,br_true,if_pos h1,show room ([]:List Int) l=true from by simp [room];omega,br_true,room1 (by omega),br_true];rfl
 ·rw [decide_eq_false h1,br_false,if_neg h1]
  by_cases h2:x.2.2.2.2.1=2
  ·have e:isub .i64 (ilen l) 1=(l.length:Int) - 1:=by unfold ilen;exact isub_s (by omega) (by omega) (by omega) (by omega)
   rw [decide_eq_true h2,br_true,if_pos h2,e]
   exact turn_l6 k l x (by omega) k l.length (by omega) (by omega)
  ·rw [decide_eq_false h2,br_false,if_neg h2]
theorem rturn_l13 (k:Nat) (y:List Dot) (m:Sta) (x:Rec) (z1:List Txn) (z2:List Undo) (z3:Vec) (z4:List Dot) (z5:Vec) (z6:List Dot) (z7:List (List Dot)) (hy:y.length<1000000) (hu:inB x.2.2.1 8=true):∀ (n i:Nat),i≤y.length→y.length<n+i →
  z1M.l13 k n y (lastF y x.2.2.2.1.1 i) (i:Int) m x z1 z2 z3 z4 z5 z6 z7=some (setR m x.2.2.1 (if x.2.2.2.2.1=2 then cutF y x.2.2.2.1.1 y.length else y))
 | 0,i,_,h=>by omega
 | n+1,i,h,h'=>by
  rw [z1M.l13_eq,ilt_nat]
  by_cases hi:i<y.length
  ·have e4:iadd .i64 (i:Int) 1=((i+1:Nat):Int):=iadd_nat (by omega)
   rw [decide_eq_true hi,br_true,inL_nat,decide_eq_true hi,br_true,natOf_nat,rd_at' (e:=tDot) hi,deqDot,e4]
   have ih:=rturn_l13 k y m x z1 z2 z3 z4 z5 z6 z7 hy hu n (i+1) (by omega) (by omega)
   by_cases he:y[i]=x.2.2.2.1.1
   ·have hg:y[i]? = some x.2.2.2.1.1:=by rw [List.getElem?_eq_getElem hi,he]
    have hc:lastF y x.2.2.2.1.1 (i+1)=(i:Int):=by show (if _ then _ else _)=_;rw [if_pos hg]
    rw [hc] at ih
    rw [decide_eq_true he,br_true];exact ih
   ·have hg:¬ y[i]? = some x.2.2.2.1.1:=by rw [List.getElem?_eq_getElem hi];intro h;injection h with h;exact he h
    have hc:lastF y x.2.2.2.1.1 (i+1)=lastF y x.2.2.2.1.1 i:=by show (if _ then _ else _)=_;rw [if_neg hg]
    rw [hc] at ih
    rw [decide_eq_false he,br_false];exact ih
  ·have hie:i=y.length:=by omega
   subst hie
   obtain ⟨hb1,hb2⟩:=lastF_le y x.2.2.2.1.1 y.length
   rw [decide_eq_false (Nat.lt_irrefl _),br_false,ieq_dec,hu]
   by_cases h2:x.2.2.2.2.1=2
   ·rw [decide_eq_true h2,br_true,if_pos h2,show ile 0 (lastF y x.2.2.2.1.1 y.length)=decide (0≤lastF y x.2.2.2.1.1 y.length) from rfl]
    unfold cutF
    by_cases h0:0≤lastF y x.2.2.2.1.1 y.length
    ·obtain ⟨q,hq⟩:∃ q:Nat,lastF y x.2.2.2.1.1 y.length=(q:Int):=⟨(lastF y x.2.2.2.1.1 y.length).toNat,by omega⟩
     have hin:inS 0 (q:Int) (ilen y)=true:=inS_nn (a:=0) (by omega) (by omega)
     have hp:piece y 0 (q:Int)=y.take q:=by unfold piece;simp
     rw [decide_eq_true h0,br_true,if_pos h0,hq,hin,br_true,br_true,hp,Int.toNat_natCast];rfl
    ·rw [decide_eq_false h0,br_false,br_true,if_neg h0];rfl
   ·rw [decide_eq_false h2,br_false,br_true,if_neg h2];rfl
theorem turnS_len (l:List Dot) (d:Dot) (b:Int):(turnS l d b).length≤l.length+1:=by
 unfold turnS cutF
 split
 ·simp
 ·split
  ·split
   ·rw [List.length_take];omega
   ·omega
  ·omega
theorem turnS_rt {l:List Dot} {d:Dot} {b:Int} (hl:∀ x ∈ l,rightD x=true) (hd:rightD d=true):∀ x ∈ turnS l d b,rightD x=true:=by
 unfold turnS cutF
 split
 ·intro x hx
  simp only [List.mem_append,List.mem_singleton] at hx
  rcases hx with hx | rfl
  ·exact hl x hx
  ·exact hd
 ·split
  ·split
   ·exact fun x hx=>hl x (List.mem_of_mem_take hx)
   ·exact hl
  ·exact hl
theorem rmerged_is (k:Nat) (s:Sta) (d:Dlt) {n m:Nat} (hs:CanS s) (hd:CanDl d) (ls:LenS n s) (ld:LenD m d) (hnm:n+m+m+m+1<k) (hk:k<1000000):z0u.f k s d=some (mergedS s d):=by
 have ld1:=ld.tx;have ld2:=ld.un;have ld3:=ld.se
 rw [z0u.f_eq]
 have key:∀ n' i (x:Sta),i≤d.1.length→d.1.length<n'+i→CanS x→LenS (n+i) x→z0u.l2 k n' (i:Int) x d [] [] (zarr 16 0) [] (zarr 16 0) [] (zarr 8 [])=some (sealS (raiseS ((d.1.drop i).foldl putS x) d.2.1) d.2.2):=by
  intro n'
  induction n' with
  | zero=>intro i x h h';omega
  | succ n' ih =>
   intro i x h h' hx hxl
   rw [z0u.l2_eq,ilt_nat,inL_nat,natOf_nat]
   by_cases hi:i<d.1.length
   ·have hrt:=hd.tx.rt _ (List.getElem_mem hi)
    have e3:iadd .i64 (i:Int) 1=((i+1:Nat):Int):=iadd_nat (by omega)
    rw [rd_at' (e:=tTxn) hi,rsput_is k x _ hxl (by omega) hk hx,e3,List.drop_eq_getElem_cons hi]
    simp only [hi,decide_true,br_true,bnd_some,List.foldl_cons]
    exact ih (i+1) _ (by omega) (by omega) (putS_all hx hrt).1 (putS_len hx hxl hrt)
   ·rw [List.drop_of_length_le (by omega)]
    simp only [hi,decide_false,br_false,List.foldl_nil]
    rw [rsraise_is k x d.2.1 (m:=m) hxl (by omega) (by omega) hk hx hd.un]
    simp only [bnd_some]
    rw [rsseal_is k _ d.2.2 (n:=n+i+m) (m:=m) (raiseS_len hx hxl hd.un (by omega)) (by omega) (by omega) hk (raiseS_can hx hd.un)]
    rfl
 have:=key k 0 s (by omega) (by omega) hs (by simpa using ls)
 rw [show ((0:Nat):Int)=0 from rfl,List.drop_zero] at this
 exact this
theorem puts_right {k:Nat}:∀ (m:List Txn) (s:Sta) (n:Nat),CanS s→LenS n s→n+m.length<1000→RightS k s→(∀ t ∈ m,rightD t.1=true∧z0z.f k t=some 0)→CanS (m.foldl putS s)∧LenS (n+m.length) (m.foldl putS s)∧RightS k (m.foldl putS s)∧(m.foldl putS s).2.2.2=s.2.2.2∧∀ x ∈ (m.foldl putS s).1,x ∈ s.1∨x ∈ m
 | [],s,n,hs,ls,hn,hr,_=>⟨hs,by simpa using ls,hr,rfl,fun x hx=>.inl hx⟩
 | t::m,s,n,hs,ls,hn,hr,ht=>by
  simp only [List.length_cons] at hn
  obtain ⟨h1,h2⟩:=ht t (by simp)
  obtain ⟨a1,_,_,a4,_⟩:=putS_all hs h1
  obtain ⟨q1,q2,q3,q4,q5⟩:=puts_right m (putS s t) (n+1) a1 (putS_len hs ls h1) (by omega) (right_put hs ls (by omega) hr h1 h2) (fun x hx=>ht x (List.mem_cons_of_mem _ hx))
  refine ⟨q1,?_,q3,q4.trans a4,fun x hx=>?_⟩
  ·rw [List.length_cons,show n+(m.length+1)=n+1+m.length by omega];exact q2
  ·rcases q5 x hx with h | h
   ·rcases putS_mem hs h1 x h with h | rfl
    ·exact .inl h
    ·exact .inr (by simp)
   ·exact .inr (List.mem_cons_of_mem _ h)
theorem clone_is (k:Nat) (s:Sta) {n:Nat} (ls:LenS n s) (h8:s.2.2.2.2.length=8) (hn:n<1000000) (hk:17<k):z0J.f k s=some s:=by
 have l1:=ls.tx;have l2:=ls.un;have l3:=ls.kn;have l4:=ls.se
 have r0 {α:Type} (l:List α) (h:l.length≤n):room ([]:List Int) l=true:=by simp [room];omega
 have q1:room ([]:List Int) s.1=true:=r0 s.1 l1
 have q2:room ([]:List Int) s.2.1=true:=r0 s.2.1 l2
 have q3:room ([]:List Int) s.2.2.1.2=true:=r0 s.2.2.1.2 l3
 have q4:room ([]:List Int) s.2.2.2.1.2=true:=r0 s.2.2.2.1.2 l4
 rw [z0J.f_eq,q1,br_true,q2,br_true,q3,br_true,q4,br_true]
 have key:∀ (n' i:Nat),i≤8→8<n'+i→z0J.l6 k n' s.2.2.2.2 (i:Int) s.1 s.2.1 s.2.2.1.1 s.2.2.1.2 s.2.2.2.1.1 s.2.2.2.1.2 s.2.2.2.2 [] [] (zarr 16 0) [] (zarr 16 0) [] (zarr 8 [])=some s:=by
  intro n'
  induction n' with
  | zero=>intro i h h';omega
  | succ n' ih =>
   intro i h h'
   rw [z0J.l6_eq,show ilt (i:Int) 8=decide (i<8) from ilt_nn i 8,inB_nat,natOf_nat]
   by_cases hi:i<8
   ·have hi':i<s.2.2.2.2.length:=by omega
    have e4:iadd .i64 (i:Int) 1=((i+1:Nat):Int):=iadd_nat (by omega)
    have eu:upd s.2.2.2.2 i s.2.2.2.2[i]=s.2.2.2.2:=by unfold upd;exact List.set_getElem_self hi'
    rw [decide_eq_true hi,br_true,br_true,rd_at' (e:=.slc tDot) hi',r0 _ (ls.re _ (List.getElem_mem hi')),br_true,br_true,e4,eu]
    exact ih (i+1) (by omega) (by omega)
   ·rw [decide_eq_false hi,br_false]
 exact key k 0 (by omega) (by omega)
end Go.Proofs.YtggcagclpkhlhaaGreatDoor
end
noncomputable section
/- Chapter 23's example: it is as it is told. -/
namespace Go.Proofs.YtggcagclpkhlhaaGreatDoor
open Pal
set_option maxRecDepth 1000000 in
theorem z0Q.is (k:Nat):z0Q.f (k+60)=some true:=by kernel_rfl
theorem awake23 {k:Nat} (h:60≤k):z0Q.f k=some true:=by
 obtain ⟨q,rfl⟩:∃ q,k=q+60:=⟨k - 60,by omega⟩
 exact z0Q.is q
end Go.Proofs.YtggcagclpkhlhaaGreatDoor
end
noncomputable section
/- The plain law: the run of RecordTells answers true for every state and record. -/
namespace Go.Proofs.YtggcagclpkhlhaaGreatDoor
open Pal
theorem seq_same (s:List UInt8):seq s s=true:=by unfold seq;exact beq_self_eq_true s
theorem right_selfG (k:Nat) {y:Sta} {n:Nat} (hr:RightS k y) (ls:LenS n y) (hn:n<k) (h8:y.2.2.2.2.length=8) (hk:5000<k) (hk2:k<1000000):z0C.f k y=some true:=by
 have l1:=ls.un
 obtain ⟨b,h1,h2⟩:=rrightS_isG k y hr.kn.1.vok.len hr.se.1.vok.len h8 (fun t ht=>⟨0,hr.chk t ht,fun _=>txn_rt k t (hr.chk t ht)⟩) (fun l hl=>by have:=ls.re l hl;omega) (by omega) hk hk2
 rw [h1,h2.2 hr]
theorem inB_of {u:Int} (h:0≤u∧u<8):inB u 8=true:=by
 obtain ⟨q,rfl⟩:∃ q:Nat,u=(q:Int):=⟨u.toNat,by omega⟩
 rw [inB_nat];exact decide_eq_true (by omega)
theorem natOf_lt {u:Int} (h:0≤u∧u<8):natOf u<8:=by
 obtain ⟨q,rfl⟩:∃ q:Nat,u=(q:Int):=⟨u.toNat,by omega⟩
 rw [natOf_nat];omega
structure DoneOK (k:Nat) (s:Sta) (x:Rec) (y:Sta):Prop where
 p:z0M.f k s x=some y
 r:z1M.f k s x=some y
 right:RightS k y
 len:LenS 500 y
 red:y.2.2.2.2.length=8
 tx:∀ t ∈ y.1,LenT k t
section
variable (k:Nat) (hk:5000<k) (hk2:k<1000000) (s:Sta) (hs:CanS s) (sh:ShortS s) (hr:RightS k s) (h8:s.2.2.2.2.length=8)
include hk hk2 hs sh hr h8
theorem done_1 (t:Txn) (u:Int) (U:Undo) (b:Int) (d:Dlt) (z:Sta) (ok:OkT k t) (st:ShortT t) (hc:z0z.f k t=some 0):∃ y,DoneOK k s (1,(t,(u,(U,(b,(d,z)))))) y:=by
 have ls:=sh.len
 obtain ⟨a1,a2,a3,a4,a5,a6⟩:=putS_all hs ok.dot
 have la:=putS_len hs ls ok.dot
 refine ⟨setR (putS s t) t.2.1 [],?_,?_,setR_right (right_put hs ls (by omega) hr ok.dot hc) ⟨by simp,fun d hd=>by simp at hd⟩,setR_len (la.mono (by omega)) (by simp),setR_8 (by rw [a4];exact h8),fun x hx=>?_⟩
 ·rw [z0M.f_eq]
  simp only [show ieq (1:Int) 1=true from rfl,br_true]
  rw [sput_is k s t (n:=100) (by omega) ls (by omega) hk2 hs ok.dot,bnd_some]
  rw [inB_of ok.user,br_true];rfl
 ·rw [z1M.f_eq]
  simp only [show ieq (1:Int) 1=true from rfl,br_true]
  rw [rsput_is k s t ls (by omega) hk2 hs,bnd_some]
  rw [inB_of ok.user,br_true];rfl
 ·rcases putS_mem hs ok.dot x hx with h | rfl
  ·exact (sh.each x h).lenT (by omega)
  ·exact st.lenT (by omega)
theorem done_2 (t:Txn) (u:Int) (U:Undo) (b:Int) (d:Dlt) (z:Sta) (hu:0≤u∧u<8) (hU:CanU (U::[])) (hb:0≤b∧b≤2):∃ y,DoneOK k s (2,(t,(u,(U,(b,(d,z)))))) y:=by
 have ls:=sh.len
 have rU:=hU.rt _ List.mem_cons_self
 obtain ⟨rD,_⟩:=(rightU_iff U).1 rU
 have lr:=raiseS_len hs ls hU (m:=1) (by simp)
 have hi:natOf u<s.2.2.2.2.length:=by have:=natOf_lt hu;omega
 have hm:=List.getElem_mem hi
 have h40:=sh.redo _ hm
 have hrd:=(hr.redo _ hm).2
 have er:rd (.slc tDot) (raiseS s (U::[])).2.2.2.2 (natOf u)=s.2.2.2.2[natOf u]:=rd_at' (e:=.slc tDot) hi
 have tl:=turnS_len s.2.2.2.2[natOf u] U.1 b
 refine ⟨setR (raiseS s (U::[])) u (turnS s.2.2.2.2[natOf u] U.1 b),?_,?_,setR_right (right_raise hs ls (by omega) hr hU) ⟨by omega,turnS_rt hrd rD⟩,setR_len (lr.mono (by omega)) (by omega),setR_8 h8,fun x hx=>(sh.each x hx).lenT (by omega)⟩
 ·rw [z0M.f_eq]
  simp only [show ieq (2:Int) 1=false from rfl,show ieq (2:Int) 2=true from rfl,br_true,br_false]
  rw [sraise_is k s (U::[]) (n:=100) (m:=1) (by omega) ls (by simp) (by omega) hk2,bnd_some]
  rw [inB_of hu,br_true,er,turn_is k _ _ (by omega) hk2,bnd_some];rfl
 ·rw [z1M.f_eq]
  simp only [show ieq (2:Int) 1=false from rfl,show ieq (2:Int) 2=true from rfl,br_true,br_false]
  rw [rsraise_is k s (U::[]) ls (m:=1) (by simp) (by omega) hk2 hs hU,bnd_some]
  have r0:room ([]:List Int) s.2.2.2.2[natOf u]=true:=by simp [room];omega
  have ea:app [] s.2.2.2.2[natOf u]=s.2.2.2.2[natOf u]:=rfl
  rw [inB_of hu,br_true,er,r0,br_true,ieq_dec,ea]
  unfold turnS
  by_cases h1:b=1
  ·have e1:app s.2.2.2.2[natOf u] (U.1::[])=s.2.2.2.2[natOf u]++[U.1]:=rfl
   rw [decide_eq_true h1,br_true,room1 (by omega),br_true,if_pos h1,e1]
   refine (rturn_l13 k (s.2.2.2.2[natOf u]++[U.1]) (raiseS s (U::[])) (2,(t,(u,(U,(b,(d,z)))))) [] [] (zarr 16 0) [] (zarr 16 0) [] (zarr 8 []) (by simp;omega) (inB_of hu) k 0 (by omega) (by simp;omega)).trans ?_
   rw [if_neg (by show ¬ b=2;omega)]
  ·rw [decide_eq_false h1,br_false,if_neg h1]
   exact rturn_l13 k s.2.2.2.2[natOf u] (raiseS s (U::[])) (2,(t,(u,(U,(b,(d,z)))))) [] [] (zarr 16 0) [] (zarr 16 0) [] (zarr 8 []) (by omega) (inB_of hu) k 0 (by omega) (by omega)
theorem done_3 (t:Txn) (u:Int) (U:Undo) (b:Int) (d:Dlt) (z:Sta) (sd:ShortD d) (rd:RightDl k d):∃ y,DoneOK k s (3,(t,(u,(U,(b,(d,z)))))) y:=by
 have ls:=sh.len
 have ld:=sd.len
 have cd:=rd.can sd.each (by omega) hk2
 have d1:=sd.tx;have d2:=sd.un;have d3:=sd.se
 obtain ⟨q1,q2,q3,q4,q5⟩:=puts_right d.1 s 100 hs ls (by omega) hr (fun x hx=>⟨txn_rt k x (rd.chk x hx),rd.chk x hx⟩)
 have q2':LenS 120 (d.1.foldl putS s):=q2.mono (by omega)
 have r1:=raiseS_can q1 cd.un
 have r2:=right_raise q1 q2' (by omega) q3 cd.un
 have r3:=raiseS_len q1 q2' cd.un (m:=100) d2
 have s1:=right_seal r1 r3 (by omega) r2 (l:=d.2.2) (by omega)
 have s2:=sealS_len r1 r3 (l:=d.2.2) (m:=100) d3
 refine ⟨mergedS s d,?_,?_,s1,s2.mono (by omega),by show (d.1.foldl putS s).2.2.2.2.length=8;rw [q4];exact h8,fun x hx=>?_⟩
 ·rw [z0M.f_eq]
  simp only [show ieq (3:Int) 1=false from rfl,show ieq (3:Int) 2=false from rfl,show ieq (3:Int) 3=true from rfl,br_true,br_false]
  rw [merged_is k s d (n:=100) (m:=100) (by omega) hs cd ls ld (by omega) hk2,bnd_some]
 ·rw [z1M.f_eq]
  simp only [show ieq (3:Int) 1=false from rfl,show ieq (3:Int) 2=false from rfl,show ieq (3:Int) 3=true from rfl,br_true,br_false]
  rw [rmerged_is k s d (n:=100) (m:=100) hs cd ls ld (by omega) hk2,bnd_some]
 ·rcases q5 x hx with h | h
  ·exact (sh.each x h).lenT (by omega)
  ·exact (sd.each x h).lenT (by omega)
theorem done_4 (t:Txn) (u:Int) (U:Undo) (b:Int) (d:Dlt) (z:Sta) (sz:ShortS z) (rz:RightS k z) (z8:z.2.2.2.2.length=8):∃ y,DoneOK k s (4,(t,(u,(U,(b,(d,z)))))) y:=by
 refine ⟨z,?_,?_,rz,sz.len.mono (by omega),z8,fun x hx=>(sz.each x hx).lenT (by omega)⟩
 ·rw [z0M.f_eq]
  simp only [show ieq (4:Int) 1=false from rfl,show ieq (4:Int) 2=false from rfl,show ieq (4:Int) 3=false from rfl,show ieq (4:Int) 4=true from rfl,br_true,br_false]
  rw [clone_is k z sz.len z8 (by omega) (by omega),bnd_some]
 ·rw [z1M.f_eq]
  simp only [show ieq (4:Int) 1=false from rfl,show ieq (4:Int) 2=false from rfl,show ieq (4:Int) 3=false from rfl,show ieq (4:Int) 4=true from rfl,br_true,br_false]
end
theorem done_all (k:Nat) (hk:5000<k) (hk2:k<1000000) (s:Sta) (hs:CanS s) (sh:ShortS s) (hr:RightS k s) (h8:s.2.2.2.2.length=8) {x:Rec} (sx:ShortR x) (sz:SizR k 100 x) (h:z11.f k x=some true):∃ y,DoneOK k s x y:=by
 have inv:=recright_inv k sz (by omega) hk hk2 h
 have s8:=sz.s8;have sz1:=sz.t
 obtain ⟨sT,sD,sS⟩:=sx
 clear h sz
 obtain ⟨K,t,u,U,b,d,z⟩:=x
 simp only at inv sT sD sS s8 sz1
 rcases inv with ⟨rfl,c⟩ | ⟨rfl,c1,c2,c3⟩ | ⟨rfl,c⟩ | ⟨rfl,c⟩
 ·exact done_1 k hk hk2 s hs sh hr h8 t u U b d z (txn_of k sz1 (by omega) hk2 c) sT c
 ·exact done_2 k hk hk2 s hs sh hr h8 t u U b d z c1 c2 c3
 ·exact done_3 k hk hk2 s hs sh hr h8 t u U b d z sD c
 ·exact done_4 k hk hk2 s hs sh hr h8 t u U b d z sS c s8
theorem recordTells_at (k:Nat) (hk:5000<k) (hk2:k<1000000) (s:Ty.D tState) (fs:Fits tState s) (x:Ty.D tRecord) (fx:Fits tRecord x):z0g.f k s x=some true:=by
 have aw:z0Q.f k=some true:=awake23 (by omega)
 have bt:bnot true=false:=rfl
 have bf:bnot false=true:=rfl
 have h8:s.2.2.2.2.length=8:=fs.2.2.2.2.1
 have fz:Fits tState x.2.2.2.2.2.2:=fx.2.2.2.2.2.2
 have v1:x.2.2.2.2.2.2.2.2.1.1.length=16:=fz.2.2.1.1.1
 have v2:x.2.2.2.2.2.2.2.2.2.1.1.length=16:=fz.2.2.2.1.1.1
 have x8:x.2.2.2.2.2.2.2.2.2.2.length=8:=fz.2.2.2.2.1
 obtain ⟨c0,g0,i0⟩:=goodS_is k s fs hk hk2
 rw [z0g.f_eq,g0,aw,bnd_some]
 cases c0 with
 | false=>rw [bf];rfl
 | true =>
 obtain ⟨hs,sh,hr⟩:=i0 rfl
 obtain ⟨c1,g1,i1⟩:=rshortR_is k x x8 (by omega) hk2
 rw [bt,br_false,g1,bnd_some]
 cases c1 with
 | false=>rw [bf];rfl
 | true =>
 have sx:=i1 rfl
 have sz:=sx.siz (k:=k) (by omega) x8 v1 v2
 obtain ⟨b,q1,q2⟩:=recright_is k x sz (by omega) hk hk2
 rw [bt,br_false,q2,bnd_some,q1,bnd_some,deqBool,decide_eq_true rfl,bt,br_false]
 cases b with
 | false=>rw [bf];rfl
 | true =>
 obtain ⟨y,dn⟩:=done_all k hk hk2 s hs sh hr h8 sx sz q2
 obtain ⟨e,p1,p2⟩:=rsameS_is k y y dn.len dn.tx dn.red dn.red (by omega) (by omega) hk2
 have he:e=true:=p2.2 rfl
 subst he
 rw [bt,br_false,dn.p,bnd_some,reccode_is k sx sz hk hk2 q2,bnd_some,rreccode_is k sx sz hk hk2 q2,bnd_some,seq_same,br_true,dn.r,bnd_some,p1,bnd_some,br_true,right_selfG k dn.right dn.len (by omega) dn.red hk hk2,bnd_some,br_true,bnd_some]
theorem recordTells_true (s:Ty.D tState) (fs:Fits tState s) (x:Ty.D tRecord) (fx:Fits tRecord x):∃ k,z0g.f k s x=some true:=⟨6000,recordTells_at 6000 (by decide) (by decide) s fs x fx⟩
end Go.Proofs.YtggcagclpkhlhaaGreatDoor
end
noncomputable section
/- The pinned tables of unicode/utf8, out of what a tied row lists. -/
namespace Go.Proofs.YtggcagclpkhlhaaGreatDoor
open Go Go.Proofs Go.Lib
open Pal
theorem tabs_reads {W : World} (h3 : VarReads Tryz.prog W "unicode/utf8.first" firstData) (h4 : VarReads Tryz.prog W "unicode/utf8.acceptRanges" acceptData) : MonoC.tab (img W) := by
 have h:=utf8Tabs_of_readsT (U8Types.of260 { laysU8 with }) u8Extra h3 h4
 exact ⟨h.1,h.2⟩
end Go.Proofs.YtggcagclpkhlhaaGreatDoor
end
