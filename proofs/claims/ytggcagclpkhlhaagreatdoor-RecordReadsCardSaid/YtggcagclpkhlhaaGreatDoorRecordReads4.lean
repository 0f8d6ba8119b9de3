/- The functions that the statement reaches, and what they come to. Part 4. -/
import Derived.KernelRfl
import Derived.PinnedBridge
import Derived.Lib.LaidU8T
import Derived.MakeChecks
import Derived.Test.YtggcagclpkhlhaaGreatDoorFw1
import Derived.Test.YtggcagclpkhlhaaGreatDoorFw2
import Derived.Test.YtggcagclpkhlhaaGreatDoorFw3
import Derived.Test.YtggcagclpkhlhaaGreatDoorRecordReads1
import Derived.Test.YtggcagclpkhlhaaGreatDoorRecordReads2
import Derived.Test.YtggcagclpkhlhaaGreatDoorRecordReads3
set_option linter.unusedVariables false
set_option linter.unusedSimpArgs false
set_option linter.unusedSectionVars false
noncomputable section
/- What is told as bytes is read again: dots, vectors, rows of dots and sets. -/
namespace Go.Proofs.YtggcagclpkhlhaaGreatDoor
open Pal
def codeD (d:Dot):List UInt8:=packB d.1.toNat++packB d.2.toNat
def codeL (l:List Dot):List UInt8:=packB l.length++l.flatMap codeD
theorem rightD_rng {d:Dot} (h:rightD d=true):0≤d.1∧d.1<16∧1≤d.2∧d.2≤1048576:=of_decide_eq_true h
theorem back_dot (k:Nat) (d:Dot) (t:List UInt8) (hd:rightD d=true) (hk:12<k) (hS:(codeD d++t).length<4000000):z1T.f k (codeD d++t,0)=some (d,(t,0)):=by
 obtain ⟨h1,h2,h3,h4⟩:=rightD_rng hd
 have e1:((d.1.toNat:Nat):Int)=d.1:=Int.toNat_of_nonneg h1
 have e2:((d.2.toNat:Nat):Int)=d.2:=Int.toNat_of_nonneg (by omega)
 have ea:codeD d++t=packB d.1.toNat++(packB d.2.toNat++t):=by unfold codeD;rw [List.append_assoc]
 rw [ea] at hS ⊢
 have hS2:(packB d.2.toNat++t).length<4000000:=by rw [List.length_append] at hS;omega
 rw [z1T.f_eq,back_int k _ _ hk (by omega) hS]
 simp only [bnd_some]
 rw [back_int k _ _ hk (by omega) hS2,e1,e2]
 have bt:bnot true=false:=rfl
 simp only [bnd_some,fault_is,ieq_dec,decide_true,br_true,right_is,hd,bt,br_false]
theorem codeD_pos (d:Dot):0<(codeD d).length:=by
 unfold codeD;rw [List.length_append];have:=packB_pos d.1.toNat;omega
theorem codes_len {α:Type} (f:α→List UInt8) (hf:∀ x,0<(f x).length):∀ (l:List α),l.length≤(l.flatMap f).length
 | []=>by simp
 | x::l=>by
  have:=codes_len f hf l;have:=hf x
  simp only [List.flatMap_cons,List.length_append,List.length_cons];omega
theorem back_many (k n:Nat) (most:Int) (t:List UInt8) (hk:12<k) (hn:n<72057594037927936) (hm:(n:Int)≤most) (hl:n≤t.length) (hS:(packB n++t).length<4000000):z0f.f k most (packB n++t,0)=some ((n:Int),(t,0)):=by
 rw [z0f.f_eq,back_int k n t hk hn hS]
 have e1:ilt most (n:Int)=false:=decide_eq_false (by omega)
 have e2:ilt (ilen t) (n:Int)=false:=by unfold ilt ilen;exact decide_eq_false (by omega)
 have bt:bnot true=false:=rfl
 simp only [bnd_some,fine_is,decide_true,bt,br_false,e1,e2]
theorem back_l3 (k:Nat) (hk:12<k) (N:Nat) (hN:N<1000000) (t:List UInt8):∀ (n i:Nat) (x l:List Dot),i+l.length=N→N<n+i→x.length=i→(∀ d ∈ l,rightD d=true)→(l.flatMap codeD++t).length<4000000 →
  z0x.l3 k n x (N:Int) (i:Int) (l.flatMap codeD++t,0)=some (x++l,(t,0))
 | 0,i,_,_,h,h',_,_,_=>by omega
 | n+1,i,x,[],h,_,_,_,_=>by
  have hi:N=i:=by simpa using h.symm
  subst hi
  rw [z0x.l3_eq,ilt_nn,decide_eq_false (Nat.lt_irrefl _)]
  have bt:bnot true=false:=rfl
  simp only [br_false,fault_is,bnd_some,ieq_dec,decide_true,bt,List.append_nil,List.flatMap_nil,List.nil_append]
 | n+1,i,x,d::l,h,h',hx,hr,hS=>by
  simp only [List.length_cons] at h
  have e4:iadd .i64 (i:Int) 1=((i+1:Nat):Int):=iadd_nat (by omega)
  have ea:(d::l).flatMap codeD++t=codeD d++(l.flatMap codeD++t):=by rw [List.flatMap_cons,List.append_assoc]
  rw [ea] at hS ⊢
  have hS2:(l.flatMap codeD++t).length<4000000:=by rw [List.length_append] at hS;omega
  rw [z0x.l3_eq,ilt_nn,decide_eq_true (show i<N by omega),back_dot k d _ (hr d (by simp)) hk hS,e4]
  simp only [br_true,bnd_some,room1 (show x.length<4000000 by omega)]
  have:=back_l3 k hk N hN t n (i+1) (app x (d::[])) l (by omega) (by omega) (by simp [app,hx]) (fun e he=>hr e (List.mem_cons_of_mem _ he)) hS2
  refine this.trans ?_
  simp [app]
theorem back_list (k:Nat) (l:List Dot) (most:Int) (t:List UInt8) (hr:∀ d ∈ l,rightD d=true) (hm:(l.length:Int)≤most) (hk:12<k) (hl:l.length<k) (hk2:k<1000000) (hS:(codeL l++t).length<4000000) :
  z0x.f k most (codeL l++t,0)=some (l,(t,0)):=by
 have ea:codeL l++t=packB l.length++(l.flatMap codeD++t):=by unfold codeL;rw [List.append_assoc]
 rw [ea] at hS ⊢
 have hS2:(l.flatMap codeD++t).length<4000000:=by rw [List.length_append] at hS;omega
 have hlen:=codes_len codeD codeD_pos l
 rw [z0x.f_eq,back_many k _ most _ hk (by omega) hm (by rw [List.length_append];omega) hS]
 simp only [bnd_some]
 exact back_l3 k hk l.length (by omega) t k 0 [] l (by omega) (by omega) rfl hr hS2
end Go.Proofs.YtggcagclpkhlhaaGreatDoor
end
noncomputable section
/- Knowledge: the program and the document read the same, and what is told is read again. -/
namespace Go.Proofs.YtggcagclpkhlhaaGreatDoor
open Pal
theorem tread_l (k:Nat) (S:List UInt8) (hS:S.length<5000) (hk:5000<k) (hk2:k<1000000) (N:Nat) (hN:N≤S.length):∀ (n i:Nat) (l:List Undo) (r:Rdr) (x:RefRdr),i≤N→N<n+i→l.length=i→RR S r x →
  ∃ (l':List Undo) (r':Rdr) (x':RefRdr),z1z.l3 k n l (N:Int) (i:Int) r=some (l',r')∧z1u.l4 k n (N:Int) l (i:Int) x=some (l',x')∧RR S r' x'∧l'.length≤N
 | 0,i,_,_,_,h,h',_,_=>by omega
 | n+1,i,l,r,x,h,h',hl,hr=>by
  rw [z1z.l3_eq,z1u.l4_eq,ilt_nn]
  by_cases hi:i<N
  ·obtain ⟨d,r1,x1,e1,e2,h1,_⟩:=dotread_is k S r x hr (by omega) (by omega)
   obtain ⟨c,r2,x2,e3,e5,h2,_,_,_⟩:=int_is k S r1 x1 h1 (by omega) (by omega)
   have e4:iadd .i64 (i:Int) 1=((i+1:Nat):Int):=iadd_nat (by omega)
   rw [decide_eq_true hi,e1,e2,e4]
   simp only [br_true,bnd_some]
   rw [e3,e5]
   simp only [bnd_some,room1 (show l.length<4000000 by omega),br_true]
   exact tread_l k S hS hk hk2 N hN n (i+1) _ r2 x2 (by omega) (by omega) (by simp [app,hl]) h2
  ·rw [decide_eq_false hi]
   obtain ⟨b1,g1,i1⟩:=trightU2_is k l (by omega) (by omega) hk2
   obtain ⟨b2,g2,i2⟩:=rrightU_is k l (by omega) hk2
   have hbb:b1=b2:=by rw [Bool.eq_iff_iff,i1,i2]
   subst hbb
   simp only [br_false,bnd_some,g1,g2,fault_is,fail_is,ieq_dec,bnot_dec,br_dec]
   obtain ⟨s2,c1⟩:=r
   obtain ⟨S2,a2,c2⟩:=x
   have hb:c1=c2:=hr.bad
   subst hb
   by_cases hz:c1=0
   ·subst hz
    simp only [if_true]
    cases b1 with
    | true =>
     have e:bnot true=false:=rfl
     simp only [e,br_false,not_true,if_false]
     exact ⟨l,_,_,rfl,rfl,hr,by omega⟩
    | false =>
     have e:bnot false=true:=rfl
     simp only [e,br_true]
     exact ⟨[],_,_,rfl,rfl,hr.fail (e:=2) (by decide) rfl,by simp⟩
   ·simp only [hz,not_false_eq_true,if_true,if_false]
    exact ⟨[],_,_,rfl,rfl,hr,by simp⟩
theorem tread_is (k:Nat) (S:List UInt8) (most:Int) (r:Rdr) (x:RefRdr) (h:RR S r x) (hS:S.length<5000) (hk:5000<k) (hk2:k<1000000) :
  ∃ (l:List Undo) (r':Rdr) (x':RefRdr),z1z.f k most r=some (l,r')∧z1u.f k most x=some (l,x')∧RR S r' x'∧l.length≤S.length:=by
 obtain ⟨n,r1,x1,e1,e2,h1,n0,n1,nm⟩:=many_is k S most r x h (by omega) (by omega)
 rw [z1z.f_eq,z1u.f_eq,e1,e2]
 simp only [bnd_some]
 obtain ⟨N,rfl⟩:∃ N:Nat,n=(N:Int):=⟨n.toNat,by omega⟩
 obtain ⟨l,r',x',g1,g2,g3,g4⟩:=tread_l k S hS hk hk2 N (by omega) k 0 [] r1 x1 (by omega) (by omega) rfl h1
 exact ⟨l,r',x',g1,g2,g3,by omega⟩
def codeU (u:Undo):List UInt8:=codeD u.1++packB u.2.toNat
def codeT (l:List Undo):List UInt8:=packB l.length++l.flatMap codeU
theorem roomS_ok {a b:List UInt8} (h1:a.length≤4000000000) (h2:b.length≤4000000000):roomS a b=true:=decide_eq_true (by omega)
theorem packB_le {n:Nat} (h:n<72057594037927936):(packB n).length≤8:=packB_len 7 n h
theorem codeD_le {d:Dot} (h:rightD d=true):(codeD d).length≤16:=by
 obtain ⟨h1,h2,h3,h4⟩:=rightD_rng h
 have:=packB_le (n:=d.1.toNat) (by omega)
 have:=packB_le (n:=d.2.toNat) (by omega)
 unfold codeD;rw [List.length_append];omega
theorem codeU_le {u:Undo} (h:rightU u=true):(codeU u).length≤24:=by
 obtain ⟨h1,h2,h3⟩:=(rightU_iff u).1 h
 have:=codeD_le h1
 have:=packB_le (n:=u.2.toNat) (by omega)
 unfold codeU;rw [List.length_append];omega
theorem codes_le {α:Type} (f:α→List UInt8) (c:Nat):∀ (l:List α),(∀ x ∈ l,(f x).length≤c)→(l.flatMap f).length≤c * l.length
 | [],_=>by simp
 | x::l,h=>by
  have h1:=h x (by simp)
  have h2:=codes_le f c l (fun y hy=>h y (List.mem_cons_of_mem _ hy))
  rw [List.flatMap_cons,List.length_append,List.length_cons,Nat.mul_add,Nat.mul_one];omega
theorem dcode_is (k:Nat) {d:Dot} (h:rightD d=true):z1Y.f k d=some (codeD d):=by
 obtain ⟨h1,h2,h3,h4⟩:=rightD_rng h
 have p1:=packB_le (n:=d.1.toNat) (by omega)
 have p2:=packB_le (n:=d.2.toNat) (by omega)
 rw [z1Y.f_eq,packI_is (n:=d.1) (by omega),packI_is (n:=d.2) (by omega)]
 simp only [bnd_some]
 rw [roomS_ok (by omega) (by omega)];rfl
theorem lcode_l (k:Nat) (l:List Dot) (hr:∀ d ∈ l,rightD d=true) (hl:l.length<1000000):∀ (n i:Nat) (x:List UInt8),i≤l.length→l.length<n+i→x.length≤100+16 * i→z1H.l3 k n x l (ilen l) (i:Int)=some (x++(l.drop i).flatMap codeD)
 | 0,i,_,h,h',_=>by omega
 | n+1,i,x,h,h',hx=>by
  rw [z1H.l3_eq,ilt_nat,inL_nat,natOf_nat]
  by_cases hi:i<l.length
  ·have hd:=hr l[i] (List.getElem_mem hi)
   have hp:=codeD_le hd
   have e4:iadd .i64 (i:Int) 1=((i+1:Nat):Int):=iadd_nat (by omega)
   have ed:l.drop i=l[i]::l.drop (i+1):=List.drop_eq_getElem_cons hi
   rw [decide_eq_true hi,rd_at' (e:=tDot) hi,dcode_is k hd,e4,ed,List.flatMap_cons]
   simp only [br_true,bnd_some]
   rw [roomS_ok (by omega) (by omega),br_true]
   refine (lcode_l k l hr hl n (i+1) _ (by omega) (by omega) (by unfold app;rw [List.length_append];omega)).trans ?_
   unfold app;rw [List.append_assoc]
  ·have e0:l.drop i=[]:=List.drop_eq_nil_of_le (by omega)
   rw [decide_eq_false hi,br_false,e0];simp
theorem lcode_is (k:Nat) {l:List Dot} (hr:∀ d ∈ l,rightD d=true) (hl:l.length<k) (hk:k<1000000):z1H.f k l=some (codeL l):=by
 have e:(ilen l).toNat=l.length:=rfl
 have hp:=packB_le (n:=l.length) (by omega)
 rw [z1H.f_eq,packI_is (n:=ilen l) (by unfold ilen;omega),e,bnd_some]
 exact lcode_l k l hr (by omega) k 0 _ (by omega) (by omega) (by omega)
theorem codeL_le {l:List Dot} (hr:∀ d ∈ l,rightD d=true) (hl:l.length<1000000):(codeL l).length≤8+16 * l.length:=by
 have hp:=packB_le (n:=l.length) (by omega)
 have:=codes_le codeD 16 l (fun d hd=>codeD_le (hr d hd))
 unfold codeL;rw [List.length_append];omega
theorem tcode_l (k:Nat) (l:List Undo) (hr:∀ u ∈ l,rightU u=true) (hl:l.length<1000000):∀ (n i:Nat) (x:List UInt8),i≤l.length→l.length<n+i→x.length≤100+24 * i→z1m.l3 k n x l (ilen l) (i:Int)=some (x++(l.drop i).flatMap codeU)
 | 0,i,_,h,h',_=>by omega
 | n+1,i,x,h,h',hx=>by
  rw [z1m.l3_eq,ilt_nat,inL_nat,natOf_nat]
  by_cases hi:i<l.length
  ·have hd:=hr l[i] (List.getElem_mem hi)
   obtain ⟨hd1,hd2,hd3⟩:=(rightU_iff _).1 hd
   have hp:=codeU_le hd
   have hp1:=codeD_le hd1
   have hp2:=packB_le (n:=l[i].2.toNat) (by omega)
   have e4:iadd .i64 (i:Int) 1=((i+1:Nat):Int):=iadd_nat (by omega)
   have ed:l.drop i=l[i]::l.drop (i+1):=List.drop_eq_getElem_cons hi
   rw [decide_eq_true hi,rd_at' (e:=tUndo) hi,dcode_is k hd1,packI_is (n:=l[i].2) (by omega),e4,ed,List.flatMap_cons]
   simp only [br_true,bnd_some]
   rw [roomS_ok (by omega) (by omega),br_true]
   have ea:app (codeD l[i].1) (packB l[i].2.toNat)=codeU l[i]:=rfl
   rw [ea,roomS_ok (by omega) (by omega),br_true]
   refine (tcode_l k l hr hl n (i+1) _ (by omega) (by omega) (by unfold app;rw [List.length_append];omega)).trans ?_
   unfold app;rw [List.append_assoc]
  ·have e0:l.drop i=[]:=List.drop_eq_nil_of_le (by omega)
   rw [decide_eq_false hi,br_false,e0];simp
theorem tcode_is (k:Nat) {l:List Undo} (hr:∀ u ∈ l,rightU u=true) (hl:l.length<k) (hk:k<1000000):z1m.f k l=some (codeT l):=by
 have e:(ilen l).toNat=l.length:=rfl
 have hp:=packB_le (n:=l.length) (by omega)
 rw [z1m.f_eq,packI_is (n:=ilen l) (by unfold ilen;omega),e,bnd_some]
 exact tcode_l k l hr (by omega) k 0 _ (by omega) (by omega) (by omega)
theorem codeT_le {l:List Undo} (hr:∀ u ∈ l,rightU u=true) {n:Nat} (hl:l.length≤n) (hn:n<1000000):(codeT l).length≤8+24 * n:=by
 have hp:=packB_le (n:=l.length) (by omega)
 have:=codes_le codeU 24 l (fun d hd=>codeU_le (hr d hd))
 unfold codeT;rw [List.length_append];omega
theorem codeU_pos (u:Undo):0<(codeU u).length:=by
 unfold codeU;rw [List.length_append];have:=codeD_pos u.1;omega
theorem back_t3 (k:Nat) (h12:12<k) (N:Nat) (hN:N<1000000) (hNk:N<k) (hk2:k<1000000) (t:List UInt8):∀ (n i:Nat) (x l:List Undo),i+l.length=N→N<n+i→x.length=i→(∀ d ∈ l,rightU d=true)→CanU (x++l)→(l.flatMap codeU++t).length<4000000 →
  z1z.l3 k n x (N:Int) (i:Int) (l.flatMap codeU++t,0)=some (x++l,(t,0))
 | 0,i,_,_,h,h',_,_,_,_=>by omega
 | n+1,i,x,[],h,_,hx,_,hc,_=>by
  have hi:N=i:=by simpa using h.symm
  subst hi
  rw [List.append_nil] at hc
  obtain ⟨b1,g1,i1⟩:=trightU2_is k x (by omega) (by omega) hk2
  have hb:b1=true:=i1.2 hc
  subst hb
  rw [z1z.l3_eq,ilt_nn,decide_eq_false (Nat.lt_irrefl _)]
  have bt:bnot true=false:=rfl
  simp only [br_false,fault_is,bnd_some,ieq_dec,decide_true,br_true,g1,bt,List.append_nil,List.flatMap_nil,List.nil_append]
 | n+1,i,x,d::l,h,h',hx,hr,hc,hS=>by
  simp only [List.length_cons] at h
  have hd:=hr d (by simp)
  obtain ⟨hd1,hd2,hd3⟩:=(rightU_iff _).1 hd
  have e4:iadd .i64 (i:Int) 1=((i+1:Nat):Int):=iadd_nat (by omega)
  have ea:(d::l).flatMap codeU++t=codeD d.1++(packB d.2.toNat++(l.flatMap codeU++t)):=by rw [List.flatMap_cons,codeU,List.append_assoc,List.append_assoc]
  rw [ea] at hS ⊢
  have hS2:(packB d.2.toNat++(l.flatMap codeU++t)).length<4000000:=by rw [List.length_append] at hS;omega
  have hS3:(l.flatMap codeU++t).length<4000000:=by rw [List.length_append] at hS2;omega
  rw [z1z.l3_eq,ilt_nn,decide_eq_true (show i<N by omega),back_dot k d.1 _ hd1 h12 hS,e4]
  simp only [br_true,bnd_some]
  rw [back_int k d.2.toNat _ h12 (by omega) hS2]
  simp only [bnd_some]
  rw [room1 (show x.length<4000000 by omega),br_true,Int.toNat_of_nonneg (by omega)]
  have:=back_t3 k h12 N hN hNk hk2 t n (i+1) (app x (d::[])) l (by omega) (by omega) (by simp [app,hx]) (fun e he=>hr e (List.mem_cons_of_mem _ he)) (by unfold app;rw [List.append_assoc];exact hc) hS3
  refine this.trans ?_
  simp [app]
theorem back_tally (k:Nat) (l:List Undo) (most:Int) (t:List UInt8) (hc:CanU l) (hm:(l.length:Int)≤most) (hk:12<k) (hl:l.length<k) (hk2:k<1000000) (hS:(codeT l++t).length<4000000) :
  z1z.f k most (codeT l++t,0)=some (l,(t,0)):=by
 have ea:codeT l++t=packB l.length++(l.flatMap codeU++t):=by unfold codeT;rw [List.append_assoc]
 rw [ea] at hS ⊢
 have hS2:(l.flatMap codeU++t).length<4000000:=by rw [List.length_append] at hS;omega
 have hlen:=codes_len codeU codeU_pos l
 rw [z1z.f_eq,back_many k _ most _ hk (by omega) hm (by rw [List.length_append];omega) hS]
 simp only [bnd_some]
 exact back_t3 k hk l.length (by omega) (by omega) hk2 t k 0 [] l (by omega) (by omega) rfl hc.rt hc hS2
end Go.Proofs.YtggcagclpkhlhaaGreatDoor
end
noncomputable section
/- How long a transaction's parts are. -/
namespace Go.Proofs.YtggcagclpkhlhaaGreatDoor
open Pal
structure SizT (k:Nat) (t:Txn):Prop where
 ops:t.2.2.2.2.length<k
 each:∀ o ∈ t.2.2.2.2,SizO k o
theorem SizT.len {k:Nat} {t:Txn} (h:SizT k t):LenT k t:=⟨h.ops,fun o ho=>⟨(h.each o ho).names,(h.each o ho).seen⟩⟩
theorem txn_rt (k:Nat) (t:Txn) (h:z0N.f k t=some 0):rightD t.1=true:=by
 rw [z0N.f_eq,rright_is,bnd_some] at h
 cases hr:rightD t.1 with
 | true=>rfl
 | false =>
  rw [hr] at h
  have bf:bnot false=true:=rfl
  rw [bf,br_true] at h
  cases h
theorem SizT.chk {k:Nat} {t:Txn} (h:SizT k t) (hk:10<k) (hk2:k<1000000):∃ e:Int,z0N.f k t=some e∧(e=0→rightD t.1=true):=by
 obtain ⟨e,_,g⟩:=txn_is k t h.each h.ops hk hk2
 exact ⟨e,g,fun he=>txn_rt k t (by rw [g,he])⟩
end Go.Proofs.YtggcagclpkhlhaaGreatDoor
end
noncomputable section
/- Transactions and lists of them: the program and the document read the same. -/
namespace Go.Proofs.YtggcagclpkhlhaaGreatDoor
open Pal
theorem txnr_l (k:Nat) (S:List UInt8) (hS:S.length<5000) (hk:5000<k) (hk2:k<1000000) (N:Nat) (hN:N≤16) (d:Dot) (a b:Int) (c:Bool):∀ (n i:Nat) (l:List Op) (r:Rdr) (x:RefRdr),i≤N→N<n+i→l.length=i→(∀ o ∈ l,SizO k o)→RR S r x →
  ∃ (t:Txn) (r':Rdr) (x':RefRdr),z1V.l7 k n (N:Int) (i:Int) (0,0) 0 0 false [] d a b c l r=some (t,r')∧z1g.l11 k n (N:Int) (i:Int) (0,0) 0 0 false [] d a b c l x=some (t,x')∧RR S r' x'∧SizT k t
 | 0,i,_,_,_,h,h',_,_,_=>by omega
 | n+1,i,l,r,x,h,h',hl,hs,hr=>by
  rw [z1V.l7_eq,z1g.l11_eq,ilt_nn]
  by_cases hi:i<N
  ·obtain ⟨o,r1,x1,e1,e2,h1,so⟩:=opr_is k S r x hr hS hk hk2
   have e4:iadd .i64 (i:Int) 1=((i+1:Nat):Int):=iadd_nat (by omega)
   rw [decide_eq_true hi,e1,e2,e4]
   simp only [br_true,bnd_some,room1 (show l.length<4000000 by omega)]
   exact txnr_l k S hS hk hk2 N hN d a b c n (i+1) _ r1 x1 (by omega) (by omega) (by simp [app,hl]) (fun o' ho=>by
    simp only [app,List.mem_append,List.mem_singleton] at ho
    rcases ho with ho | rfl
    ·exact hs _ ho
    ·exact so) h1
  ·obtain ⟨e,g1,g2⟩:=txn_is k (d,(a,(b,(c,l)))) hs (by show l.length<k;omega) (by omega) hk2
   rw [decide_eq_false hi]
   simp only [br_false,bnd_some,g1,g2,fault_is,fail_is,z0c.f_eq,ieq_dec,bnot_dec,br_dec]
   obtain ⟨s2,c1⟩:=r
   obtain ⟨S2,a2,c2⟩:=x
   have hb:c1=c2:=hr.bad
   subst hb
   have hz0:SizT k ((0,0),(0,(0,(false,[])))):=⟨by show 0<k;omega,fun o ho=>by simp at ho⟩
   by_cases hz:c1=0
   ·subst hz
    simp only [if_true]
    by_cases he:e=0
    ·subst he
     simp only [not_true,if_false,if_true,bnd_some]
     exact ⟨_,_,_,rfl,rfl,hr,⟨by show l.length<k;omega,hs⟩⟩
    ·simp only [he,not_false_eq_true,if_true,bnd_some]
     exact ⟨_,_,_,rfl,rfl,hr.fail he rfl,hz0⟩
   ·simp only [hz,not_false_eq_true,if_true,if_false]
    exact ⟨_,_,_,rfl,rfl,hr,hz0⟩
theorem txnr_is (k : Nat) (S : List UInt8) (r : Rdr) (x : RefRdr) (h : RR S r x) (hS : S.length < 5000) (hk : 5000 < k) (hk2 : k < 1000000) :
    ∃ (t : Txn) (r' : Rdr) (x' : RefRdr), z1V.f k r = some (t, r') ∧ z1g.f k x = some (t, x') ∧ RR S r' x' ∧ SizT k t := by
  obtain ⟨d, r1, x1, e1, e2, h1, _⟩ := dotread_is k S r x h (by omega) (by omega)
  obtain ⟨a, r2, x2, e3, e4, h2, _, _, _⟩ := int_is k S r1 x1 h1 (by omega) (by omega)
  obtain ⟨b, r3, x3, e5, e6, h3, _, _, _⟩ := int_is k S r2 x2 h2 (by omega) (by omega)
  obtain ⟨c, r4, x4, e7, e8, h4, _, _, _⟩ := int_is k S r3 x3 h3 (by omega) (by omega)
  have fin : ∀ (r5 : Rdr) (x5 : RefRdr), RR S r5 x5 → ∃ (t : Txn) (r' : Rdr) (x' : RefRdr),
      (bnd (z0f.f k 16 r5) fun q => z1V.l7 k k q.1 0 (0, 0) 0 0 false [] d a b (ieq c 1) [] q.2) = some (t, r') ∧
      (bnd (z08.f k 16 x5) fun q => z1g.l11 k k q.1 0 (0, 0) 0 0 false [] d a b (ieq c 1) [] q.2) = some (t, x') ∧ RR S r' x' ∧ SizT k t := by
    intro r5 x5 h5
    obtain ⟨n, r6, x6, f1, f2, h6, n0, n1, nm⟩ := many_is k S 16 r5 x5 h5 (by omega) (by omega)
    obtain ⟨N, rfl⟩ : ∃ N : Nat, n = (N : Int) := ⟨n.toNat, by omega⟩
    have hN : N ≤ 16 := by
      by_cases h0 : N = 0
      · omega
      · have := nm (by omega); omega
    obtain ⟨t, r', x', g1, g2, g3, g4⟩ := txnr_l k S hS hk hk2 N hN d a b (ieq c 1) k 0 [] r6 x6 (by omega) (by omega) rfl (fun o ho => by simp at ho) h6
    rw [f1, f2, bnd_some, bnd_some]
    exact ⟨t, r', x', g1, g2, g3, g4⟩
  rw [z1V.f_eq, z1g.f_eq, e1, e2]
  simp only [bnd_some]
  rw [e3, e4]
  simp only [bnd_some]
  rw [e5, e6]
  simp only [bnd_some]
  rw [e7, e8]
  simp only [bnd_some, fault_is]
  have hb : r4.2 = x4.2.2 := h4.bad
  have hfl : z0h.f k 3 r4 = some ((), if r4.2 = 0 then (r4.1, 3) else r4) := fail_is k 3 r4
  have hfr : z0c.f k 3 x4 = some ((), if r4.2 = 0 then (x4.1, (x4.2.1, 3)) else x4) := by
    rw [z0c.f_eq, ieq_dec, br_dec, ← hb]; split <;> rfl
  rw [hfl, hfr]
  simp only [bnd_some]
  by_cases hz : r4.2 = 0
  · rw [hz, show ieq (0 : Int) 0 = true from rfl, br_true, if_pos rfl, if_pos rfl]
    cases ilt 1 c with
    | true => rw [br_true, br_true]; exact fin _ _ (h4.fail (by decide) (by rw [← hb]; exact hz))
    | false => rw [br_false, br_false]; exact fin _ _ h4
  · rw [ieq_dec, decide_eq_false hz, br_false, if_neg hz]
    cases ilt 1 c with
    | true => rw [br_true]; exact fin _ _ h4
    | false => rw [br_false]; exact fin _ _ h4
theorem tlr_l (k:Nat) (S:List UInt8) (hS:S.length<5000) (hk:5000<k) (hk2:k<1000000) (N:Nat) (hN:N≤S.length):∀ (n i:Nat) (l:List Txn) (r:Rdr) (x:RefRdr),i≤N→N<n+i→l.length=i→(∀ t ∈ l,SizT k t)→RR S r x →
  ∃ (l':List Txn) (r':Rdr) (x':RefRdr),z0z.l3 k n l (N:Int) (i:Int) r=some (l',r')∧z0r.l4 k n (N:Int) l (i:Int) x=some (l',x')∧RR S r' x'∧l'.length≤N∧∀ t ∈ l',SizT k t
 | 0,i,_,_,_,h,h',_,_,_=>by omega
 | n+1,i,l,r,x,h,h',hl,hs,hr=>by
  rw [z0z.l3_eq,z0r.l4_eq,ilt_nn]
  by_cases hi:i<N
  ·obtain ⟨t,r1,x1,e1,e2,h1,st⟩:=txnr_is k S r x hr hS hk hk2
   have e4:iadd .i64 (i:Int) 1=((i+1:Nat):Int):=iadd_nat (by omega)
   rw [decide_eq_true hi,e1,e2,e4]
   simp only [br_true,bnd_some,room1 (show l.length<4000000 by omega)]
   exact tlr_l k S hS hk hk2 N hN n (i+1) _ r1 x1 (by omega) (by omega) (by simp [app,hl]) (fun o' ho=>by
    simp only [app,List.mem_append,List.mem_singleton] at ho
    rcases ho with ho | rfl
    ·exact hs _ ho
    ·exact st) h1
  ·rw [decide_eq_false hi]
   obtain ⟨b1,g1,i1⟩:=trises_is k l (by omega) (by omega) hk2
   obtain ⟨b2,g2,i2⟩:=rrises_is k l (by omega) hk2
   have hbb:b1=b2:=by rw [Bool.eq_iff_iff,i1,i2]
   subst hbb
   simp only [br_false,bnd_some,g1,g2,fault_is,fail_is,ieq_dec,bnot_dec,br_dec]
   obtain ⟨s2,c1⟩:=r
   obtain ⟨S2,a2,c2⟩:=x
   have hb:c1=c2:=hr.bad
   subst hb
   by_cases hz:c1=0
   ·subst hz
    simp only [if_true]
    cases b1 with
    | true =>
     have e:bnot true=false:=rfl
     simp only [e,br_false,not_true,if_false]
     exact ⟨l,_,_,rfl,rfl,hr,by omega,hs⟩
    | false =>
     have e:bnot false=true:=rfl
     simp only [e,br_true]
     exact ⟨[],_,_,rfl,rfl,hr.fail (e:=2) (by decide) rfl,by simp,fun t ht=>by simp at ht⟩
   ·simp only [hz,not_false_eq_true,if_true,if_false]
    exact ⟨[],_,_,rfl,rfl,hr,by simp,fun t ht=>by simp at ht⟩
theorem tlr_is (k:Nat) (S:List UInt8) (most:Int) (r:Rdr) (x:RefRdr) (h:RR S r x) (hS:S.length<5000) (hk:5000<k) (hk2:k<1000000) :
  ∃ (l:List Txn) (r':Rdr) (x':RefRdr),z0z.f k most r=some (l,r')∧z0r.f k most x=some (l,x')∧RR S r' x'∧l.length≤S.length∧∀ t ∈ l,SizT k t:=by
 obtain ⟨n,r1,x1,e1,e2,h1,n0,n1,nm⟩:=many_is k S most r x h (by omega) (by omega)
 rw [z0z.f_eq,z0r.f_eq,e1,e2]
 simp only [bnd_some]
 obtain ⟨N,rfl⟩:∃ N:Nat,n=(N:Int):=⟨n.toNat,by omega⟩
 obtain ⟨l,r',x',g1,g2,g3,g4,g5⟩:=tlr_l k S hS hk hk2 N (by omega) k 0 [] r1 x1 (by omega) (by omega) rfl (fun t ht=>by simp at ht) h1
 exact ⟨l,r',x',g1,g2,g3,by omega,g5⟩
end Go.Proofs.YtggcagclpkhlhaaGreatDoor
end
noncomputable section
/- A state is read: the program and the document do the same. -/
namespace Go.Proofs.YtggcagclpkhlhaaGreatDoor
open Pal
abbrev Rows:=Ty.D (.arr 8 (.slc tDot))
end Go.Proofs.YtggcagclpkhlhaaGreatDoor
end
noncomputable section
/- What is told of texts, paths, values and operations is read again. -/
namespace Go.Proofs.YtggcagclpkhlhaaGreatDoor
open Pal
def codeX (s:Str):List UInt8:=packB (List.length s)++s
theorem codeX_len (s:Str) (h:List.length s<1000000):(codeX s).length≤8+List.length s:=by
 have:=packB_le (n:=List.length s) (by omega)
 unfold codeX;rw [List.length_append];omega
theorem codeX_pos (s:Str):0<(codeX s).length:=by
 unfold codeX;rw [List.length_append];have:=packB_pos (List.length s);omega
theorem text_code (k:Nat) (s:Str) (h:List.length s<1000000):z1Q.f k s=some (codeX s):=by
 have e:(ilen s).toNat=List.length s:=rfl
 have hp:=packB_le (n:=List.length s) (by omega)
 rw [z1Q.f_eq,packI_is (n:=ilen s) (by unfold ilen;omega),e,bnd_some,roomS_ok (by omega) (by omega)];rfl
theorem back_text (k:Nat) (s:Str) (t:List UInt8) (hk:12<k) (hS:(codeX s++t).length<4000000):z0k.f k (codeX s++t,0)=some (s,(t,0)):=by
 have ea:codeX s++t=packB (List.length s)++(s++t):=by unfold codeX;rw [List.append_assoc]
 rw [ea] at hS ⊢
 have hl:List.length s≤(s++t).length:=by rw [List.length_append];omega
 have hS2:(s++t).length<4000000:=by rw [List.length_append] at hS;omega
 have e1:ilt (ilen (s++t)) (List.length s:Int)=false:=by unfold ilt ilen;exact decide_eq_false (by omega)
 have i1:inS 0 (List.length s:Int) (ilen (s++t))=true:=inS_nn (a:=0) (by omega) hl
 have i2:inS (List.length s:Int) (ilen (s++t)) (ilen (s++t))=true:=inS_nn (b:=(s++t).length) (c:=(s++t).length) hl (by omega)
 have p1:piece (s++t) 0 (List.length s:Int)=s:=by unfold piece;simp
 have p2:piece (s++t) (List.length s:Int) (ilen (s++t))=t:=by
  unfold piece ilen;rw [Int.toNat_natCast,Int.toNat_natCast,List.take_length];simp
 have bt:bnot true=false:=rfl
 rw [z0k.f_eq,back_int k _ _ hk (by omega) hS]
 simp only [bnd_some,fine_is,decide_true,br_true,e1,br_false,bt,i1,i2,p1,p2]
def codeP (p:List Str):List UInt8:=packB p.length++p.flatMap codeX
theorem codeP_le {p:List Str} (h:ShortP p):(codeP p).length≤1544:=by
 have hp:=packB_le (n:=p.length) (by have:=h.1;omega)
 have:=codes_le codeX 128 p (fun s hs=>by have h1:=h.2 s hs;have:=codeX_len s (by omega);omega)
 have h1:=h.1
 unfold codeP;rw [List.length_append];omega
theorem pcode_l (k:Nat) (p:List Str) (hs:∀ s ∈ p,List.length s≤120) (hl:p.length<10000):∀ (n i:Nat) (x:List UInt8),i≤p.length→p.length<n+i→x.length≤100+128 * i→z1J.l3 k n x p (ilen p) (i:Int)=some (x++(p.drop i).flatMap codeX)
 | 0,i,_,h,h',_=>by omega
 | n+1,i,x,h,h',hx=>by
  rw [z1J.l3_eq,ilt_nat,inL_nat,natOf_nat]
  by_cases hi:i<p.length
  ·have hd:=hs p[i] (List.getElem_mem hi)
   have hp:=codeX_len p[i] (by omega)
   have e4:iadd .i64 (i:Int) 1=((i+1:Nat):Int):=iadd_nat (by omega)
   have ed:p.drop i=p[i]::p.drop (i+1):=List.drop_eq_getElem_cons hi
   rw [decide_eq_true hi,rd_at' (e:=.str) hi,text_code k _ (by omega),e4,ed,List.flatMap_cons]
   simp only [br_true,bnd_some]
   rw [roomS_ok (by omega) (by omega),br_true]
   refine (pcode_l k p hs hl n (i+1) _ (by omega) (by omega) (by unfold app;rw [List.length_append];omega)).trans ?_
   unfold app;rw [List.append_assoc]
  ·have e0:p.drop i=[]:=List.drop_eq_nil_of_le (by omega)
   rw [decide_eq_false hi,br_false,e0];simp
theorem pcode_is (k:Nat) {p:List Str} (h:ShortP p) (hk:12<k) (hk2:k<1000000):z1J.f k p=some (codeP p):=by
 have h1:=h.1
 have e:(ilen p).toNat=p.length:=rfl
 have hp:=packB_le (n:=p.length) (by omega)
 rw [z1J.f_eq,packI_is (n:=ilen p) (by unfold ilen;omega),e,bnd_some]
 exact pcode_l k p h.2 (by omega) k 0 _ (by omega) (by omega) (by omega)
theorem back_p3 (k:Nat) (hk:12<k) (N:Nat) (hN:N<10000) (t:List UInt8) (p:List Str) (hc:z11.f k p=some 0):∀ (n i:Nat) (x l:List Str),i+l.length=N→N<n+i→x.length=i→x++l=p→(l.flatMap codeX++t).length<4000000 →
  z1B.l3 k n x (N:Int) (i:Int) (l.flatMap codeX++t,0)=some (p,(t,0))
 | 0,i,_,_,h,h',_,_,_=>by omega
 | n+1,i,x,[],h,_,_,hp,_=>by
  have hi:N=i:=by simpa using h.symm
  subst hi
  rw [List.append_nil] at hp
  subst hp
  rw [z1B.l3_eq,ilt_nn,decide_eq_false (Nat.lt_irrefl _)]
  have bt:bnot true=false:=rfl
  simp only [br_false,fault_is,bnd_some,ieq_dec,decide_true,br_true,hc,fail_is,if_true,bt,List.append_nil,List.flatMap_nil,List.nil_append]
 | n+1,i,x,d::l,h,h',hx,hp,hS=>by
  simp only [List.length_cons] at h
  have e4:iadd .i64 (i:Int) 1=((i+1:Nat):Int):=iadd_nat (by omega)
  have ea:(d::l).flatMap codeX++t=codeX d++(l.flatMap codeX++t):=by rw [List.flatMap_cons,List.append_assoc]
  rw [ea] at hS ⊢
  have hS2:(l.flatMap codeX++t).length<4000000:=by rw [List.length_append] at hS;omega
  rw [z1B.l3_eq,ilt_nn,decide_eq_true (show i<N by omega),back_text k d _ hk hS,e4]
  simp only [br_true,bnd_some,room1 (show x.length<4000000 by omega)]
  exact back_p3 k hk N hN t p hc n (i+1) (app x (d::[])) l (by omega) (by omega) (by simp [app,hx]) (by unfold app;rw [List.append_assoc];exact hp) hS2
theorem back_path (k:Nat) (p:List Str) (t:List UInt8) (hc:z11.f k p=some 0) (hm:p.length≤8) (hk:12<k) (hk2:k<1000000) (hS:(codeP p++t).length<4000000) :
  z1B.f k (codeP p++t,0)=some (p,(t,0)):=by
 have ea:codeP p++t=packB p.length++(p.flatMap codeX++t):=by unfold codeP;rw [List.append_assoc]
 rw [ea] at hS ⊢
 have hS2:(p.flatMap codeX++t).length<4000000:=by rw [List.length_append] at hS;omega
 have hlen:=codes_len codeX codeX_pos p
 rw [z1B.f_eq,back_many k _ 8 _ hk (by omega) (by omega) (by rw [List.length_append];omega) hS]
 simp only [bnd_some]
 exact back_p3 k hk p.length (by omega) t p hc k 0 [] p (by omega) (by omega) rfl rfl hS2
def foldN (i:Int):Nat:=if i<0 then (-2 * i - 1).toNat else (2 * i).toNat
theorem foldN_le {i:Int} (h1:-2147483647≤i) (h2:i≤2147483647):foldN i<72057594037927936:=by
 unfold foldN;split <;> omega
theorem fold_is (k:Nat) (i:Int) (h1:-2147483647≤i) (h2:i≤2147483647):z1q.f k i=some ((foldN i:Nat):Int):=by
 rw [z1q.f_eq]
 unfold foldN
 by_cases h:i<0
 ·have m:imul .i64 (-2) i=-2 * i:=by
   show IntKind.wrap .i64 (-2 * i)=_
   rw [wrap64 (by omega) (by omega)]
  have s:isub .i64 (-2 * i) 1=-2 * i - 1:=by
   show IntKind.wrap .i64 (-2 * i - 1)=_
   rw [wrap64 (by omega) (by omega)]
  rw [show ilt i 0=true from decide_eq_true h,br_true,m,s,if_pos h,Int.toNat_of_nonneg (by omega)]
 ·have m:imul .i64 2 i=2 * i:=by
   show IntKind.wrap .i64 (2 * i)=_
   rw [wrap64 (by omega) (by omega)]
  rw [show ilt i 0=false from decide_eq_false h,br_false,m,if_neg h,Int.toNat_of_nonneg (by omega)]
theorem unf_fold (i:Int) (h1:-2147483647≤i) (h2:i≤2147483647):unf (foldN i)=i:=by
 unfold unf foldN
 by_cases h:i<0
 ·rw [if_pos h]
  obtain ⟨m,hm⟩:∃ m:Nat,i=-((m:Int)+1):=⟨(-i - 1).toNat,by omega⟩
  have e:(-2 * i - 1).toNat=2 * m+1:=by omega
  rw [e,if_neg (by omega)];omega
 ·rw [if_neg h]
  obtain ⟨m,hm⟩:∃ m:Nat,i=(m:Int):=⟨i.toNat,by omega⟩
  have e:(2 * i).toNat=2 * m:=by omega
  rw [e,if_pos (by omega)];omega
structure ValOK (v:Val):Prop where
 kind:1≤v.1∧v.1≤3
 text:v.1=2→v.2.1=0
 num:v.1 ≠ 2→v.2.2=[]∧-2147483647≤v.2.1∧v.2.1≤2147483647
theorem seq_nil {s:Str} (h:seq s []=true):s=[]:=by
 cases s with
 | nil=>rfl
 | cons a l=>cases h
theorem val_ok (k:Nat) (v:Val) (h:z0W.f k v=some true):ValOK v:=by
 rw [z0W.f_eq] at h
 obtain ⟨K,A,s⟩:=v
 simp only at h
 by_cases h1:K=1
 ·subst h1
  rw [show ieq (1:Int) 1=true from rfl,br_true] at h
  cases hq:seq s [] with
  | false=>rw [hq,br_false] at h;cases h
  | true =>
   rw [hq,br_true,show ile (-2147483647) A=decide (-2147483647≤A) from rfl] at h
   by_cases h2:-2147483647≤A
   ·rw [decide_eq_true h2,br_true] at h
    injection h with h
    exact ⟨by show (1:Int)≤1∧(1:Int)≤3;decide,fun h=>(by cases h),fun _=>⟨seq_nil hq,h2,of_decide_eq_true h⟩⟩
   ·rw [decide_eq_false h2,br_false] at h;cases h
 by_cases h2:K=2
 ·subst h2
  rw [show ieq (2:Int) 1=false from rfl,show ieq (2:Int) 2=true from rfl,br_false,br_true] at h
  refine ⟨by show (1:Int)≤2∧(2:Int)≤3;decide,fun _=>?_,fun h=>absurd rfl h⟩
  cases hr:runesB s with
  | none=>rw [hr] at h;cases h
  | some r =>
   rw [hr,bnd_some] at h
   cases h2:r.2 with
   | false=>rw [h2,br_false] at h;cases h
   | true =>
    rw [h2,br_true,ieq_dec] at h
    by_cases h0:A=0
    ·exact h0
    ·rw [decide_eq_false h0,br_false] at h;cases h
 by_cases h3:K=3
 ·subst h3
  rw [show ieq (3:Int) 1=false from rfl,show ieq (3:Int) 2=false from rfl,show ieq (3:Int) 3=true from rfl,br_false,br_false,br_true] at h
  cases hq:seq s [] with
  | false=>rw [hq,br_false] at h;cases h
  | true =>
   rw [hq,br_true,ieq_dec] at h
   refine ⟨by show (1:Int)≤3∧(3:Int)≤3;decide,fun h=>(by cases h),fun _=>⟨seq_nil hq,?_⟩⟩
   show -2147483647≤A∧A≤2147483647
   by_cases h0:A=0
   ·omega
   ·rw [decide_eq_false h0,br_false,ieq_dec] at h
    injection h with h
    have:=of_decide_eq_true h
    omega
 ·have f:∀ c:Int,K ≠ c→ieq K c=false:=fun c hc=>by rw [ieq_dec];exact decide_eq_false hc
  rw [f 1 h1,f 2 h2,f 3 h3,br_false,br_false,br_false] at h
  cases h
def codeVal (v:Val):List UInt8:=packB v.1.toNat++(if v.1=2 then codeX v.2.2 else packB (foldN v.2.1))
theorem codeVal_le {v:Val} (hv:ValOK v) (hl:v.2.2.length≤200):(codeVal v).length≤216:=by
 have h1:=hv.kind
 have p1:=packB_le (n:=v.1.toNat) (by omega)
 unfold codeVal;rw [List.length_append]
 split
 ·have:=codeX_len v.2.2 (by omega);omega
 ·rename_i h2
  obtain ⟨_,a,b⟩:=hv.num h2
  have:=packB_le (foldN_le a b);omega
theorem vacode_is (k:Nat) {v:Val} (hv:ValOK v) (hl:v.2.2.length≤200):z1k.f k v=some (codeVal v):=by
 have h1:=hv.kind
 have p1:=packB_le (n:=v.1.toNat) (by omega)
 unfold codeVal
 rw [z1k.f_eq,packI_is (n:=v.1) (by omega),ieq_dec]
 by_cases h2:v.1=2
 ·have:=codeX_len v.2.2 (by omega)
  rw [decide_eq_true h2,br_true,bnd_some,text_code k _ (by omega),bnd_some,roomS_ok (by omega) (by omega),br_true,if_pos h2];rfl
 ·obtain ⟨_,a,b⟩:=hv.num h2
  have hb:=foldN_le a b
  have:=packB_le hb
  rw [decide_eq_false h2,br_false,bnd_some,fold_is k _ a b,bnd_some,packI_is (n:=((foldN v.2.1:Nat):Int)) (by omega),Int.toNat_natCast,bnd_some,roomS_ok (by omega) (by omega),br_true,if_neg h2];rfl
theorem back_val (k:Nat) {v:Val} (t:List UInt8) (h:z0W.f k v=some true) (hk:12<k) (hS:(codeVal v++t).length<4000000):z1A.f k (codeVal v++t,0)=some (v,(t,0)):=by
 have hv:=val_ok k v h
 have h1:=hv.kind
 have e1:((v.1.toNat:Nat):Int)=v.1:=Int.toNat_of_nonneg (by omega)
 have bt:bnot true=false:=rfl
 by_cases h2:v.1=2
 ·have ea:codeVal v++t=packB v.1.toNat++(codeX v.2.2++t):=by unfold codeVal;rw [if_pos h2,List.append_assoc]
  rw [ea] at hS ⊢
  have hS2:(codeX v.2.2++t).length<4000000:=by rw [List.length_append] at hS;omega
  have ev:(v.1,((0:Int),v.2.2))=v:=by rw [← hv.text h2]
  rw [z1A.f_eq,back_int k _ _ hk (by omega) hS,e1]
  simp only [bnd_some]
  rw [ieq_dec,decide_eq_true h2,br_true,back_text k _ _ hk hS2]
  simp only [bnd_some]
  rw [ev,h]
  simp only [bnd_some,fault_is,ieq_dec,decide_true,br_true,bt,br_false]
 ·obtain ⟨e0,a,b⟩:=hv.num h2
  have hb:=foldN_le a b
  have ea:codeVal v++t=packB v.1.toNat++(packB (foldN v.2.1)++t):=by unfold codeVal;rw [if_neg h2,List.append_assoc]
  rw [ea] at hS ⊢
  have hS2:(packB (foldN v.2.1)++t).length<4000000:=by rw [List.length_append] at hS;omega
  obtain ⟨u1,_⟩:=unfold_is k (foldN v.2.1) hb
  rw [unf_fold _ a b] at u1
  have ev:(v.1,(v.2.1,([]:Str)))=v:=by rw [← e0]
  rw [z1A.f_eq,back_int k _ _ hk (by omega) hS,e1]
  simp only [bnd_some]
  rw [ieq_dec,decide_eq_false h2,br_false,back_int k _ _ hk hb hS2]
  simp only [bnd_some]
  rw [u1]
  simp only [bnd_some]
  rw [ev,h]
  simp only [bnd_some,fault_is,ieq_dec,decide_true,br_true,bt,br_false]
end Go.Proofs.YtggcagclpkhlhaaGreatDoor
end
noncomputable section
/- What is told of operations is read again. -/
namespace Go.Proofs.YtggcagclpkhlhaaGreatDoor
open Pal
theorem path_len (k:Nat) (p:List Str) (h:z11.f k p=some 0):p.length≤8:=by
 rw [z11.f_eq,show ilt 8 (ilen p)=decide (8<p.length) from ilt_lenR 8 p] at h
 generalize ieq (ilen p) 0=q at h
 cases q with
 | true=>rw [br_true] at h;cases h
 | false =>
  rw [br_false] at h
  by_cases h1:8<p.length
  ·rw [decide_eq_true h1,br_true] at h;cases h
  ·omega
theorem refs_ok (k:Nat) (l:List (Dot × Int)) (h3:3≤k) (hl:l.length<1000000):∀ (n i:Nat),i≤l.length→l.length<n+i→z2d.l2 k n l l (ilen l) (i:Int)=some true→∀ u ∈ l.drop i,rightD u.1=true∧0≤u.2∧u.2<16
 | 0,i,_,h,_=>by omega
 | n+1,i,h,h',hb=>by
  rw [z2d.l2_eq,ilt_nat,inL_nat,natOf_nat] at hb
  by_cases hi:i<l.length
  ·rw [decide_eq_true hi,rd_at' (e:=tUndo) hi,right_is,iadd_nat (by omega)] at hb
   simp only [br_true,bnd_some] at hb
   rw [List.drop_eq_getElem_cons hi]
   have bt:bnot true=false:=rfl
   have bf:bnot false=true:=rfl
   cases hr:rightD l[i].1 with
   | false=>rw [hr,bf,br_true] at hb;cases hb
   | true =>
    rw [hr,bt,br_false,show ilt l[i].2 0=decide (l[i].2<0) from rfl,show ile 16 l[i].2=decide (16≤l[i].2) from rfl] at hb
    by_cases h0:l[i].2<0
    ·rw [decide_eq_true h0,br_true] at hb;cases hb
    rw [decide_eq_false h0,br_false] at hb
    by_cases h16:16≤l[i].2
    ·rw [decide_eq_true h16,br_true] at hb;cases hb
    rw [decide_eq_false h16,br_false,show ilt 0 (i:Int)=decide (0<i) from ilt_nn 0 i] at hb
    have hnext:z2d.l2 k n l l (ilen l) ((i+1:Nat):Int)=some true:=by
     by_cases hp:0<i
     ·have hi1:i - 1<l.length:=by omega
      have e3:isub .i64 (i:Int) 1=((i - 1:Nat):Int):=by rw [isub_s (by omega) (by omega) (by omega) (by omega)];omega
      rw [decide_eq_true hp,br_true,e3,inL_nat,natOf_nat,rd_at' (e:=tUndo) hi1,decide_eq_true hi1,br_true,ref_is k _ _ h3,bnd_some] at hb
      cases hq:ile 0 (cmpR l[i - 1] l[i]) with
      | true=>rw [hq,br_true] at hb;cases hb
      | false=>rw [hq,br_false] at hb;exact hb
     ·rw [decide_eq_false hp,br_false] at hb;exact hb
    intro u hu
    rcases List.mem_cons.1 hu with rfl | hu
    ·exact ⟨hr,by omega,by omega⟩
    ·exact refs_ok k l h3 hl n (i+1) (by omega) (by omega) hnext u hu
  ·rw [List.drop_eq_nil_of_le (by omega)]
   intro u hu;simp at hu
structure OkO (k:Nat) (o:Op):Prop where
 kind:o.1=1∨o.1=2∨o.1=3∨o.1=4∨o.1=5
 chk:z1W.f k o=some 0
 path:z11.f k o.2.1=some 0
 val0:o.1=3∨o.1=5→o.2.2.1=(0,(0,[]))
 valr:o.1=1∨o.1=2∨o.1=4→z0W.f k o.2.2.1=some true
 amt0:o.1 ≠ 3→o.2.2.2.1=0
 amt3:-2147483647≤o.2.2.2.1∧o.2.2.2.1≤2147483647
 seen0:o.1=2∨o.1=3→o.2.2.2.2=[]
 seen:o.2.2.2.2.length≤256∧∀ u ∈ o.2.2.2.2,rightD u.1=true∧0≤u.2∧u.2<16
theorem nil_of {l:List (Dot × Int)} (h:ilt 0 (ilen l)=false):l=[]:=by
 rw [show ilt 0 (ilen l)=decide (0<l.length) from ilt_lenR 0 l] at h
 have:=of_decide_eq_false h
 exact List.eq_nil_of_length_eq_zero (by omega)
set_option maxHeartbeats 4000000 in
theorem op_ok (k:Nat) (o:Op) (so:SizO k o) (hk:10<k) (hk2:k<1000000) (h:z1W.f k o=some 0):OkO k o:=by
 have hsave:=h
 obtain ⟨e1,p1,p2⟩:=path_is k o.2.1 so.path hk hk2 so.names
 obtain ⟨b1,v1,v2⟩:=val_is k o.2.2.1 hk so.val hk2
 obtain ⟨b2,r1,r2⟩:=refs_is k o.2.2.2.2 (by omega) so.seen hk2
 have hsl:=so.seen
 rw [z1W.f_eq,z1M.f_eq,z1O.f_eq,p1,v1,r1] at h
 have bt:bnot true=false:=rfl
 have bf:bnot false=true:=rfl
 obtain ⟨K,P,V,A,S⟩:=o
 simp only at h p1 v1 r1 hsl
 by_cases h1:K<1
 ·rw [show ilt K 1=true from decide_eq_true h1,br_true] at h;cases h
 by_cases h5:5<K
 ·rw [show ilt K 1=false from decide_eq_false h1,show ilt 5 K=true from decide_eq_true h5,br_false,br_true] at h;cases h
 rw [show ilt K 1=false from decide_eq_false h1,show ilt 5 K=false from decide_eq_false h5,br_false,br_false,bnd_some] at h
 have he:e1=0:=by
  apply Classical.byContradiction
  intro hne
  rw [ieq_dec,decide_eq_false hne,bf,br_true] at h
  injection h with h;exact hne h
 subst he
 rw [show ieq (0:Int) 0=true from rfl,bt,br_false] at h
 have refsOK:b2=true→∀ u ∈ S,rightD u.1=true∧0≤u.2∧u.2<16:=by
  intro hb;subst hb
  rw [z2d.f_eq] at r1
  have:=refs_ok k S (by omega) (by omega) k 0 (by omega) (by omega) r1
  rwa [List.drop_zero] at this
 have seenOK:b2=true→ilt 256 (ilen S)=false→S.length≤256∧∀ u ∈ S,rightD u.1=true∧0≤u.2∧u.2<16:=by
  intro hb hl
  rw [show ilt 256 (ilen S)=decide (256<S.length) from ilt_lenR 256 S] at hl
  have:=of_decide_eq_false hl
  exact ⟨by omega,refsOK hb⟩
 have aOK:ieq A 0=true→A=0:=fun h=>by rw [ieq_dec] at h;exact of_decide_eq_true h
 have vOK:deq tValue V (0,(0,[]))=true→V=(0,(0,[])):=fun h=>by rw [deqVal] at h;exact of_decide_eq_true h
 clear p2 v2 r2 so hsl r1
 have hK:K=1∨K=2∨K=3∨K=4∨K=5:=by omega
 rcases hK with rfl | rfl | rfl | rfl | rfl
 ·simp only [show ieq (1:Int) 1=true from rfl,show ieq (1:Int) 2=false from rfl,show ieq (1:Int) 3=false from rfl,show ieq (1:Int) 4=false from rfl,show ieq (1:Int) 5=false from rfl,br_true,br_false,bt,bf,bnd_some] at h
  cases b1 with
  | false=>exact absurd h (by intro h;cases h)
  | true =>
  generalize hA:ieq A 0=qa at h
  cases qa with
  | false=>exact absurd h (by intro h;cases h)
  | true =>
  generalize hS:ilt 256 (ilen S)=qs at h
  cases qs with
  | true=>exact absurd h (by intro h;cases h)
  | false =>
  cases b2 with
  | false=>exact absurd h (by intro h;cases h)
  | true =>
  have a0:=aOK hA
  exact ⟨.inl rfl,hsave,p1,fun h=>(by rcases h with h | h <;> cases h),fun _=>v1,fun _=>a0,by show -2147483647≤A∧A≤2147483647;omega,fun h=>(by rcases h with h | h <;> cases h),seenOK rfl hS⟩
 ·simp only [show ieq (2:Int) 1=false from rfl,show ieq (2:Int) 2=true from rfl,show ieq (2:Int) 3=false from rfl,show ieq (2:Int) 4=false from rfl,show ieq (2:Int) 5=false from rfl,br_true,br_false,bt,bf,bnd_some] at h
  cases b1 with
  | false=>exact absurd h (by intro h;cases h)
  | true =>
  generalize hA:ieq A 0=qa at h
  cases qa with
  | false=>exact absurd h (by intro h;cases h)
  | true =>
  generalize hS:ilt 0 (ilen S)=qs at h
  cases qs with
  | true=>exact absurd h (by intro h;cases h)
  | false =>
  have a0:=aOK hA
  have s0:=nil_of hS
  exact ⟨.inr (.inl rfl),hsave,p1,fun h=>(by rcases h with h | h <;> cases h),fun _=>v1,fun _=>a0,by show -2147483647≤A∧A≤2147483647;omega,fun _=>s0,by show S.length≤256∧_;rw [s0];exact ⟨by simp,fun u hu=>by simp at hu⟩⟩
 ·simp only [show ieq (3:Int) 1=false from rfl,show ieq (3:Int) 2=false from rfl,show ieq (3:Int) 3=true from rfl,show ieq (3:Int) 4=false from rfl,show ieq (3:Int) 5=false from rfl,br_true,br_false,bt,bf,bnd_some] at h
  generalize hV:deq tValue V (0,(0,[]))=qv at h
  cases qv with
  | false=>exact absurd h (by intro h;cases h)
  | true =>
  generalize hA:ieq A 0=qa at h
  cases qa with
  | true=>exact absurd h (by intro h;cases h)
  | false =>
  generalize hA1:ile (-2147483647) A=q1 at h
  cases q1 with
  | false=>exact absurd h (by intro h;cases h)
  | true =>
  generalize hA2:ile A 2147483647=q2 at h
  cases q2 with
  | false=>exact absurd h (by intro h;cases h)
  | true =>
  generalize hS:ilt 0 (ilen S)=qs at h
  cases qs with
  | true=>exact absurd h (by intro h;cases h)
  | false =>
  have v0:=vOK hV
  have s0:=nil_of hS
  have a1:-2147483647≤A:=of_decide_eq_true hA1
  have a2:A≤2147483647:=of_decide_eq_true hA2
  exact ⟨.inr (.inr (.inl rfl)),hsave,p1,fun _=>v0,fun h=>(by rcases h with h | h | h <;> cases h),fun h=>absurd rfl h,⟨a1,a2⟩,fun _=>s0,by show S.length≤256∧_;rw [s0];exact ⟨by simp,fun u hu=>by simp at hu⟩⟩
 ·simp only [show ieq (4:Int) 1=false from rfl,show ieq (4:Int) 2=false from rfl,show ieq (4:Int) 3=false from rfl,show ieq (4:Int) 4=true from rfl,show ieq (4:Int) 5=false from rfl,br_true,br_false,bt,bf,bnd_some] at h
  cases b1 with
  | false=>exact absurd h (by intro h;cases h)
  | true =>
  generalize hA:ieq A 0=qa at h
  cases qa with
  | false=>exact absurd h (by intro h;cases h)
  | true =>
  generalize hS:ilt 256 (ilen S)=qs at h
  cases qs with
  | true=>exact absurd h (by intro h;cases h)
  | false =>
  cases b2 with
  | false=>exact absurd h (by intro h;cases h)
  | true =>
  have a0:=aOK hA
  exact ⟨.inr (.inr (.inr (.inl rfl))),hsave,p1,fun h=>(by rcases h with h | h <;> cases h),fun _=>v1,fun _=>a0,by show -2147483647≤A∧A≤2147483647;omega,fun h=>(by rcases h with h | h <;> cases h),seenOK rfl hS⟩
 ·simp only [show ieq (5:Int) 1=false from rfl,show ieq (5:Int) 2=false from rfl,show ieq (5:Int) 3=false from rfl,show ieq (5:Int) 4=false from rfl,show ieq (5:Int) 5=true from rfl,br_true,br_false,bt,bf,bnd_some] at h
  generalize hV:deq tValue V (0,(0,[]))=qv at h
  cases qv with
  | false=>exact absurd h (by intro h;cases h)
  | true =>
  generalize hA:ieq A 0=qa at h
  cases qa with
  | false=>exact absurd h (by intro h;cases h)
  | true =>
  generalize hS:ilt 256 (ilen S)=qs at h
  cases qs with
  | true=>exact absurd h (by intro h;cases h)
  | false =>
  cases b2 with
  | false=>exact absurd h (by intro h;cases h)
  | true =>
  have a0:=aOK hA
  have v0:=vOK hV
  exact ⟨.inr (.inr (.inr (.inr rfl))),hsave,p1,fun _=>v0,fun h=>(by rcases h with h | h | h <;> cases h),fun _=>a0,by show -2147483647≤A∧A≤2147483647;omega,fun h=>(by rcases h with h | h <;> cases h),seenOK rfl hS⟩
def goneO:Op:=(0,([],((0,(0,[])),(0,[]))))
theorem gone_val {k:Nat} {o:Op} (h:z2e.f k o=some true):o=goneO:=by
 rw [z2e.f_eq,ieq_dec,ieq0,deqVal,ieq_dec,ieq0] at h
 obtain ⟨K,P,V,A,S⟩:=o
 simp only at h
 by_cases h1:K=0
 case neg=>rw [decide_eq_false h1,br_false] at h;cases h
 rw [decide_eq_true h1,br_true] at h
 by_cases h2:P.length=0
 case neg=>rw [decide_eq_false h2,br_false] at h;cases h
 rw [decide_eq_true h2,br_true] at h
 by_cases h3:V=(0,(0,[]))
 case neg=>rw [decide_eq_false h3,br_false] at h;cases h
 rw [decide_eq_true h3,br_true] at h
 by_cases h4:A=0
 case neg=>rw [decide_eq_false h4,br_false] at h;cases h
 rw [decide_eq_true h4,br_true] at h
 injection h with h
 have h5:=of_decide_eq_true h
 rw [h1,List.eq_nil_of_length_eq_zero h2,h3,h4,List.eq_nil_of_length_eq_zero h5];rfl
def codeTl (o:Op):List UInt8 :=
 if o.1=3 then packB (foldN o.2.2.2.1) else if o.1=2 then codeVal o.2.2.1 else if o.1=5 then codeT o.2.2.2.2 else codeVal o.2.2.1++codeT o.2.2.2.2
def codeO (o:Op):List UInt8:=if o.1=0 then packB 0 else packB o.1.toNat++(codeP o.2.1++codeTl o)
theorem codeR_le {u:Undo} (h:rightD u.1=true∧0≤u.2∧u.2<16):(codeU u).length≤24:=by
 have:=codeD_le h.1
 have:=packB_le (n:=u.2.toNat) (by omega)
 unfold codeU;rw [List.length_append];omega
theorem codeRs_le {l:List Undo} (h:∀ u ∈ l,rightD u.1=true∧0≤u.2∧u.2<16) (hl:l.length≤256):(codeT l).length≤6152:=by
 have hp:=packB_le (n:=l.length) (by omega)
 have:=codes_le codeU 24 l (fun d hd=>codeR_le (h d hd))
 unfold codeT;rw [List.length_append];omega
theorem codeTl_le {k:Nat} {o:Op} (h:OkO k o) (hs:ShortO o):(codeTl o).length≤6400:=by
 obtain ⟨a,b⟩:=h.amt3
 have h1:=packB_le (foldN_le a b)
 have h2:=codeRs_le h.seen.2 h.seen.1
 have hv:=hs.val
 unfold codeTl
 by_cases c3:o.1=3
 ·rw [if_pos c3];omega
 rw [if_neg c3]
 by_cases c2:o.1=2
 ·have:=codeVal_le (val_ok k _ (h.valr (.inr (.inl c2)))) hv
  rw [if_pos c2];omega
 rw [if_neg c2]
 by_cases c5:o.1=5
 ·rw [if_pos c5];omega
 rw [if_neg c5,List.length_append]
 have:=codeVal_le (val_ok k _ (h.valr (by have:=h.kind;omega))) hv
 omega
theorem codeO_le {k:Nat} {o:Op} (h:o=goneO∨OkO k o) (hs:ShortO o):(codeO o).length≤8000:=by
 unfold codeO
 rcases h with rfl | h
 ·rw [if_pos (by rfl)];have:=packB_le (n:=0) (by omega);omega
 ·have h1:=codeTl_le h hs
  have h2:=codeP_le hs.path
  have h3:=packB_le (n:=o.1.toNat) (by have:=h.kind;omega)
  rw [if_neg (by have:=h.kind;omega),List.length_append,List.length_append];omega
theorem codeO_pos (o:Op):0<(codeO o).length:=by
 unfold codeO
 split
 ·exact packB_pos 0
 ·rw [List.length_append];have:=packB_pos o.1.toNat;omega
theorem rcode_l (k:Nat) (l:List Undo) (hr:∀ u ∈ l,rightD u.1=true∧0≤u.2∧u.2<16) (hl:l.length<1000000):∀ (n i:Nat) (x:List UInt8),i≤l.length→l.length<n+i→x.length≤10000+24 * i→z28.l16 k n x l (ilen l) (i:Int)=some (x++(l.drop i).flatMap codeU)
 | 0,i,_,h,h',_=>by omega
 | n+1,i,x,h,h',hx=>by
  rw [z28.l16_eq,ilt_nat,inL_nat,natOf_nat]
  by_cases hi:i<l.length
  ·have hd:=hr l[i] (List.getElem_mem hi)
   have hp:=codeR_le hd
   obtain ⟨hd1,hd2,hd3⟩:=hd
   have hp1:=codeD_le hd1
   have hp2:=packB_le (n:=l[i].2.toNat) (by omega)
   have e4:iadd .i64 (i:Int) 1=((i+1:Nat):Int):=iadd_nat (by omega)
   have ed:l.drop i=l[i]::l.drop (i+1):=List.drop_eq_getElem_cons hi
   rw [decide_eq_true hi,rd_at' (e:=tUndo) hi,dcode_is k hd1,packI_is (n:=l[i].2) (by omega),e4,ed,List.flatMap_cons]
   simp only [br_true,bnd_some]
   rw [roomS_ok (by omega) (by omega),br_true]
   have ea:app (codeD l[i].1) (packB l[i].2.toNat)=codeU l[i]:=rfl
   rw [ea,roomS_ok (by omega) (by omega),br_true]
   refine (rcode_l k l hr hl n (i+1) _ (by omega) (by omega) (by unfold app;rw [List.length_append];omega)).trans ?_
   unfold app;rw [List.append_assoc]
  ·have e0:l.drop i=[]:=List.drop_eq_nil_of_le (by omega)
   rw [decide_eq_false hi,br_false,e0];simp
theorem rcode_is (k:Nat) (x:List UInt8) {l:List Undo} (hr:∀ u ∈ l,rightD u.1=true∧0≤u.2∧u.2<16) (hl:l.length≤256) (hx:x.length≤9000) (hk:5000<k) (hk2:k<1000000) :
  (bnd (packI (ilen l)) fun r6=>br (roomS x r6) (z28.l16 k k (app x r6) l (ilen l) 0) none)=some (x++codeT l):=by
 have e:(ilen l).toNat=l.length:=rfl
 have hp:=packB_le (n:=l.length) (by omega)
 rw [packI_is (n:=ilen l) (by unfold ilen;omega),e,bnd_some,roomS_ok (by omega) (by omega),br_true]
 refine (rcode_l k l hr (by omega) k 0 _ (by omega) (by omega) (by unfold app;rw [List.length_append];omega)).trans ?_
 rw [List.drop_zero];unfold app codeT;rw [List.append_assoc]
end Go.Proofs.YtggcagclpkhlhaaGreatDoor
end
noncomputable section
/- What is told of operations is read again: kind by kind. -/
namespace Go.Proofs.YtggcagclpkhlhaaGreatDoor
open Pal
theorem pI (n:Nat) (h:n<100):packI (n:Int)=some (packB n):=by rw [packI_is (n:=(n:Int)) (by omega),Int.toNat_natCast]
theorem ocode_0 (k:Nat):z28.f k goneO=some (packB 0):=by
 have h0:packI 0=some (packB 0):=pI 0 (by decide)
 have e0:ieq (ilen ([]:List Undo)) 0=true:=rfl
 have e1:ieq (ilen ([]:List Str)) 0=true:=rfl
 have e2:deq tValue ((0,(0,[])):Val) (0,(0,[]))=true:=by rw [deqVal];exact decide_eq_true rfl
 rw [z28.f_eq,z2e.f_eq]
 unfold goneO
 simp only [h0,bnd_some,show ieq (0:Int) 0=true from rfl,e0,e1,e2,br_true]
section
variable (k:Nat) (hk:5000<k) (hk2:k<1000000) (P:List Str) (V:Val) (A:Int) (S:List Undo) (hP:ShortP P) (hv:V.2.2.length≤200)
include hk hk2 hP
theorem rooms (n:Nat) (hn:n<100):roomS (packB n) (codeP P)=true∧(app (packB n) (codeP P)).length≤2000:=by
 have h1:=packB_le (n:=n) (by omega)
 have h2:=codeP_le hP
 exact ⟨roomS_ok (by omega) (by omega),by unfold app;rw [List.length_append];omega⟩
theorem ocode_3 (h1:-2147483647≤A) (h2:A≤2147483647):z28.f k (3,(P,(V,(A,S))))=some (packB 3++(codeP P++packB (foldN A))):=by
 have h0:packI 3=some (packB 3):=pI 3 (by decide)
 have hb:=foldN_le h1 h2
 have hpl:=packB_le hb
 have hf:packI ((foldN A:Nat):Int)=some (packB (foldN A)):=by rw [packI_is (n:=((foldN A:Nat):Int)) (by omega),Int.toNat_natCast]
 obtain ⟨r1,r2⟩:=rooms k hk hk2 P hP 3 (by decide)
 have r3:roomS (app (packB 3) (codeP P)) (packB (foldN A))=true:=roomS_ok (by omega) (by omega)
 rw [z28.f_eq,z2e.f_eq]
 simp only [h0,bnd_some,show ieq (3:Int) 0=false from rfl,show ieq (3:Int) 3=true from rfl,br_true,br_false,pcode_is k hP (by omega) hk2,r1,fold_is k A h1 h2,hf,r3]
 unfold app;rw [List.append_assoc]
include hv
theorem ocode_1 (hV:ValOK V) (hs:S.length≤256∧∀ u ∈ S,rightD u.1=true∧0≤u.2∧u.2<16):z28.f k (1,(P,(V,(A,S))))=some (packB 1++(codeP P++(codeVal V++codeT S))):=by
 have h0:packI 1=some (packB 1):=pI 1 (by decide)
 have hvl:=codeVal_le hV hv
 obtain ⟨r1,r2⟩:=rooms k hk hk2 P hP 1 (by decide)
 have r3:roomS (app (packB 1) (codeP P)) (codeVal V)=true:=roomS_ok (by omega) (by omega)
 rw [z28.f_eq,z2e.f_eq]
 simp only [h0,bnd_some,show ieq (1:Int) 0=false from rfl,show ieq (1:Int) 1=true from rfl,show ieq (1:Int) 2=false from rfl,show ieq (1:Int) 3=false from rfl,br_true,br_false,pcode_is k hP (by omega) hk2,r1,vacode_is k hV hv,r3]
 refine (rcode_is k _ hs.2 hs.1 (by unfold app at r2 ⊢;rw [List.length_append];omega) hk hk2).trans ?_
 unfold app;simp only [List.append_assoc]
theorem ocode_4 (hV:ValOK V) (hs:S.length≤256∧∀ u ∈ S,rightD u.1=true∧0≤u.2∧u.2<16):z28.f k (4,(P,(V,(A,S))))=some (packB 4++(codeP P++(codeVal V++codeT S))):=by
 have h0:packI 4=some (packB 4):=pI 4 (by decide)
 have hvl:=codeVal_le hV hv
 obtain ⟨r1,r2⟩:=rooms k hk hk2 P hP 4 (by decide)
 have r3:roomS (app (packB 4) (codeP P)) (codeVal V)=true:=roomS_ok (by omega) (by omega)
 rw [z28.f_eq,z2e.f_eq]
 simp only [h0,bnd_some,show ieq (4:Int) 0=false from rfl,show ieq (4:Int) 1=false from rfl,show ieq (4:Int) 2=false from rfl,show ieq (4:Int) 3=false from rfl,show ieq (4:Int) 4=true from rfl,br_true,br_false,pcode_is k hP (by omega) hk2,r1,vacode_is k hV hv,r3]
 refine (rcode_is k _ hs.2 hs.1 (by unfold app at r2 ⊢;rw [List.length_append];omega) hk hk2).trans ?_
 unfold app;simp only [List.append_assoc]
theorem ocode_2 (hV:ValOK V):z28.f k (2,(P,(V,(A,S))))=some (packB 2++(codeP P++codeVal V)):=by
 have h0:packI 2=some (packB 2):=pI 2 (by decide)
 have hvl:=codeVal_le hV hv
 obtain ⟨r1,r2⟩:=rooms k hk hk2 P hP 2 (by decide)
 have r3:roomS (app (packB 2) (codeP P)) (codeVal V)=true:=roomS_ok (by omega) (by omega)
 rw [z28.f_eq,z2e.f_eq]
 simp only [h0,bnd_some,show ieq (2:Int) 0=false from rfl,show ieq (2:Int) 1=false from rfl,show ieq (2:Int) 2=true from rfl,show ieq (2:Int) 3=false from rfl,br_true,br_false,pcode_is k hP (by omega) hk2,r1,vacode_is k hV hv,r3]
 unfold app;rw [List.append_assoc]
omit hv in
theorem ocode_5 (hs:S.length≤256∧∀ u ∈ S,rightD u.1=true∧0≤u.2∧u.2<16):z28.f k (5,(P,(V,(A,S))))=some (packB 5++(codeP P++codeT S)):=by
 have h0:packI 5=some (packB 5):=pI 5 (by decide)
 obtain ⟨r1,r2⟩:=rooms k hk hk2 P hP 5 (by decide)
 rw [z28.f_eq,z2e.f_eq]
 simp only [h0,bnd_some,show ieq (5:Int) 0=false from rfl,show ieq (5:Int) 1=false from rfl,show ieq (5:Int) 2=false from rfl,show ieq (5:Int) 3=false from rfl,show ieq (5:Int) 4=false from rfl,br_true,br_false,pcode_is k hP (by omega) hk2,r1]
 refine (rcode_is k _ hs.2 hs.1 (by omega) hk hk2).trans ?_
 unfold app;simp only [List.append_assoc]
end
theorem ocode_is (k:Nat) {o:Op} (h:o=goneO∨OkO k o) (hs:ShortO o) (hk:5000<k) (hk2:k<1000000):z28.f k o=some (codeO o):=by
 rcases h with rfl | h
 ·rw [ocode_0];rfl
 ·have hK:=h.kind
  have hvr:=h.valr;have hse:=h.seen;have hv:=hs.val;have hP:=hs.path;have ha:=h.amt3
  clear h hs
  obtain ⟨K,P,V,A,S⟩:=o
  simp only at hK hvr hse hv hP ha
  rcases hK with rfl | rfl | rfl | rfl | rfl
  ·exact ocode_1 k hk hk2 P V A S hP hv (val_ok k V (hvr (.inl rfl))) hse
  ·exact ocode_2 k hk hk2 P V A S hP hv (val_ok k V (hvr (.inr (.inl rfl))))
  ·exact ocode_3 k hk hk2 P V A S hP ha.1 ha.2
  ·exact ocode_4 k hk hk2 P V A S hP hv (val_ok k V (hvr (.inr (.inr rfl)))) hse
  ·exact ocode_5 k hk hk2 P V A S hP hse
theorem back_s3 (k:Nat) (h12:12<k) (N:Nat) (hN:N<1000000) (t:List UInt8):∀ (n i:Nat) (x l:List Undo),i+l.length=N→N<n+i→x.length=i→(∀ u ∈ l,rightD u.1=true∧0≤u.2∧u.2<16)→(l.flatMap codeU++t).length<4000000 →
  z2b.l3 k n x (N:Int) (i:Int) (l.flatMap codeU++t,0)=some (x++l,(t,0))
 | 0,i,_,_,h,h',_,_,_=>by omega
 | n+1,i,x,[],h,_,hx,_,_=>by
  have hi:N=i:=by simpa using h.symm
  subst hi
  rw [z2b.l3_eq,ilt_nn,decide_eq_false (Nat.lt_irrefl _)]
  simp only [br_false,List.append_nil,List.flatMap_nil,List.nil_append]
 | n+1,i,x,d::l,h,h',hx,hr,hS=>by
  simp only [List.length_cons] at h
  obtain ⟨hd1,hd2,hd3⟩:=hr d (by simp)
  have e4:iadd .i64 (i:Int) 1=((i+1:Nat):Int):=iadd_nat (by omega)
  have ea:(d::l).flatMap codeU++t=codeD d.1++(packB d.2.toNat++(l.flatMap codeU++t)):=by rw [List.flatMap_cons,codeU,List.append_assoc,List.append_assoc]
  rw [ea] at hS ⊢
  have hS2:(packB d.2.toNat++(l.flatMap codeU++t)).length<4000000:=by rw [List.length_append] at hS;omega
  have hS3:(l.flatMap codeU++t).length<4000000:=by rw [List.length_append] at hS2;omega
  rw [z2b.l3_eq,ilt_nn,decide_eq_true (show i<N by omega),back_dot k d.1 _ hd1 h12 hS,e4]
  simp only [br_true,bnd_some]
  rw [back_int k d.2.toNat _ h12 (by omega) hS2]
  simp only [bnd_some]
  rw [room1 (show x.length<4000000 by omega),br_true,Int.toNat_of_nonneg (by omega)]
  have:=back_s3 k h12 N hN t n (i+1) (app x (d::[])) l (by omega) (by omega) (by simp [app,hx]) (fun e he=>hr e (List.mem_cons_of_mem _ he)) hS3
  refine this.trans ?_
  simp [app]
theorem back_seen (k:Nat) (l:List Undo) (t:List UInt8) (hr:l.length≤256∧∀ u ∈ l,rightD u.1=true∧0≤u.2∧u.2<16) (hk:5000<k) (hk2:k<1000000) (hS:(codeT l++t).length<4000000) :
  z2b.f k (codeT l++t,0)=some (l,(t,0)):=by
 have hr1:=hr.1
 have ea:codeT l++t=packB l.length++(l.flatMap codeU++t):=by unfold codeT;rw [List.append_assoc]
 rw [ea] at hS ⊢
 have hS2:(l.flatMap codeU++t).length<4000000:=by rw [List.length_append] at hS;omega
 have hlen:=codes_len codeU codeU_pos l
 rw [z2b.f_eq,back_many k _ 256 _ (by omega) (by omega) (by omega) (by rw [List.length_append];omega) hS]
 simp only [bnd_some]
 exact back_s3 k (by omega) l.length (by omega) t k 0 [] l (by omega) (by omega) rfl hr.2 hS2
theorem oback_0 (k:Nat) (t:List UInt8) (hk:12<k) (hS:(packB 0++t).length<4000000):z2c.f k (packB 0++t,0)=some (goneO,(t,0)):=by
 have hb:z0m.f k (packB 0++t,0)=some (0,(t,0)):=back_int k 0 _ hk (by decide) hS
 rw [z2c.f_eq,hb,bnd_some,show ieq (0:Int) 0=true from rfl,br_true];rfl
section
variable (k:Nat) (P:List Str) (V:Val) (S:List Undo) (t X1 X2:List UInt8)
theorem oback_1 (hb:z0m.f k (X1,0)=some (1,(X2,0))) (X3 X4:List UInt8) (hp:z1B.f k (X2,0)=some (P,(X3,0))) (hv:z1A.f k (X3,0)=some (V,(X4,0))) (hs:z2b.f k (X4,0)=some (S,(t,0))) (hc:z1W.f k (1,(P,(V,(0,S))))=some 0) :
  z2c.f k (X1,0)=some ((1,(P,(V,(0,S)))),(t,0)):=by
 have bt:bnot true=false:=rfl
 rw [z2c.f_eq,hb,bnd_some,show ieq (1:Int) 0=false from rfl,br_false,hp,bnd_some,show ieq (1:Int) 3=false from rfl,br_false,show ieq (1:Int) 1=true from rfl,br_true,br_true,hv,bnd_some,hs,bnd_some]
 simp only [fault_is,bnd_some,show ieq (0:Int) 0=true from rfl,br_true,hc,fail_is,if_true,bt,br_false]
theorem oback_4 (hb:z0m.f k (X1,0)=some (4,(X2,0))) (X3 X4:List UInt8) (hp:z1B.f k (X2,0)=some (P,(X3,0))) (hv:z1A.f k (X3,0)=some (V,(X4,0))) (hs:z2b.f k (X4,0)=some (S,(t,0))) (hc:z1W.f k (4,(P,(V,(0,S))))=some 0) :
  z2c.f k (X1,0)=some ((4,(P,(V,(0,S)))),(t,0)):=by
 have bt:bnot true=false:=rfl
 rw [z2c.f_eq,hb,bnd_some,show ieq (4:Int) 0=false from rfl,br_false,hp,bnd_some,show ieq (4:Int) 3=false from rfl,br_false,show ieq (4:Int) 1=false from rfl,br_false,show ieq (4:Int) 4=true from rfl,br_true,hv,bnd_some,hs,bnd_some]
 simp only [fault_is,bnd_some,show ieq (0:Int) 0=true from rfl,br_true,hc,fail_is,if_true,bt,br_false]
theorem oback_2 (hb:z0m.f k (X1,0)=some (2,(X2,0))) (X3:List UInt8) (hp:z1B.f k (X2,0)=some (P,(X3,0))) (hv:z1A.f k (X3,0)=some (V,(t,0))) (hc:z1W.f k (2,(P,(V,(0,[]))))=some 0) :
  z2c.f k (X1,0)=some ((2,(P,(V,(0,[])))),(t,0)):=by
 have bt:bnot true=false:=rfl
 rw [z2c.f_eq,hb,bnd_some,show ieq (2:Int) 0=false from rfl,br_false,hp,bnd_some,show ieq (2:Int) 3=false from rfl,br_false,show ieq (2:Int) 1=false from rfl,br_false,show ieq (2:Int) 4=false from rfl,br_false,show ieq (2:Int) 2=true from rfl,br_true,hv,bnd_some]
 simp only [fault_is,bnd_some,show ieq (0:Int) 0=true from rfl,br_true,hc,fail_is,if_true,bt,br_false]
theorem oback_3 (A m:Int) (hb:z0m.f k (X1,0)=some (3,(X2,0))) (X3:List UInt8) (hp:z1B.f k (X2,0)=some (P,(X3,0))) (hv:z0m.f k (X3,0)=some (m,(t,0))) (hu:z0C.f k m=some A) (hc:z1W.f k (3,(P,((0,(0,[])),(A,[]))))=some 0) :
  z2c.f k (X1,0)=some ((3,(P,((0,(0,[])),(A,[])))),(t,0)):=by
 have bt:bnot true=false:=rfl
 rw [z2c.f_eq,hb,bnd_some,show ieq (3:Int) 0=false from rfl,br_false,hp,bnd_some,show ieq (3:Int) 3=true from rfl,br_true,hv,bnd_some,hu,bnd_some]
 simp only [fault_is,bnd_some,show ieq (0:Int) 0=true from rfl,br_true,hc,fail_is,if_true,bt,br_false]
theorem oback_5 (hb:z0m.f k (X1,0)=some (5,(X2,0))) (X3:List UInt8) (hp:z1B.f k (X2,0)=some (P,(X3,0))) (hs:z2b.f k (X3,0)=some (S,(t,0))) (hc:z1W.f k (5,(P,((0,(0,[])),(0,S))))=some 0) :
  z2c.f k (X1,0)=some ((5,(P,((0,(0,[])),(0,S)))),(t,0)):=by
 have bt:bnot true=false:=rfl
 rw [z2c.f_eq,hb,bnd_some,show ieq (5:Int) 0=false from rfl,br_false,hp,bnd_some,show ieq (5:Int) 3=false from rfl,br_false,show ieq (5:Int) 1=false from rfl,br_false,show ieq (5:Int) 4=false from rfl,br_false,show ieq (5:Int) 2=false from rfl,br_false,show ieq (5:Int) 5=true from rfl,br_true,hs,bnd_some]
 simp only [fault_is,bnd_some,show ieq (0:Int) 0=true from rfl,br_true,hc,fail_is,if_true,bt,br_false]
end
theorem back_op (k:Nat) {o:Op} (t:List UInt8) (h:o=goneO∨OkO k o) (hk:5000<k) (hk2:k<1000000) (hS:(codeO o++t).length<4000000):z2c.f k (codeO o++t,0)=some (o,(t,0)):=by
 rcases h with rfl | h
 ·exact oback_0 k t (by omega) hS
 ·have hK:=h.kind;have hvr:=h.valr;have hv0:=h.val0;have hse:=h.seen;have hp:=h.path;have ha:=h.amt3;have ha0:=h.amt0;have hs0:=h.seen0;have hc:=h.chk
  clear h
  obtain ⟨K,P,V,A,S⟩:=o
  simp only at hK hvr hv0 hse hp ha ha0 hs0 hc
  have pl:=path_len k P hp
  have i (n:Nat) (X:List UInt8) (hn:n<100) (hS:(packB n++X).length<4000000):=back_int k n X (by omega) (by omega) hS
  rcases hK with rfl | rfl | rfl | rfl | rfl
  ·have ea:codeO (1,(P,(V,(A,S))))++t=packB 1++(codeP P++(codeVal V++(codeT S++t))):=by
    show (packB 1++(codeP P++(codeVal V++codeT S)))++t=_
    simp only [List.append_assoc]
   have hA:A=0:=ha0 (by decide)
   subst hA
   rw [ea] at hS ⊢
   have s2:(codeP P++(codeVal V++(codeT S++t))).length<4000000:=by rw [List.length_append] at hS;omega
   have s3:(codeVal V++(codeT S++t)).length<4000000:=by rw [List.length_append] at s2;omega
   have s4:(codeT S++t).length<4000000:=by rw [List.length_append] at s3;omega
   exact oback_1 k P V S t _ _ (i 1 _ (by decide) hS) _ _ (back_path k P _ hp pl (by omega) hk2 s2) (back_val k _ (hvr (.inl rfl)) (by omega) s3) (back_seen k S t hse hk hk2 s4) hc
  ·have hA:A=0:=ha0 (by decide)
   have hS0:S=[]:=hs0 (.inl rfl)
   subst hA;subst hS0
   have ea:codeO (2,(P,(V,(0,[]))))++t=packB 2++(codeP P++(codeVal V++t)):=by
    show (packB 2++(codeP P++codeVal V))++t=_
    simp only [List.append_assoc]
   rw [ea] at hS ⊢
   have s2:(codeP P++(codeVal V++t)).length<4000000:=by rw [List.length_append] at hS;omega
   have s3:(codeVal V++t).length<4000000:=by rw [List.length_append] at s2;omega
   exact oback_2 k P V t _ _ (i 2 _ (by decide) hS) _ (back_path k P _ hp pl (by omega) hk2 s2) (back_val k _ (hvr (.inr (.inl rfl))) (by omega) s3) hc
  ·have hV:V=(0,(0,[])):=hv0 (.inl rfl)
   have hS0:S=[]:=hs0 (.inr rfl)
   subst hV;subst hS0
   have ea:codeO (3,(P,((0,(0,[])),(A,[]))))++t=packB 3++(codeP P++(packB (foldN A)++t)):=by
    show (packB 3++(codeP P++packB (foldN A)))++t=_
    simp only [List.append_assoc]
   rw [ea] at hS ⊢
   have s2:(codeP P++(packB (foldN A)++t)).length<4000000:=by rw [List.length_append] at hS;omega
   have s3:(packB (foldN A)++t).length<4000000:=by rw [List.length_append] at s2;omega
   have hb:=foldN_le ha.1 ha.2
   obtain ⟨u1,_⟩:=unfold_is k (foldN A) hb
   rw [unf_fold _ ha.1 ha.2] at u1
   exact oback_3 k P t _ _ A _ (i 3 _ (by decide) hS) _ (back_path k P _ hp pl (by omega) hk2 s2) (back_int k _ _ (by omega) hb s3) u1 hc
  ·have ea:codeO (4,(P,(V,(A,S))))++t=packB 4++(codeP P++(codeVal V++(codeT S++t))):=by
    show (packB 4++(codeP P++(codeVal V++codeT S)))++t=_
    simp only [List.append_assoc]
   have hA:A=0:=ha0 (by decide)
   subst hA
   rw [ea] at hS ⊢
   have s2:(codeP P++(codeVal V++(codeT S++t))).length<4000000:=by rw [List.length_append] at hS;omega
   have s3:(codeVal V++(codeT S++t)).length<4000000:=by rw [List.length_append] at s2;omega
   have s4:(codeT S++t).length<4000000:=by rw [List.length_append] at s3;omega
   exact oback_4 k P V S t _ _ (i 4 _ (by decide) hS) _ _ (back_path k P _ hp pl (by omega) hk2 s2) (back_val k _ (hvr (.inr (.inr rfl))) (by omega) s3) (back_seen k S t hse hk hk2 s4) hc
  ·have ea:codeO (5,(P,(V,(A,S))))++t=packB 5++(codeP P++(codeT S++t)):=by
    show (packB 5++(codeP P++codeT S))++t=_
    simp only [List.append_assoc]
   have hA:A=0:=ha0 (by decide)
   have hV:V=(0,(0,[])):=hv0 (.inr rfl)
   subst hA;subst hV
   rw [ea] at hS ⊢
   have s2:(codeP P++(codeT S++t)).length<4000000:=by rw [List.length_append] at hS;omega
   have s4:(codeT S++t).length<4000000:=by rw [List.length_append] at s2;omega
   exact oback_5 k P S t _ _ (i 5 _ (by decide) hS) _ (back_path k P _ hp pl (by omega) hk2 s2) (back_seen k S t hse hk hk2 s4) hc
end Go.Proofs.YtggcagclpkhlhaaGreatDoor
end
noncomputable section
/- What is told of transactions and lists of them is read again. -/
namespace Go.Proofs.YtggcagclpkhlhaaGreatDoor
open Pal
theorem ShortO.siz {o:Op} (h:ShortO o) {k:Nat} (hk:1000<k):SizO k o:=by
 have h1:=h.path.1;have h3:=h.val;have h4:=h.seen
 exact ⟨fun s hs=>by have:=h.path.2 s hs;omega,by omega,by omega,by omega⟩
theorem ShortT.siz {t:Txn} (h:ShortT t) {k:Nat} (hk:1000<k):SizT k t:=⟨by have:=h.len;omega,fun o ho=>(h.ops o ho).siz hk⟩
theorem txnck_l (k:Nat) (t:Txn) (ho:∀ o ∈ t.2.2.2.2,SizO k o) (hl:t.2.2.2.2.length<1000000) (hk:10<k) (hk2:k<1000000):∀ (n i:Nat),i≤t.2.2.2.2.length→t.2.2.2.2.length<n+i →
  z1L.l10 k n t.2.2.2.2 (ilen t.2.2.2.2) (i:Int) t=some 0→∀ o ∈ t.2.2.2.2.drop i,o=goneO∨OkO k o
 | 0,i,_,h,_=>by omega
 | n+1,i,h,h',hc=>by
  rw [z1L.l10_eq,ilt_nat,inL_nat,natOf_nat] at hc
  by_cases hi:i<t.2.2.2.2.length
  ·have so:=ho _ (List.getElem_mem hi)
   obtain ⟨e,p1,p2⟩:=op_is k t.2.2.2.2[i] so.path so.names so.val so.seen hk hk2
   obtain ⟨g,q1,q2⟩:=gone_tot k t.2.2.2.2[i]
   rw [decide_eq_true hi,rd_at' (e:=tOp) hi,p1,q1,iadd_nat (by omega)] at hc
   simp only [br_true,bnd_some] at hc
   have bt:bnot true=false:=rfl
   have bf:bnot false=true:=rfl
   have key:(t.2.2.2.2[i]=goneO∨OkO k t.2.2.2.2[i])∧z1L.l10 k n t.2.2.2.2 (ilen t.2.2.2.2) ((i+1:Nat):Int) t=some 0:=by
    have chk:br (bnot (ieq e 0)) (some e) (z1L.l10 k n t.2.2.2.2 (ilen t.2.2.2.2) ((i+1:Nat):Int) t)=some 0→(t.2.2.2.2[i]=goneO∨OkO k t.2.2.2.2[i])∧z1L.l10 k n t.2.2.2.2 (ilen t.2.2.2.2) ((i+1:Nat):Int) t=some 0:=by
     intro hh
     rw [ieq_dec] at hh
     by_cases he:e=0
     ·rw [decide_eq_true he,bt,br_false] at hh
      exact ⟨.inr (op_ok k _ so hk hk2 (by rw [p1,he])),hh⟩
     ·rw [decide_eq_false he,bf,br_true] at hh
      injection hh with hh;exact absurd hh he
    generalize hth:t.2.2.2.1=th at hc
    cases th with
    | true =>
     rw [br_true] at hc
     cases g with
     | true=>rw [br_true] at hc;exact ⟨.inl (gone_val q1),hc⟩
     | false=>rw [br_false] at hc;exact chk hc
    | false=>rw [br_false] at hc;exact chk hc
   intro o ho'
   rw [List.drop_eq_getElem_cons hi] at ho'
   rcases List.mem_cons.1 ho' with rfl | ho'
   ·exact key.1
   ·exact txnck_l k t ho hl hk hk2 n (i+1) (by omega) (by omega) key.2 o ho'
  ·rw [List.drop_eq_nil_of_le (by omega)]
   intro o ho';simp at ho'
structure OkT (k:Nat) (t:Txn):Prop where
 chk:z1L.f k t=some 0
 dot:rightD t.1=true
 user:0≤t.2.1∧t.2.1<8
 time:1≤t.2.2.1∧t.2.2.1≤1099511627776
 ops:t.2.2.2.2.length≤16
 each:∀ o ∈ t.2.2.2.2,o=goneO∨OkO k o
theorem txn_ok (k:Nat) (t:Txn) (st:SizT k t) (hk:10<k) (hk2:k<1000000) (h:z1L.f k t=some 0):OkT k t:=by
 have hsave:=h
 have hl:=st.ops
 have bt:bnot true=false:=rfl
 have bf:bnot false=true:=rfl
 rw [z1L.f_eq,right_is,bnd_some] at h
 cases hr:rightD t.1 with
 | false=>rw [hr,bf,br_true,br_true] at h;cases h
 | true =>
 rw [hr,bt,br_false,show ilt t.2.1 0=decide (t.2.1<0) from rfl,show ile 8 t.2.1=decide (8≤t.2.1) from rfl] at h
 by_cases h1:t.2.1<0
 ·rw [decide_eq_true h1,br_true] at h;cases h
 rw [decide_eq_false h1,br_false] at h
 by_cases h2:8≤t.2.1
 ·rw [decide_eq_true h2,br_true,br_true] at h;cases h
 rw [decide_eq_false h2,br_false,show ilt t.2.2.1 1=decide (t.2.2.1<1) from rfl,show ilt 1099511627776 t.2.2.1=decide (1099511627776<t.2.2.1) from rfl] at h
 by_cases h3:t.2.2.1<1
 ·rw [decide_eq_true h3,br_true] at h;cases h
 rw [decide_eq_false h3,br_false] at h
 by_cases h4:1099511627776<t.2.2.1
 ·rw [decide_eq_true h4,br_true] at h;cases h
 rw [decide_eq_false h4,br_false] at h
 generalize h5:ieq (ilen t.2.2.2.2) 0=q5 at h
 cases q5 with
 | true=>rw [br_true] at h;cases h
 | false =>
 rw [br_false,show ilt 16 (ilen t.2.2.2.2)=decide (16<t.2.2.2.2.length) from ilt_lenR 16 _] at h
 by_cases h6:16<t.2.2.2.2.length
 ·rw [decide_eq_true h6,br_true] at h;cases h
 rw [decide_eq_false h6,br_false] at h
 have:=txnck_l k t st.each (by omega) hk hk2 k 0 (by omega) (by omega) h
 rw [List.drop_zero] at this
 exact ⟨hsave,hr,by omega,by omega,by omega,this⟩
def thinN (b:Bool):Nat:=match b with | true=>1 | false=>0
def codeTx (t:Txn):List UInt8:=codeD t.1++(packB t.2.1.toNat++(packB t.2.2.1.toNat++(packB (thinN t.2.2.2.1)++(packB t.2.2.2.2.length++t.2.2.2.2.flatMap codeO))))
theorem codeTx_le {k:Nat} {t:Txn} (h:OkT k t) (hs:ShortT t):(codeTx t).length≤130000:=by
 have h1:=codeD_le h.dot
 have hu:=h.user;have ht:=h.time;have ho:=h.ops
 have h2:=packB_le (n:=t.2.1.toNat) (by omega)
 have h3:=packB_le (n:=t.2.2.1.toNat) (by omega)
 have h4:=packB_le (n:=thinN t.2.2.2.1) (by unfold thinN;split <;> omega)
 have h5:=packB_le (n:=t.2.2.2.2.length) (by omega)
 have:=codes_le codeO 8000 t.2.2.2.2 (fun o ho=>codeO_le (h.each o ho) (hs.ops o ho))
 unfold codeTx;simp only [List.length_append];omega
theorem codeTx_pos (t:Txn):0<(codeTx t).length:=by
 unfold codeTx;rw [List.length_append];have:=codeD_pos t.1;omega
theorem tocode_l (k:Nat) (l:List Op) (hr:∀ o ∈ l,o=goneO∨OkO k o) (hs:∀ o ∈ l,ShortO o) (hl:l.length<1000) (hk:5000<k) (hk2:k<1000000):∀ (n i:Nat) (x:List UInt8),i≤l.length→l.length<n+i→x.length≤100+8000 * i→z1X.l6 k n x l (ilen l) (i:Int)=some (x++(l.drop i).flatMap codeO)
 | 0,i,_,h,h',_=>by omega
 | n+1,i,x,h,h',hx=>by
  rw [z1X.l6_eq,ilt_nat,inL_nat,natOf_nat]
  by_cases hi:i<l.length
  ·have hd:=hr l[i] (List.getElem_mem hi)
   have hsd:=hs l[i] (List.getElem_mem hi)
   have hp:=codeO_le hd hsd
   have e4:iadd .i64 (i:Int) 1=((i+1:Nat):Int):=iadd_nat (by omega)
   have ed:l.drop i=l[i]::l.drop (i+1):=List.drop_eq_getElem_cons hi
   rw [decide_eq_true hi,rd_at' (e:=tOp) hi,ocode_is k hd hsd hk hk2,e4,ed,List.flatMap_cons]
   simp only [br_true,bnd_some]
   rw [roomS_ok (by omega) (by omega),br_true]
   refine (tocode_l k l hr hs hl hk hk2 n (i+1) _ (by omega) (by omega) (by unfold app;rw [List.length_append];omega)).trans ?_
   unfold app;rw [List.append_assoc]
  ·have e0:l.drop i=[]:=List.drop_eq_nil_of_le (by omega)
   rw [decide_eq_false hi,br_false,e0];simp
theorem txcode_is (k : Nat) {t : Txn} (h : OkT k t) (hs : ShortT t) (hk : 5000 < k) (hk2 : k < 1000000) : z1X.f k t = some (codeTx t) := by
  have h1 := codeD_le h.dot
  have hu := h.user; have ht := h.time; have ho := h.ops
  have h2 := packB_le (n := t.2.1.toNat) (by omega)
  have h3 := packB_le (n := t.2.2.1.toNat) (by omega)
  have h4 : ∀ b, (packB (thinN b)).length ≤ 8 := fun b => packB_le (n := thinN b) (by unfold thinN; split <;> omega)
  have h5 := packB_le (n := t.2.2.2.2.length) (by omega)
  have e : (ilen t.2.2.2.2).toNat = t.2.2.2.2.length := rfl
  have q1 : packI 1 = some (packB (thinN true)) := pI 1 (by decide)
  have q0 : packI 0 = some (packB (thinN false)) := pI 0 (by decide)
  have key : ∀ b, (br (roomS (codeD t.1) (packB t.2.1.toNat))
      (br (roomS (app (codeD t.1) (packB t.2.1.toNat)) (packB t.2.2.1.toNat))
        (br (roomS (app (app (codeD t.1) (packB t.2.1.toNat)) (packB t.2.2.1.toNat)) (packB (thinN b)))
          (br (roomS (app (app (app (codeD t.1) (packB t.2.1.toNat)) (packB t.2.2.1.toNat)) (packB (thinN b))) (packB t.2.2.2.2.length))
            (z1X.l6 k k (app (app (app (app (codeD t.1) (packB t.2.1.toNat)) (packB t.2.2.1.toNat)) (packB (thinN b))) (packB t.2.2.2.2.length)) t.2.2.2.2 (ilen t.2.2.2.2) 0)
            none)
          none)
        none)
      none) = some (codeD t.1 ++ (packB t.2.1.toNat ++ (packB t.2.2.1.toNat ++ (packB (thinN b) ++ (packB t.2.2.2.2.length ++ t.2.2.2.2.flatMap codeO))))) := by
    intro b
    have h4 := h4 b
    rw [roomS_ok (by omega) (by omega), br_true, roomS_ok (by unfold app; simp only [List.length_append]; omega) (by omega), br_true, roomS_ok (by unfold app; simp only [List.length_append]; omega) (by omega), br_true, roomS_ok (by unfold app; simp only [List.length_append]; omega) (by omega), br_true]
    refine (tocode_l k t.2.2.2.2 h.each hs.ops (by omega) hk hk2 k 0 _ (by omega) (by omega) (by unfold app; simp only [List.length_append]; omega)).trans ?_
    rw [List.drop_zero]; unfold app; simp only [List.append_assoc]
  rw [z1X.f_eq, dcode_is k h.dot, packI_is (n := t.2.1) (by omega), packI_is (n := t.2.2.1) (by omega), packI_is (n := ilen t.2.2.2.2) (by unfold ilen; omega), e, q1, q0]
  unfold codeTx
  simp only [bnd_some]
  cases t.2.2.2.1 with
  | true => rw [br_true]; exact key true
  | false => rw [br_false]; exact key false
theorem back_o7 (k:Nat) (hk:5000<k) (hk2:k<1000000) (N:Nat) (hN:N≤16) (d:Dot) (a b:Int) (c:Bool) (t:List UInt8) (p:List Op) (hc:z1L.f k (d,(a,(b,(c,p))))=some 0):∀ (n i:Nat) (x l:List Op),i+l.length=N→N<n+i→x.length=i→(∀ o ∈ l,o=goneO∨OkO k o)→x++l=p→(l.flatMap codeO++t).length<4000000 →
  z1V.l7 k n (N:Int) (i:Int) (0,0) 0 0 false [] d a b c x (l.flatMap codeO++t,0)=some ((d,(a,(b,(c,p)))),(t,0))
 | 0,i,_,_,h,h',_,_,_,_=>by omega
 | n+1,i,x,[],h,_,hx,_,hp,_=>by
  have hi:N=i:=by simpa using h.symm
  subst hi
  rw [List.append_nil] at hp
  subst hp
  rw [z1V.l7_eq,ilt_nn,decide_eq_false (Nat.lt_irrefl _)]
  have bt:bnot true=false:=rfl
  simp only [br_false,fault_is,bnd_some,ieq_dec,decide_true,br_true,hc,fail_is,if_true,bt,List.append_nil,List.flatMap_nil,List.nil_append]
 | n+1,i,x,o::l,h,h',hx,hr,hp,hS=>by
  simp only [List.length_cons] at h
  have e4:iadd .i64 (i:Int) 1=((i+1:Nat):Int):=iadd_nat (by omega)
  have ea:(o::l).flatMap codeO++t=codeO o++(l.flatMap codeO++t):=by rw [List.flatMap_cons,List.append_assoc]
  rw [ea] at hS ⊢
  have hS2:(l.flatMap codeO++t).length<4000000:=by rw [List.length_append] at hS;omega
  rw [z1V.l7_eq,ilt_nn,decide_eq_true (show i<N by omega),back_op k _ (hr o (by simp)) hk hk2 hS,e4]
  simp only [br_true,bnd_some]
  rw [room1 (show x.length<4000000 by omega),br_true]
  exact back_o7 k hk hk2 N hN d a b c t p hc n (i+1) (app x (o::[])) l (by omega) (by omega) (by simp [app,hx]) (fun e he=>hr e (List.mem_cons_of_mem _ he)) (by unfold app;rw [List.append_assoc];exact hp) hS2
theorem back_txn (k:Nat) {t:Txn} (r:List UInt8) (h:OkT k t) (hk:5000<k) (hk2:k<1000000) (hS:(codeTx t++r).length<4000000):z1V.f k (codeTx t++r,0)=some (t,(r,0)):=by
 have hu:=h.user;have ht:=h.time;have ho:=h.ops
 have hth:thinN t.2.2.2.1≤1:=by unfold thinN;split <;> omega
 have ea:codeTx t++r=codeD t.1++(packB t.2.1.toNat++(packB t.2.2.1.toNat++(packB (thinN t.2.2.2.1)++(packB t.2.2.2.2.length++(t.2.2.2.2.flatMap codeO++r))))):=by unfold codeTx;simp only [List.append_assoc]
 rw [ea] at hS ⊢
 have s1:(packB t.2.1.toNat++(packB t.2.2.1.toNat++(packB (thinN t.2.2.2.1)++(packB t.2.2.2.2.length++(t.2.2.2.2.flatMap codeO++r))))).length<4000000:=by rw [List.length_append] at hS;omega
 have s2:(packB t.2.2.1.toNat++(packB (thinN t.2.2.2.1)++(packB t.2.2.2.2.length++(t.2.2.2.2.flatMap codeO++r)))).length<4000000:=by rw [List.length_append] at s1;omega
 have s3:(packB (thinN t.2.2.2.1)++(packB t.2.2.2.2.length++(t.2.2.2.2.flatMap codeO++r))).length<4000000:=by rw [List.length_append] at s2;omega
 have s4:(packB t.2.2.2.2.length++(t.2.2.2.2.flatMap codeO++r)).length<4000000:=by rw [List.length_append] at s3;omega
 have s5:(t.2.2.2.2.flatMap codeO++r).length<4000000:=by rw [List.length_append] at s4;omega
 have hlen:=codes_len codeO codeO_pos t.2.2.2.2
 have e1:((t.2.1.toNat:Nat):Int)=t.2.1:=Int.toNat_of_nonneg (by omega)
 have e2:((t.2.2.1.toNat:Nat):Int)=t.2.2.1:=Int.toNat_of_nonneg (by omega)
 have e3:ilt 1 ((thinN t.2.2.2.1:Nat):Int)=false:=decide_eq_false (by omega)
 have e4:ieq ((thinN t.2.2.2.1:Nat):Int) 1=t.2.2.2.1:=by cases t.2.2.2.1 <;> rfl
 rw [z1V.f_eq,back_dot k t.1 _ h.dot (by omega) hS]
 simp only [bnd_some]
 rw [back_int k _ _ (by omega) (by omega) s1]
 simp only [bnd_some]
 rw [back_int k _ _ (by omega) (by omega) s2]
 simp only [bnd_some]
 rw [back_int k _ _ (by omega) (by omega) s3]
 simp only [bnd_some,fault_is]
 rw [show ieq (0:Int) 0=true from rfl,br_true,e3,br_false,e4,e1,e2,back_many k _ 16 _ (by omega) (by omega) (by omega) (by rw [List.length_append];omega) s4]
 simp only [bnd_some]
 exact back_o7 k hk hk2 t.2.2.2.2.length ho t.1 t.2.1 t.2.2.1 t.2.2.2.1 r t.2.2.2.2 h.chk k 0 [] t.2.2.2.2 (by omega) (by omega) rfl h.each rfl s5
def codeTL (l:List Txn):List UInt8:=packB l.length++l.flatMap codeTx
theorem codeTL_le {k:Nat} {l:List Txn} (h:∀ t ∈ l,OkT k t) (hs:∀ t ∈ l,ShortT t) (hl:l.length≤20):(codeTL l).length≤2600008:=by
 have hp:=packB_le (n:=l.length) (by omega)
 have:=codes_le codeTx 130000 l (fun t ht=>codeTx_le (h t ht) (hs t ht))
 unfold codeTL;rw [List.length_append];omega
theorem tlcode_l (k:Nat) (l:List Txn) (hr:∀ t ∈ l,OkT k t) (hs:∀ t ∈ l,ShortT t) (hl:l.length≤20) (hk:5000<k) (hk2:k<1000000):∀ (n i:Nat) (x:List UInt8),i≤l.length→l.length<n+i→x.length≤100+130000 * i→z1U.l3 k n x l (ilen l) (i:Int)=some (x++(l.drop i).flatMap codeTx)
 | 0,i,_,h,h',_=>by omega
 | n+1,i,x,h,h',hx=>by
  rw [z1U.l3_eq,ilt_nat,inL_nat,natOf_nat]
  by_cases hi:i<l.length
  ·have hd:=hr l[i] (List.getElem_mem hi)
   have hsd:=hs l[i] (List.getElem_mem hi)
   have hp:=codeTx_le hd hsd
   have e4:iadd .i64 (i:Int) 1=((i+1:Nat):Int):=iadd_nat (by omega)
   have ed:l.drop i=l[i]::l.drop (i+1):=List.drop_eq_getElem_cons hi
   rw [decide_eq_true hi,rd_at' (e:=tTxn) hi,txcode_is k hd hsd hk hk2,e4,ed,List.flatMap_cons]
   simp only [br_true,bnd_some]
   rw [roomS_ok (by omega) (by omega),br_true]
   refine (tlcode_l k l hr hs hl hk hk2 n (i+1) _ (by omega) (by omega) (by unfold app;rw [List.length_append];omega)).trans ?_
   unfold app;rw [List.append_assoc]
  ·have e0:l.drop i=[]:=List.drop_eq_nil_of_le (by omega)
   rw [decide_eq_false hi,br_false,e0];simp
theorem tlcode_is (k:Nat) {l:List Txn} (hr:∀ t ∈ l,OkT k t) (hs:∀ t ∈ l,ShortT t) (hl:l.length≤20) (hk:5000<k) (hk2:k<1000000):z1U.f k l=some (codeTL l):=by
 have e:(ilen l).toNat=l.length:=rfl
 have hp:=packB_le (n:=l.length) (by omega)
 rw [z1U.f_eq,packI_is (n:=ilen l) (by unfold ilen;omega),e,bnd_some]
 exact tlcode_l k l hr hs hl hk hk2 k 0 _ (by omega) (by omega) (by omega)
theorem back_tl3 (k:Nat) (hk:5000<k) (hk2:k<1000000) (N:Nat) (hN:N≤1000) (t:List UInt8):∀ (n i:Nat) (x l:List Txn),i+l.length=N→N<n+i→x.length=i→(∀ o ∈ l,OkT k o)→(x++l).Pairwise (fun a b=>dotLt a.1 b.1=true)→(l.flatMap codeTx++t).length<4000000 →
  z0z.l3 k n x (N:Int) (i:Int) (l.flatMap codeTx++t,0)=some (x++l,(t,0))
 | 0,i,_,_,h,h',_,_,_,_=>by omega
 | n+1,i,x,[],h,_,hx,_,hc,_=>by
  have hi:N=i:=by simpa using h.symm
  subst hi
  rw [List.append_nil] at hc
  obtain ⟨b1,g1,i1⟩:=trises_is k x (by omega) (by omega) hk2
  have hb:b1=true:=i1.2 hc
  subst hb
  rw [z0z.l3_eq,ilt_nn,decide_eq_false (Nat.lt_irrefl _)]
  have bt:bnot true=false:=rfl
  simp only [br_false,fault_is,bnd_some,ieq_dec,decide_true,br_true,g1,bt,List.append_nil,List.flatMap_nil,List.nil_append]
 | n+1,i,x,d::l,h,h',hx,hr,hc,hS=>by
  simp only [List.length_cons] at h
  have e4:iadd .i64 (i:Int) 1=((i+1:Nat):Int):=iadd_nat (by omega)
  have ea:(d::l).flatMap codeTx++t=codeTx d++(l.flatMap codeTx++t):=by rw [List.flatMap_cons,List.append_assoc]
  rw [ea] at hS ⊢
  have hS2:(l.flatMap codeTx++t).length<4000000:=by rw [List.length_append] at hS;omega
  rw [z0z.l3_eq,ilt_nn,decide_eq_true (show i<N by omega),back_txn k _ (hr d (by simp)) hk hk2 hS,e4]
  simp only [br_true,bnd_some]
  rw [room1 (show x.length<4000000 by omega),br_true]
  have:=back_tl3 k hk hk2 N hN t n (i+1) (app x (d::[])) l (by omega) (by omega) (by simp [app,hx]) (fun e he=>hr e (List.mem_cons_of_mem _ he)) (by unfold app;rw [List.append_assoc];exact hc) hS2
  refine this.trans ?_
  simp [app]
theorem back_tl (k:Nat) (l:List Txn) (most:Int) (t:List UInt8) (hr:∀ o ∈ l,OkT k o) (hc:l.Pairwise (fun a b=>dotLt a.1 b.1=true)) (hm:(l.length:Int)≤most) (hl:l.length≤1000) (hk:5000<k) (hk2:k<1000000) (hS:(codeTL l++t).length<4000000) :
  z0z.f k most (codeTL l++t,0)=some (l,(t,0)):=by
 have ea:codeTL l++t=packB l.length++(l.flatMap codeTx++t):=by unfold codeTL;rw [List.append_assoc]
 rw [ea] at hS ⊢
 have hS2:(l.flatMap codeTx++t).length<4000000:=by rw [List.length_append] at hS;omega
 have hlen:=codes_len codeTx codeTx_pos l
 rw [z0z.f_eq,back_many k _ most _ (by omega) (by omega) hm (by rw [List.length_append];omega) hS]
 simp only [bnd_some]
 exact back_tl3 k hk hk2 l.length hl t k 0 [] l (by omega) (by omega) rfl hr hc hS2
end Go.Proofs.YtggcagclpkhlhaaGreatDoor
end
noncomputable section
/- A state that may be is read as it was told. -/
namespace Go.Proofs.YtggcagclpkhlhaaGreatDoor
open Pal
theorem RightS.ok {k:Nat} {s:Sta} (h:RightS k s) (hsh:∀ t ∈ s.1,ShortT t) (hk:1000<k) (hk2:k<1000000):∀ t ∈ s.1,OkT k t:=fun t ht=>by
 have st:=(hsh t ht).siz hk
 obtain ⟨e,g1,g2⟩:=txn_is k t st.each st.ops (by omega) hk2
 rw [h.chk t ht] at g2
 injection g2 with g2
 exact txn_ok k t st (by omega) hk2 (by rw [g1,← g2])
end Go.Proofs.YtggcagclpkhlhaaGreatDoor
end
noncomputable section
/- Deltas: the program and the document read the same, and test the same; what is told is read again. -/
namespace Go.Proofs.YtggcagclpkhlhaaGreatDoor
open Pal
theorem rdl_is (k:Nat) (S:List UInt8) (r:Rdr) (x:RefRdr) (h:RR S r x) (hS:S.length<5000) (hk:5000<k) (hk2:k<1000000) :
  ∃ (d:Dlt) (r':Rdr) (x':RefRdr),z0e.f k r=some (d,r')∧z0q.f k x=some (d,x')∧RR S r' x'∧LenD S.length d∧∀ t ∈ d.1,SizT k t:=by
 obtain ⟨L,r1,x1,e1,e2,h1,hL,hT⟩:=tlr_is k S 1000 r x h hS hk hk2
 obtain ⟨U,r2,x2,e3,e4,h2,hU⟩:=tread_is k S 1048576 r1 x1 h1 hS hk hk2
 obtain ⟨E,r3,x3,e5,e6,h3,hE,_⟩:=lread_is k S 1048576 r2 x2 h2 (by omega) (by omega) (by omega)
 have hb:r3.2=x3.2.2:=h3.bad
 rw [z0e.f_eq,z0q.f_eq,e1,e2]
 simp only [bnd_some]
 rw [e3,e4]
 simp only [bnd_some]
 rw [e5,e6]
 simp only [bnd_some,fault_is,ieq_dec,bnot_dec,br_dec,hb]
 by_cases hz:x3.2.2=0
 ·simp only [hz,not_true,if_false]
  exact ⟨(L,(U,E)),_,_,rfl,rfl,h3,⟨hL,hU,hE⟩,hT⟩
 ·simp only [hz,not_false_eq_true,if_true]
  exact ⟨([],([],[])),_,_,rfl,rfl,h3,⟨by simp,by simp,by simp⟩,fun t ht=>by simp at ht⟩
theorem rsameD_is (k:Nat) (d:Dlt) {n:Nat} (ld:LenD n d) (he:∀ t ∈ d.1,LenT k t) (hn:n<k) (hk:k<1000000):z0p.f k d d=some true:=by
 rw [z0p.f_eq,rallTxn_is k _ _ (by have:=ld.tx;omega) he hk,rsameU_is k _ _ (by have:=ld.un;omega) hk,reqD k _ _ (by have:=ld.se;omega) hk]
 simp only [bnd_some,decide_true,br_true]
def codeDl (d:Dlt):List UInt8:=codeTL d.1++(codeT d.2.1++codeL d.2.2)
theorem RightDl.ok {k:Nat} {d:Dlt} (h:RightDl k d) (hsh:∀ t ∈ d.1,ShortT t) (hk:1000<k) (hk2:k<1000000):∀ t ∈ d.1,OkT k t:=fun t ht=>by
 have st:=(hsh t ht).siz hk
 obtain ⟨e,g1,g2⟩:=txn_is k t st.each st.ops (by omega) hk2
 rw [h.chk t ht] at g2
 injection g2 with g2
 exact txn_ok k t st (by omega) hk2 (by rw [g1,← g2])
theorem dlcode_is (k:Nat) {d:Dlt} (sh:ShortD d) (hr:RightDl k d) (hk:5000<k) (hk2:k<1000000):z0y.f k d=some (codeDl d)∧(codeDl d).length≤2700000:=by
 have ho:=hr.ok sh.each (by omega) hk2
 have l1:=codeTL_le ho sh.each sh.tx
 have l2:=codeT_le hr.un.rt sh.un (by omega)
 have l3:=codeL_le hr.se (by have:=sh.se;omega)
 have hun:=sh.un;have hse:=sh.se
 constructor
 ·rw [z0y.f_eq,tlcode_is k ho sh.each sh.tx hk hk2,tcode_is k hr.un.rt (by omega) hk2,lcode_is k hr.se (by omega) hk2]
  simp only [bnd_some]
  rw [roomS_ok (by omega) (by omega),br_true,roomS_ok (by unfold app;rw [List.length_append];omega) (by omega),br_true]
  unfold app codeDl;simp only [List.append_assoc]
 ·unfold codeDl;simp only [List.length_append];omega
theorem back_dl (k:Nat) {d:Dlt} (t:List UInt8) (sh:ShortD d) (hr:RightDl k d) (hk:5000<k) (hk2:k<1000000) (hS:(codeDl d++t).length<4000000):z0e.f k (codeDl d++t,0)=some (d,(t,0)):=by
 have tx:=sh.tx;have un:=sh.un;have se:=sh.se
 have ea:codeDl d++t=codeTL d.1++(codeT d.2.1++(codeL d.2.2++t)):=by unfold codeDl;simp only [List.append_assoc]
 have bt:bnot true=false:=rfl
 rw [ea] at hS ⊢
 have s1:(codeT d.2.1++(codeL d.2.2++t)).length<4000000:=by rw [List.length_append] at hS;omega
 have s2:(codeL d.2.2++t).length<4000000:=by rw [List.length_append] at s1;omega
 rw [z0e.f_eq,back_tl k d.1 1000 _ (hr.ok sh.each (by omega) hk2) hr.ris (by omega) (by omega) hk hk2 hS]
 simp only [bnd_some]
 rw [back_tally k d.2.1 1048576 _ hr.un (by omega) (by omega) (by omega) hk2 s1]
 simp only [bnd_some]
 rw [back_list k d.2.2 1048576 _ hr.se (by omega) (by omega) (by omega) hk2 s2]
 simp only [bnd_some,fault_is,ieq_dec,decide_true,bt,br_false]
end Go.Proofs.YtggcagclpkhlhaaGreatDoor
end
noncomputable section
/- Records: whether one may be; the program and the document parse the same. -/
namespace Go.Proofs.YtggcagclpkhlhaaGreatDoor
open Pal
abbrev Rec:=Ty.D tRecord
structure SizR (k n:Nat) (x:Rec):Prop where
 t:SizT k x.2.1
 d:LenD n x.2.2.2.2.2.1
 dt:∀ t ∈ x.2.2.2.2.2.1.1,SizT k t
 s:LenS n x.2.2.2.2.2.2
 st:∀ t ∈ x.2.2.2.2.2.2.1,SizT k t
 s8:x.2.2.2.2.2.2.2.2.2.2.length=8
 v1:x.2.2.2.2.2.2.2.2.1.1.length=16
 v2:x.2.2.2.2.2.2.2.2.2.1.1.length=16
theorem SizR.of {k n:Nat} {K u b:Int} {t:Txn} {U:Undo} {d:Dlt} {s:Sta} (ht:SizT k t) (hd:LenD n d) (hdt:∀ t ∈ d.1,SizT k t) (hs:LenS n s) (hst:∀ t ∈ s.1,SizT k t) (h8:s.2.2.2.2.length=8) (h1:s.2.2.1.1.length=16) (h2:s.2.2.2.1.1.length=16):SizR k n (K,(t,(u,(U,(b,(d,s)))))):=⟨ht,hd,hdt,hs,hst,h8,h1,h2⟩
end Go.Proofs.YtggcagclpkhlhaaGreatDoor
end
noncomputable section
/- Records that may be are parsed as they were told. -/
namespace Go.Proofs.YtggcagclpkhlhaaGreatDoor
open Pal
theorem endz_is (k:Nat):z0o.f k ([],0)=some (0,([],0)):=by
 have bt:bnot true=false:=rfl
 rw [z0o.f_eq,z0d.f_eq,fine_is]
 simp only [bnd_some,decide_true,bt,br_false]
 have e:ilt 0 (ilen ([]:List UInt8))=false:=rfl
 rw [e]
 simp only [br_false,fault_is,bnd_some]
structure ShortR (x:Rec):Prop where
 t:ShortT x.2.1
 d:ShortD x.2.2.2.2.2.1
 s:ShortS x.2.2.2.2.2.2
theorem ShortR.siz {k:Nat} {x:Rec} (h:ShortR x) (hk:1000<k) (h8:x.2.2.2.2.2.2.2.2.2.2.length=8) (h1:x.2.2.2.2.2.2.2.2.1.1.length=16) (h2:x.2.2.2.2.2.2.2.2.2.1.1.length=16):SizR k 100 x :=
 ⟨h.t.siz hk,h.d.len,fun t ht=>(h.d.each t ht).siz hk,h.s.len,fun t ht=>(h.s.each t ht).siz hk,h8,h1,h2⟩
section
variable (k:Nat) (hk:5000<k) (hk2:k<1000000)
include hk hk2
end
section
variable (k:Nat) (hk:5000<k) (hk2:k<1000000)
include hk hk2
end
end Go.Proofs.YtggcagclpkhlhaaGreatDoor
end
noncomputable section
/- The document's bytes are the program's. -/
namespace Go.Proofs.YtggcagclpkhlhaaGreatDoor
open Pal
theorem rdcode_is (k:Nat) {d:Dot} (h:rightD d=true):z1d.f k d=some (codeD d):=by
 obtain ⟨h1,h2,h3,h4⟩:=rightD_rng h
 have p1:=packB_le (n:=d.1.toNat) (by omega)
 have p2:=packB_le (n:=d.2.toNat) (by omega)
 rw [z1d.f_eq,packI_is (n:=d.1) (by omega),packI_is (n:=d.2) (by omega)]
 simp only [bnd_some]
 rw [roomS_ok (by omega) (by omega)];rfl
theorem rtext_code (k:Nat) (s:Str) (h:List.length s<1000000):z19.f k s=some (codeX s):=by
 have e:(ilen s).toNat=List.length s:=rfl
 have hp:=packB_le (n:=List.length s) (by omega)
 rw [z19.f_eq,packI_is (n:=ilen s) (by unfold ilen;omega),e,bnd_some,roomS_ok (by omega) (by omega)];rfl
theorem rpcode_l (k:Nat) (p:List Str) (hs:∀ s ∈ p,List.length s≤120) (hl:p.length<10000):∀ (n i:Nat) (x:List UInt8),i≤p.length→p.length<n+i→x.length≤100+128 * i→z1p.l3 k n p x (i:Int)=some (x++(p.drop i).flatMap codeX)
 | 0,i,_,h,h',_=>by omega
 | n+1,i,x,h,h',hx=>by
  rw [z1p.l3_eq,ilt_nat,inL_nat,natOf_nat]
  by_cases hi:i<p.length
  ·have hd:=hs p[i] (List.getElem_mem hi)
   have hp:=codeX_len p[i] (by omega)
   have e4:iadd .i64 (i:Int) 1=((i+1:Nat):Int):=iadd_nat (by omega)
   have ed:p.drop i=p[i]::p.drop (i+1):=List.drop_eq_getElem_cons hi
   rw [decide_eq_true hi,rd_at' (e:=.str) hi,rtext_code k _ (by omega),e4,ed,List.flatMap_cons]
   simp only [br_true,bnd_some]
   rw [roomS_ok (by omega) (by omega),br_true]
   refine (rpcode_l k p hs hl n (i+1) _ (by omega) (by omega) (by unfold app;rw [List.length_append];omega)).trans ?_
   unfold app;rw [List.append_assoc]
  ·have e0:p.drop i=[]:=List.drop_eq_nil_of_le (by omega)
   rw [decide_eq_false hi,br_false,e0];simp
theorem rpcode_is (k:Nat) {p:List Str} (h:ShortP p) (hk:12<k) (hk2:k<1000000):z1p.f k p=some (codeP p):=by
 have h1:=h.1
 have e:(ilen p).toNat=p.length:=rfl
 have hp:=packB_le (n:=p.length) (by omega)
 rw [z1p.f_eq,packI_is (n:=ilen p) (by unfold ilen;omega),e,bnd_some]
 exact rpcode_l k p h.2 (by omega) k 0 _ (by omega) (by omega) (by omega)
theorem rfold_is (k:Nat) (i:Int) (h1:-2147483647≤i) (h2:i≤2147483647):z0Z.f k i=some ((foldN i:Nat):Int):=by
 rw [z0Z.f_eq]
 unfold foldN
 by_cases h:i<0
 ·have m1:isub .i64 0 i=-i:=by
   show IntKind.wrap .i64 (0 - i)=_
   rw [wrap64 (by omega) (by omega)];omega
  have m2:isub .i64 (-i) i=-2 * i:=by
   show IntKind.wrap .i64 (-i - i)=_
   rw [wrap64 (by omega) (by omega)];omega
  have s:isub .i64 (-2 * i) 1=-2 * i - 1:=by
   show IntKind.wrap .i64 (-2 * i - 1)=_
   rw [wrap64 (by omega) (by omega)]
  rw [show ilt i 0=true from decide_eq_true h,br_true,m1,m2,s,if_pos h,Int.toNat_of_nonneg (by omega)]
 ·have m:iadd .i64 i i=2 * i:=by
   show IntKind.wrap .i64 (i+i)=_
   rw [wrap64 (by omega) (by omega)];omega
  rw [show ilt i 0=false from decide_eq_false h,br_false,m,if_neg h,Int.toNat_of_nonneg (by omega)]
theorem rvacode_is (k:Nat) {v:Val} (hv:ValOK v) (hl:v.2.2.length≤200):z1c.f k v=some (codeVal v):=by
 have h1:=hv.kind
 have p1:=packB_le (n:=v.1.toNat) (by omega)
 unfold codeVal
 rw [z1c.f_eq,ieq_dec]
 by_cases h2:v.1=2
 ·have h0:packI 2=some (packB 2):=pI 2 (by decide)
  have hp2:=packB_le (n:=2) (by omega)
  have:=codeX_len v.2.2 (by omega)
  rw [decide_eq_true h2,br_true,h0,bnd_some,rtext_code k _ (by omega),bnd_some,roomS_ok (by omega) (by omega),br_true,if_pos h2,h2];rfl
 ·obtain ⟨_,a,b⟩:=hv.num h2
  have hb:=foldN_le a b
  have:=packB_le hb
  rw [decide_eq_false h2,br_false,packI_is (n:=v.1) (by omega),bnd_some,rfold_is k _ a b,bnd_some,packI_is (n:=((foldN v.2.1:Nat):Int)) (by omega),Int.toNat_natCast,bnd_some,roomS_ok (by omega) (by omega),br_true,if_neg h2];rfl
theorem rrcode_l (k:Nat) (o:Op) (hr:∀ u ∈ o.2.2.2.2,rightD u.1=true∧0≤u.2∧u.2<16) (hl:o.2.2.2.2.length<1000000):∀ (n i:Nat) (x:List UInt8),i≤o.2.2.2.2.length→o.2.2.2.2.length<n+i→x.length≤10000+24 * i→z1o.l13 k n x (i:Int) o=some (x++(o.2.2.2.2.drop i).flatMap codeU)
 | 0,i,_,h,h',_=>by omega
 | n+1,i,x,h,h',hx=>by
  rw [z1o.l13_eq,ilt_nat,inL_nat,natOf_nat]
  by_cases hi:i<o.2.2.2.2.length
  ·have hd:=hr o.2.2.2.2[i] (List.getElem_mem hi)
   have hp:=codeR_le hd
   obtain ⟨hd1,hd2,hd3⟩:=hd
   have hp1:=codeD_le hd1
   have hp2:=packB_le (n:=o.2.2.2.2[i].2.toNat) (by omega)
   have e4:iadd .i64 (i:Int) 1=((i+1:Nat):Int):=iadd_nat (by omega)
   have ed:o.2.2.2.2.drop i=o.2.2.2.2[i]::o.2.2.2.2.drop (i+1):=List.drop_eq_getElem_cons hi
   rw [decide_eq_true hi,rd_at' (e:=tUndo) hi,rdcode_is k hd1,packI_is (n:=o.2.2.2.2[i].2) (by omega),e4,ed,List.flatMap_cons]
   simp only [br_true,bnd_some]
   rw [roomS_ok (by omega) (by omega),br_true,roomS_ok (by unfold app;rw [List.length_append];omega) (by omega),br_true]
   have ea:app (app x (codeD o.2.2.2.2[i].1)) (packB o.2.2.2.2[i].2.toNat)=x++codeU o.2.2.2.2[i]:=by unfold app codeU;rw [List.append_assoc]
   rw [ea]
   refine (rrcode_l k o hr hl n (i+1) _ (by omega) (by omega) (by rw [List.length_append];omega)).trans ?_
   rw [List.append_assoc]
  ·have e0:o.2.2.2.2.drop i=[]:=List.drop_eq_nil_of_le (by omega)
   rw [decide_eq_false hi,br_false,e0];simp
theorem rrcode_is (k:Nat) (x:List UInt8) {o:Op} (hr:∀ u ∈ o.2.2.2.2,rightD u.1=true∧0≤u.2∧u.2<16) (hl:o.2.2.2.2.length≤256) (hx:x.length≤9000) (hk:5000<k) (hk2:k<1000000) :
  (bnd (packI (ilen o.2.2.2.2)) fun r6=>br (roomS x r6) (z1o.l13 k k (app x r6) 0 o) none)=some (x++codeT o.2.2.2.2):=by
 have e:(ilen o.2.2.2.2).toNat=o.2.2.2.2.length:=rfl
 have hp:=packB_le (n:=o.2.2.2.2.length) (by omega)
 rw [packI_is (n:=ilen o.2.2.2.2) (by unfold ilen;omega),e,bnd_some,roomS_ok (by omega) (by omega),br_true]
 refine (rrcode_l k o hr (by omega) k 0 _ (by omega) (by omega) (by unfold app;rw [List.length_append];omega)).trans ?_
 rw [List.drop_zero];unfold app codeT;rw [List.append_assoc]
theorem rocode_0 (k:Nat):z1o.f k goneO=some (packB 0):=by
 have h0:packI 0=some (packB 0):=pI 0 (by decide)
 have e0:ieq (ilen ([]:List Undo)) 0=true:=rfl
 have e1:ieq (ilen ([]:List Str)) 0=true:=rfl
 have e2:deq tValue ((0,(0,[])):Val) (0,(0,[]))=true:=by rw [deqVal];exact decide_eq_true rfl
 rw [z1o.f_eq,z1i.f_eq]
 unfold goneO
 simp only [h0,bnd_some,show ieq (0:Int) 0=true from rfl,e0,e1,e2,br_true]
section
variable (k:Nat) (hk:5000<k) (hk2:k<1000000) (P:List Str) (V:Val) (A:Int) (S:List Undo) (hP:ShortP P) (hv:V.2.2.length≤200)
include hk hk2 hP
theorem rocode_3 (h1:-2147483647≤A) (h2:A≤2147483647):z1o.f k (3,(P,(V,(A,S))))=some (packB 3++(codeP P++packB (foldN A))):=by
 have h0:packI 3=some (packB 3):=pI 3 (by decide)
 have hb:=foldN_le h1 h2
 have hpl:=packB_le hb
 have hf:packI ((foldN A:Nat):Int)=some (packB (foldN A)):=by rw [packI_is (n:=((foldN A:Nat):Int)) (by omega),Int.toNat_natCast]
 obtain ⟨r1,r2⟩:=rooms k hk hk2 P hP 3 (by decide)
 have r3:roomS (app (packB 3) (codeP P)) (packB (foldN A))=true:=roomS_ok (by omega) (by omega)
 rw [z1o.f_eq,z1i.f_eq]
 simp only [h0,bnd_some,show ieq (3:Int) 0=false from rfl,show ieq (3:Int) 3=true from rfl,br_true,br_false,rpcode_is k hP (by omega) hk2,r1,rfold_is k A h1 h2,hf,r3]
 unfold app;rw [List.append_assoc]
include hv
theorem rocode_1 (hV:ValOK V) (hs:S.length≤256∧∀ u ∈ S,rightD u.1=true∧0≤u.2∧u.2<16):z1o.f k (1,(P,(V,(A,S))))=some (packB 1++(codeP P++(codeVal V++codeT S))):=by
 have h0:packI 1=some (packB 1):=pI 1 (by decide)
 have hvl:=codeVal_le hV hv
 have bf:bnot false=true:=rfl
 obtain ⟨r1,r2⟩:=rooms k hk hk2 P hP 1 (by decide)
 have r3:roomS (app (packB 1) (codeP P)) (codeVal V)=true:=roomS_ok (by omega) (by omega)
 rw [z1o.f_eq,z1i.f_eq]
 simp only [h0,bnd_some,show ieq (1:Int) 0=false from rfl,show ieq (1:Int) 5=false from rfl,show ieq (1:Int) 2=false from rfl,show ieq (1:Int) 3=false from rfl,bf,br_true,br_false,rpcode_is k hP (by omega) hk2,r1,rvacode_is k hV hv,r3]
 refine (rrcode_is k _ (o:=(1,(P,(V,(A,S))))) hs.2 hs.1 (by unfold app at r2 ⊢;rw [List.length_append];omega) hk hk2).trans ?_
 unfold app;simp only [List.append_assoc]
theorem rocode_4 (hV:ValOK V) (hs:S.length≤256∧∀ u ∈ S,rightD u.1=true∧0≤u.2∧u.2<16):z1o.f k (4,(P,(V,(A,S))))=some (packB 4++(codeP P++(codeVal V++codeT S))):=by
 have h0:packI 4=some (packB 4):=pI 4 (by decide)
 have hvl:=codeVal_le hV hv
 have bf:bnot false=true:=rfl
 obtain ⟨r1,r2⟩:=rooms k hk hk2 P hP 4 (by decide)
 have r3:roomS (app (packB 4) (codeP P)) (codeVal V)=true:=roomS_ok (by omega) (by omega)
 rw [z1o.f_eq,z1i.f_eq]
 simp only [h0,bnd_some,show ieq (4:Int) 0=false from rfl,show ieq (4:Int) 5=false from rfl,show ieq (4:Int) 2=false from rfl,show ieq (4:Int) 3=false from rfl,bf,br_true,br_false,rpcode_is k hP (by omega) hk2,r1,rvacode_is k hV hv,r3]
 refine (rrcode_is k _ (o:=(4,(P,(V,(A,S))))) hs.2 hs.1 (by unfold app at r2 ⊢;rw [List.length_append];omega) hk hk2).trans ?_
 unfold app;simp only [List.append_assoc]
theorem rocode_2 (hV:ValOK V):z1o.f k (2,(P,(V,(A,S))))=some (packB 2++(codeP P++codeVal V)):=by
 have h0:packI 2=some (packB 2):=pI 2 (by decide)
 have hvl:=codeVal_le hV hv
 have bf:bnot false=true:=rfl
 obtain ⟨r1,r2⟩:=rooms k hk hk2 P hP 2 (by decide)
 have r3:roomS (app (packB 2) (codeP P)) (codeVal V)=true:=roomS_ok (by omega) (by omega)
 rw [z1o.f_eq,z1i.f_eq]
 simp only [h0,bnd_some,show ieq (2:Int) 0=false from rfl,show ieq (2:Int) 5=false from rfl,show ieq (2:Int) 2=true from rfl,show ieq (2:Int) 3=false from rfl,bf,br_true,br_false,rpcode_is k hP (by omega) hk2,r1,rvacode_is k hV hv,r3]
 unfold app;rw [List.append_assoc]
omit hv in
theorem rocode_5 (hs:S.length≤256∧∀ u ∈ S,rightD u.1=true∧0≤u.2∧u.2<16):z1o.f k (5,(P,(V,(A,S))))=some (packB 5++(codeP P++codeT S)):=by
 have h0:packI 5=some (packB 5):=pI 5 (by decide)
 have bt:bnot true=false:=rfl
 obtain ⟨r1,r2⟩:=rooms k hk hk2 P hP 5 (by decide)
 rw [z1o.f_eq,z1i.f_eq]
 simp only [h0,bnd_some,show ieq (5:Int) 0=false from rfl,show ieq (5:Int) 5=true from rfl,show ieq (5:Int) 2=false from rfl,show ieq (5:Int) 3=false from rfl,bt,br_true,br_false,rpcode_is k hP (by omega) hk2,r1]
 refine (rrcode_is k _ (o:=(5,(P,(V,(A,S))))) hs.2 hs.1 (by omega) hk hk2).trans ?_
 unfold app;simp only [List.append_assoc]
end
theorem rocode_is (k:Nat) {o:Op} (h:o=goneO∨OkO k o) (hs:ShortO o) (hk:5000<k) (hk2:k<1000000):z1o.f k o=some (codeO o):=by
 rcases h with rfl | h
 ·rw [rocode_0];rfl
 ·have hK:=h.kind
  have hvr:=h.valr;have hse:=h.seen;have hv:=hs.val;have hP:=hs.path;have ha:=h.amt3
  clear h hs
  obtain ⟨K,P,V,A,S⟩:=o
  simp only at hK hvr hse hv hP ha
  rcases hK with rfl | rfl | rfl | rfl | rfl
  ·exact rocode_1 k hk hk2 P V A S hP hv (val_ok k V (hvr (.inl rfl))) hse
  ·exact rocode_2 k hk hk2 P V A S hP hv (val_ok k V (hvr (.inr (.inl rfl))))
  ·exact rocode_3 k hk hk2 P V A S hP ha.1 ha.2
  ·exact rocode_4 k hk hk2 P V A S hP hv (val_ok k V (hvr (.inr (.inr rfl)))) hse
  ·exact rocode_5 k hk hk2 P V A S hP hse
theorem rtocode_l (k:Nat) (t:Txn) (hr:∀ o ∈ t.2.2.2.2,o=goneO∨OkO k o) (hs:∀ o ∈ t.2.2.2.2,ShortO o) (hl:t.2.2.2.2.length<1000) (hk:5000<k) (hk2:k<1000000):∀ (n i:Nat) (x:List UInt8),i≤t.2.2.2.2.length→t.2.2.2.2.length<n+i→x.length≤100+8000 * i→z16.l7 k n x (i:Int) t=some (x++(t.2.2.2.2.drop i).flatMap codeO)
 | 0,i,_,h,h',_=>by omega
 | n+1,i,x,h,h',hx=>by
  rw [z16.l7_eq,ilt_nat,inL_nat,natOf_nat]
  by_cases hi:i<t.2.2.2.2.length
  ·have hd:=hr t.2.2.2.2[i] (List.getElem_mem hi)
   have hsd:=hs t.2.2.2.2[i] (List.getElem_mem hi)
   have hp:=codeO_le hd hsd
   have e4:iadd .i64 (i:Int) 1=((i+1:Nat):Int):=iadd_nat (by omega)
   have ed:t.2.2.2.2.drop i=t.2.2.2.2[i]::t.2.2.2.2.drop (i+1):=List.drop_eq_getElem_cons hi
   rw [decide_eq_true hi,rd_at' (e:=tOp) hi,rocode_is k hd hsd hk hk2,e4,ed,List.flatMap_cons]
   simp only [br_true,bnd_some]
   rw [roomS_ok (by omega) (by omega),br_true]
   refine (rtocode_l k t hr hs hl hk hk2 n (i+1) _ (by omega) (by omega) (by unfold app;rw [List.length_append];omega)).trans ?_
   unfold app;rw [List.append_assoc]
  ·have e0:t.2.2.2.2.drop i=[]:=List.drop_eq_nil_of_le (by omega)
   rw [decide_eq_false hi,br_false,e0];simp
theorem rtxcode_is (k : Nat) {t : Txn} (h : OkT k t) (hs : ShortT t) (hk : 5000 < k) (hk2 : k < 1000000) : z16.f k t = some (codeTx t) := by
  have h1 := codeD_le h.dot
  have hu := h.user; have ht := h.time; have ho := h.ops
  have h2 := packB_le (n := t.2.1.toNat) (by omega)
  have h3 := packB_le (n := t.2.2.1.toNat) (by omega)
  have h4 : ∀ b, (packB (thinN b)).length ≤ 8 := fun b => packB_le (n := thinN b) (by unfold thinN; split <;> omega)
  have h5 := packB_le (n := t.2.2.2.2.length) (by omega)
  have e : (ilen t.2.2.2.2).toNat = t.2.2.2.2.length := rfl
  have q1 : packI 1 = some (packB (thinN true)) := pI 1 (by decide)
  have q0 : packI 0 = some (packB (thinN false)) := pI 0 (by decide)
  have key : ∀ b, (br (roomS (app (app (codeD t.1) (packB t.2.1.toNat)) (packB t.2.2.1.toNat)) (packB (thinN b)))
          (br (roomS (app (app (app (codeD t.1) (packB t.2.1.toNat)) (packB t.2.2.1.toNat)) (packB (thinN b))) (packB t.2.2.2.2.length))
            (z16.l7 k k (app (app (app (app (codeD t.1) (packB t.2.1.toNat)) (packB t.2.2.1.toNat)) (packB (thinN b))) (packB t.2.2.2.2.length)) 0 t)
            none)
          none) = some (codeD t.1 ++ (packB t.2.1.toNat ++ (packB t.2.2.1.toNat ++ (packB (thinN b) ++ (packB t.2.2.2.2.length ++ t.2.2.2.2.flatMap codeO))))) := by
    intro b
    have h4 := h4 b
    rw [roomS_ok (by unfold app; simp only [List.length_append]; omega) (by omega), br_true, roomS_ok (by unfold app; simp only [List.length_append]; omega) (by omega), br_true]
    refine (rtocode_l k t h.each hs.ops (by omega) hk hk2 k 0 _ (by omega) (by omega) (by unfold app; simp only [List.length_append]; omega)).trans ?_
    rw [List.drop_zero]; unfold app; simp only [List.append_assoc]
  rw [z16.f_eq, rdcode_is k h.dot, packI_is (n := t.2.1) (by omega), packI_is (n := t.2.2.1) (by omega), packI_is (n := ilen t.2.2.2.2) (by unfold ilen; omega), e, q1, q0]
  unfold codeTx
  simp only [bnd_some]
  rw [roomS_ok (by omega) (by omega), br_true, roomS_ok (by unfold app; simp only [List.length_append]; omega) (by omega), br_true]
  cases t.2.2.2.1 with
  | true => rw [br_true]; exact key true
  | false => rw [br_false]; exact key false
theorem rtlcode_l (k:Nat) (l:List Txn) (hr:∀ t ∈ l,OkT k t) (hs:∀ t ∈ l,ShortT t) (hl:l.length≤20) (hk:5000<k) (hk2:k<1000000):∀ (n i:Nat) (x:List UInt8),i≤l.length→l.length<n+i→x.length≤100+130000 * i→z10.l3 k n l x (i:Int)=some (x++(l.drop i).flatMap codeTx)
 | 0,i,_,h,h',_=>by omega
 | n+1,i,x,h,h',hx=>by
  rw [z10.l3_eq,ilt_nat,inL_nat,natOf_nat]
  by_cases hi:i<l.length
  ·have hd:=hr l[i] (List.getElem_mem hi)
   have hsd:=hs l[i] (List.getElem_mem hi)
   have hp:=codeTx_le hd hsd
   have e4:iadd .i64 (i:Int) 1=((i+1:Nat):Int):=iadd_nat (by omega)
   have ed:l.drop i=l[i]::l.drop (i+1):=List.drop_eq_getElem_cons hi
   rw [decide_eq_true hi,rd_at' (e:=tTxn) hi,rtxcode_is k hd hsd hk hk2,e4,ed,List.flatMap_cons]
   simp only [br_true,bnd_some]
   rw [roomS_ok (by omega) (by omega),br_true]
   refine (rtlcode_l k l hr hs hl hk hk2 n (i+1) _ (by omega) (by omega) (by unfold app;rw [List.length_append];omega)).trans ?_
   unfold app;rw [List.append_assoc]
  ·have e0:l.drop i=[]:=List.drop_eq_nil_of_le (by omega)
   rw [decide_eq_false hi,br_false,e0];simp
theorem rtlcode_is (k:Nat) {l:List Txn} (hr:∀ t ∈ l,OkT k t) (hs:∀ t ∈ l,ShortT t) (hl:l.length≤20) (hk:5000<k) (hk2:k<1000000):z10.f k l=some (codeTL l):=by
 have e:(ilen l).toNat=l.length:=rfl
 have hp:=packB_le (n:=l.length) (by omega)
 rw [z10.f_eq,packI_is (n:=ilen l) (by unfold ilen;omega),e,bnd_some]
 exact rtlcode_l k l hr hs hl hk hk2 k 0 _ (by omega) (by omega) (by omega)
theorem rtcode_l (k:Nat) (l:List Undo) (hr:∀ u ∈ l,rightU u=true) (hl:l.length<1000000):∀ (n i:Nat) (x:List UInt8),i≤l.length→l.length<n+i→x.length≤100+24 * i→z1v.l3 k n l x (i:Int)=some (x++(l.drop i).flatMap codeU)
 | 0,i,_,h,h',_=>by omega
 | n+1,i,x,h,h',hx=>by
  rw [z1v.l3_eq,ilt_nat,inL_nat,natOf_nat]
  by_cases hi:i<l.length
  ·have hd:=hr l[i] (List.getElem_mem hi)
   obtain ⟨hd1,hd2,hd3⟩:=(rightU_iff _).1 hd
   have hp:=codeU_le hd
   have hp1:=codeD_le hd1
   have hp2:=packB_le (n:=l[i].2.toNat) (by omega)
   have e4:iadd .i64 (i:Int) 1=((i+1:Nat):Int):=iadd_nat (by omega)
   have ed:l.drop i=l[i]::l.drop (i+1):=List.drop_eq_getElem_cons hi
   rw [decide_eq_true hi,rd_at' (e:=tUndo) hi,rdcode_is k hd1,packI_is (n:=l[i].2) (by omega),e4,ed,List.flatMap_cons]
   simp only [br_true,bnd_some]
   rw [roomS_ok (by omega) (by omega),br_true,roomS_ok (by unfold app;rw [List.length_append];omega) (by omega),br_true]
   have ea:app (app x (codeD l[i].1)) (packB l[i].2.toNat)=x++codeU l[i]:=by unfold app codeU;rw [List.append_assoc]
   rw [ea]
   refine (rtcode_l k l hr hl n (i+1) _ (by omega) (by omega) (by rw [List.length_append];omega)).trans ?_
   rw [List.append_assoc]
  ·have e0:l.drop i=[]:=List.drop_eq_nil_of_le (by omega)
   rw [decide_eq_false hi,br_false,e0];simp
theorem rtcode_is (k:Nat) {l:List Undo} (hr:∀ u ∈ l,rightU u=true) (hl:l.length<k) (hk:k<1000000):z1v.f k l=some (codeT l):=by
 have e:(ilen l).toNat=l.length:=rfl
 have hp:=packB_le (n:=l.length) (by omega)
 rw [z1v.f_eq,packI_is (n:=ilen l) (by unfold ilen;omega),e,bnd_some]
 exact rtcode_l k l hr (by omega) k 0 _ (by omega) (by omega) (by omega)
theorem rlcode_l (k:Nat) (l:List Dot) (hr:∀ d ∈ l,rightD d=true) (hl:l.length<1000000):∀ (n i:Nat) (x:List UInt8),i≤l.length→l.length<n+i→x.length≤100+16 * i→z17.l3 k n l x (i:Int)=some (x++(l.drop i).flatMap codeD)
 | 0,i,_,h,h',_=>by omega
 | n+1,i,x,h,h',hx=>by
  rw [z17.l3_eq,ilt_nat,inL_nat,natOf_nat]
  by_cases hi:i<l.length
  ·have hd:=hr l[i] (List.getElem_mem hi)
   have hp:=codeD_le hd
   have e4:iadd .i64 (i:Int) 1=((i+1:Nat):Int):=iadd_nat (by omega)
   have ed:l.drop i=l[i]::l.drop (i+1):=List.drop_eq_getElem_cons hi
   rw [decide_eq_true hi,rd_at' (e:=tDot) hi,rdcode_is k hd,e4,ed,List.flatMap_cons]
   simp only [br_true,bnd_some]
   rw [roomS_ok (by omega) (by omega),br_true]
   refine (rlcode_l k l hr hl n (i+1) _ (by omega) (by omega) (by unfold app;rw [List.length_append];omega)).trans ?_
   unfold app;rw [List.append_assoc]
  ·have e0:l.drop i=[]:=List.drop_eq_nil_of_le (by omega)
   rw [decide_eq_false hi,br_false,e0];simp
theorem rlcode_is (k:Nat) {l:List Dot} (hr:∀ d ∈ l,rightD d=true) (hl:l.length<k) (hk:k<1000000):z17.f k l=some (codeL l):=by
 have e:(ilen l).toNat=l.length:=rfl
 have hp:=packB_le (n:=l.length) (by omega)
 rw [z17.f_eq,packI_is (n:=ilen l) (by unfold ilen;omega),e,bnd_some]
 exact rlcode_l k l hr (by omega) k 0 _ (by omega) (by omega) (by omega)
theorem rdlcode_is (k:Nat) {d:Dlt} (sh:ShortD d) (hr:RightDl k d) (hk:5000<k) (hk2:k<1000000):z0Q.f k d=some (codeDl d):=by
 have ho:=hr.ok sh.each (by omega) hk2
 have l1:=codeTL_le ho sh.each sh.tx
 have l2:=codeT_le hr.un.rt sh.un (by omega)
 have l3:=codeL_le hr.se (by have:=sh.se;omega)
 have hun:=sh.un;have hse:=sh.se
 rw [z0Q.f_eq,rtlcode_is k ho sh.each sh.tx hk hk2,rtcode_is k hr.un.rt (by omega) hk2,rlcode_is k hr.se (by omega) hk2]
 simp only [bnd_some]
 rw [roomS_ok (by omega) (by omega),br_true,roomS_ok (by unfold app;rw [List.length_append];omega) (by omega),br_true]
 unfold app codeDl;simp only [List.append_assoc]
end Go.Proofs.YtggcagclpkhlhaaGreatDoor
end
noncomputable section
/- Chapter 23's example: it is as it is told. -/
namespace Go.Proofs.YtggcagclpkhlhaaGreatDoor
open Pal
set_option maxRecDepth 1000000 in
theorem z0T.is (k:Nat):z0T.f (k+60)=some true:=by kernel_rfl
theorem awake23 {k:Nat} (h:60≤k):z0T.f k=some true:=by
 obtain ⟨q,rfl⟩:∃ q,k=q+60:=⟨k - 60,by omega⟩
 exact z0T.is q
end Go.Proofs.YtggcagclpkhlhaaGreatDoor
end
noncomputable section
/- The plain law: the run of RecordReads answers true for every input. -/
namespace Go.Proofs.YtggcagclpkhlhaaGreatDoor
open Pal
theorem seq_self (s:List UInt8):seq s s=true:=by unfold seq;exact beq_self_eq_true s
theorem recordReads_core (k:Nat) (hk:6000≤k) (hk2:k<1000000) (s:List UInt8) (hs:s.length≤600) (a1:Ty.D tDelta) :
  (bnd (z1C.f k s) fun r18 =>
  bnd (z0e.f k r18.2) fun r19 =>
  bnd (z0q.f k (s,(0,0))) fun r20 =>
  bnd (z0p.f k r19.1 r20.1) fun r21 =>
  br (bnot r21)
   (some false)
   (bnd (z09.f k r19.2) fun r22 =>
   br (bnot (ieq r22.1 r20.2.2.2))
    (some false)
    (bnd (z0d.f k r22.2) fun r23 =>
    bnd (z0a.f k r20.2) fun r24 =>
    br (bnot (ieq r23.1 r24.1))
     (some false)
     (bnd (z0i.f k a1) fun r25 =>
     br (bnot r25)
      (bnd (z0T.f k) fun r26 =>
      some r26)
      (bnd (z0j.f k a1) fun r27 =>
      br (bnot r27)
       (bnd (z0T.f k) fun r28 =>
       some r28)
       (bnd (z0y.f k a1) fun r29 =>
       bnd (z1C.f k r29) fun r30 =>
       bnd (z0Q.f k a1) fun r31 =>
       br (seq r29 r31)
        (bnd (z0e.f k r30.2) fun r32 =>
        bnd (z0p.f k r32.1 a1) fun r33 =>
        br r33
         (bnd (z0o.f k r32.2) fun r34 =>
         br (ieq r34.1 0)
          (bnd (z0T.f k) fun r35 =>
          some r35)
          (some false))
         (some false))
        (some false)))))))=some true:=by
 have aw:z0T.f k=some true:=awake23 (by omega)
 have bt:bnot true=false:=rfl
 have bf:bnot false=true:=rfl
 obtain ⟨d,r1,x1,e1,e2,h1,ld,dt⟩:=rdl_is k s _ _ (open_rr s) (by omega) (by omega) hk2
 obtain ⟨n1,f1,f2⟩:=left_is k s r1 x1 h1 (by omega)
 rw [z1C.f_eq]
 simp only [bnd_some]
 rw [e1,e2]
 simp only [bnd_some]
 rw [rsameD_is k d ld (fun t ht=>(dt t ht).len) (by omega) hk2]
 simp only [bnd_some,bt,br_false,fault_is,f1,f2,ieq_dec,h1.bad,decide_true]
 obtain ⟨b,g1,i1⟩:=rshortDl_is k a1 (by omega) hk2
 rw [g1]
 simp only [bnd_some]
 cases b with
 | false=>rw [bf,br_true,aw];rfl
 | true =>
 have sh:=i1 rfl
 have s1:=sh.un;have s2:=sh.se
 obtain ⟨c,q1,q2⟩:=rrightDl_is k a1 sh.each (by omega) (by omega) (by omega) hk2
 rw [bt,br_false,q1]
 simp only [bnd_some]
 cases c with
 | false=>rw [bf,br_true,aw];rfl
 | true =>
 have hr:=q2.1 rfl
 obtain ⟨c1,c2⟩:=dlcode_is k sh hr (by omega) hk2
 have c3:=rdlcode_is k sh hr (by omega) hk2
 have c4:=back_dl k [] sh hr (by omega) hk2 (by rw [List.append_nil];omega)
 rw [List.append_nil] at c4
 rw [bt,br_false,c1]
 simp only [bnd_some]
 rw [z1C.f_eq]
 simp only [bnd_some]
 rw [c3]
 simp only [bnd_some]
 rw [seq_self,br_true,c4]
 simp only [bnd_some]
 rw [rsameD_is k a1 sh.len (fun t ht=>(sh.each t ht).lenT (by omega)) (by omega) hk2]
 simp only [bnd_some,br_true]
 rw [endz_is]
 simp only [bnd_some,decide_true,br_true,aw]
theorem recordReads_true (s:Ty.D .str) (_:Fits .str s) (a1:Ty.D tDelta) (_:Fits tDelta a1):∃ k,z07.f k s a1=some true:=by
 refine ⟨6000,?_⟩
 rw [z07.f_eq]
 have e:ilt 600 (ilen s)=decide (600<List.length s):=by unfold ilt ilen;exact decide_eq_decide.2 ⟨fun h=>by omega,fun h=>by omega⟩
 rw [e]
 by_cases hs:600<List.length s
 ·rw [decide_eq_true hs,br_true]
  have hin:inS 0 600 (ilen s)=true:=by
   have:(600:Int)≤(List.length s:Int):=by omega
   show (decide ((0:Int)≤0) && decide ((0:Int)≤600) && decide ((600:Int)≤(List.length s:Int)))=true
   rw [decide_eq_true this];rfl
  rw [hin,br_true]
  exact recordReads_core 6000 (by decide) (by decide) (piece s 0 600) (by unfold piece;rw [List.length_drop,List.length_take];omega) a1
 ·rw [decide_eq_false hs,br_false]
  exact recordReads_core 6000 (by decide) (by decide) s (by omega) a1
end Go.Proofs.YtggcagclpkhlhaaGreatDoor
end
noncomputable section
/- The pinned tables of unicode/utf8, out of what a tied row lists. -/
namespace Go.Proofs.YtggcagclpkhlhaaGreatDoor
open Go Go.Proofs Go.Lib
open Pal
theorem tabs_reads {W : World} (h3 : VarReads Tryz.prog W "unicode/utf8.first" firstData) (h4 : VarReads Tryz.prog W "unicode/utf8.acceptRanges" acceptData) : MonoC.tab (img W) := by
 have h:=utf8Tabs_of_readsT (U8Types.of260 { laysU8 with }) u8Extra h3 h4
 exact ⟨h.1,h.2⟩
end Go.Proofs.YtggcagclpkhlhaaGreatDoor
end
