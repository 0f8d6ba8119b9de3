/- The functions that the statement reaches, and what they come to. Part 5. -/
import Derived.KernelRfl
import Derived.PinnedBridge
import Derived.Lib.LaidU8T
import Derived.MakeChecks
import Derived.Test.YtggcagclpkhlhaaGreatDoorFw1
import Derived.Test.YtggcagclpkhlhaaGreatDoorFw2
import Derived.Test.YtggcagclpkhlhaaGreatDoorFw3
import Derived.Test.YtggcagclpkhlhaaGreatDoorRecA1
import Derived.Test.YtggcagclpkhlhaaGreatDoorRecA2
import Derived.Test.YtggcagclpkhlhaaGreatDoorRecA3
import Derived.Test.YtggcagclpkhlhaaGreatDoorRecA4
set_option linter.unusedVariables false
set_option linter.unusedSimpArgs false
set_option linter.unusedSectionVars false
noncomputable section
/- What is told of operations is read again. -/
namespace Go.Proofs.YtggcagclpkhlhaaGreatDoor
open Pal
theorem path_len (k:Nat) (p:List Str) (h:z1T.f k p=some 0):p.length≤8:=by
 rw [z1T.f_eq,show ilt 8 (ilen p)=decide (8<p.length) from ilt_lenR 8 p] at h
 generalize ieq (ilen p) 0=q at h
 cases q with
 | true=>rw [br_true] at h;cases h
 | false =>
  rw [br_false] at h
  by_cases h1:8<p.length
  ·rw [decide_eq_true h1,br_true] at h;cases h
  ·omega
theorem refs_ok (k:Nat) (l:List (Dot × Int)) (h3:3≤k) (hl:l.length<1000000):∀ (n i:Nat),i≤l.length→l.length<n+i→z2R.l2 k n l l (ilen l) (i:Int)=some true→∀ u ∈ l.drop i,rightD u.1=true∧0≤u.2∧u.2<16
 | 0,i,_,h,_=>by omega
 | n+1,i,h,h',hb=>by
  rw [z2R.l2_eq,ilt_nat,inL_nat,natOf_nat] at hb
  by_cases hi:i<l.length
  ·rw [decide_eq_true hi,rd_at' (e:=tUndo) hi,right_is,iadd_nat (by omega)] at hb
   simp only [br_true,bnd_some] at hb
   rw [List.drop_eq_getElem_cons hi]
   have bt:bnot true=false:=rfl
   have bf:bnot false=true:=rfl
   cases hr:rightD l[i].1 with
   | false=>rw [hr,bf,br_true] at hb;cases hb
   | true =>
    rw [hr,bt,br_false,show ilt l[i].2 0=decide (l[i].2<0) from rfl,show ile 16 l[i].2=decide (16≤l[i].2) from rfl] at hb
    by_cases h0:l[i].2<0
    ·rw [decide_eq_true h0,br_true] at hb;cases hb
    rw [decide_eq_false h0,br_false] at hb
    by_cases h16:16≤l[i].2
    ·rw [decide_eq_true h16,br_true] at hb;cases hb
    rw [decide_eq_false h16,br_false,show ilt 0 (i:Int)=decide (0<i) from ilt_nn 0 i] at hb
    have hnext:z2R.l2 k n l l (ilen l) ((i+1:Nat):Int)=some true:=by
     by_cases hp:0<i
     ·have hi1:i - 1<l.length:=by omega
      have e3:isub .i64 (i:Int) 1=((i - 1:Nat):Int):=by rw [isub_s (by omega) (by omega) (by omega) (by omega)];omega
      rw [decide_eq_true hp,br_true,e3,inL_nat,natOf_nat,rd_at' (e:=tUndo) hi1,decide_eq_true hi1,br_true,ref_is k _ _ h3,bnd_some] at hb
      cases hq:ile 0 (cmpR l[i - 1] l[i]) with
      | true=>rw [hq,br_true] at hb;cases hb
      | false=>rw [hq,br_false] at hb;exact hb
     ·rw [decide_eq_false hp,br_false] at hb;exact hb
    intro u hu
    rcases List.mem_cons.1 hu with rfl | hu
    ·exact ⟨hr,by omega,by omega⟩
    ·exact refs_ok k l h3 hl n (i+1) (by omega) (by omega) hnext u hu
  ·rw [List.drop_eq_nil_of_le (by omega)]
   intro u hu;simp at hu
structure OkO (k:Nat) (o:Op):Prop where
 kind:o.1=1∨o.1=2∨o.1=3∨o.1=4∨o.1=5
 chk:z2y.f k o=some 0
 path:z1T.f k o.2.1=some 0
 val0:o.1=3∨o.1=5→o.2.2.1=(0,(0,[]))
 valr:o.1=1∨o.1=2∨o.1=4→z15.f k o.2.2.1=some true
 amt0:o.1 ≠ 3→o.2.2.2.1=0
 amt3:-2147483647≤o.2.2.2.1∧o.2.2.2.1≤2147483647
 seen0:o.1=2∨o.1=3→o.2.2.2.2=[]
 seen:o.2.2.2.2.length≤256∧∀ u ∈ o.2.2.2.2,rightD u.1=true∧0≤u.2∧u.2<16
theorem nil_of {l:List (Dot × Int)} (h:ilt 0 (ilen l)=false):l=[]:=by
 rw [show ilt 0 (ilen l)=decide (0<l.length) from ilt_lenR 0 l] at h
 have:=of_decide_eq_false h
 exact List.eq_nil_of_length_eq_zero (by omega)
set_option maxHeartbeats 4000000 in
theorem op_ok (k:Nat) (o:Op) (so:SizO k o) (hk:10<k) (hk2:k<1000000) (h:z2y.f k o=some 0):OkO k o:=by
 have hsave:=h
 obtain ⟨e1,p1,p2⟩:=path_is k o.2.1 so.path hk hk2 so.names
 obtain ⟨b1,v1,v2⟩:=val_is k o.2.2.1 hk so.val hk2
 obtain ⟨b2,r1,r2⟩:=refs_is k o.2.2.2.2 (by omega) so.seen hk2
 have hsl:=so.seen
 rw [z2y.f_eq,z2b.f_eq,z2q.f_eq,p1,v1,r1] at h
 have bt:bnot true=false:=rfl
 have bf:bnot false=true:=rfl
 obtain ⟨K,P,V,A,S⟩:=o
 simp only at h p1 v1 r1 hsl
 by_cases h1:K<1
 ·rw [show ilt K 1=true from decide_eq_true h1,br_true] at h;cases h
 by_cases h5:5<K
 ·rw [show ilt K 1=false from decide_eq_false h1,show ilt 5 K=true from decide_eq_true h5,br_false,br_true] at h;cases h
 rw [show ilt K 1=false from decide_eq_false h1,show ilt 5 K=false from decide_eq_false h5,br_false,br_false,bnd_some] at h
 have he:e1=0:=by
  apply Classical.byContradiction
  intro hne
  rw [ieq_dec,decide_eq_false hne,bf,br_true] at h
  injection h with h;exact hne h
 subst he
 rw [show ieq (0:Int) 0=true from rfl,bt,br_false] at h
 have refsOK:b2=true→∀ u ∈ S,rightD u.1=true∧0≤u.2∧u.2<16:=by
  intro hb;subst hb
  rw [z2R.f_eq] at r1
  have:=refs_ok k S (by omega) (by omega) k 0 (by omega) (by omega) r1
  rwa [List.drop_zero] at this
 have seenOK:b2=true→ilt 256 (ilen S)=false→S.length≤256∧∀ u ∈ S,rightD u.1=true∧0≤u.2∧u.2<16:=by
  intro hb hl
  rw [show ilt 256 (ilen S)=decide (256<S.length) from ilt_lenR 256 S] at hl
  have:=of_decide_eq_false hl
  exact ⟨by omega,refsOK hb⟩
 have aOK:ieq A 0=true→A=0:=fun h=>by rw [ieq_dec] at h;exact of_decide_eq_true h
 have vOK:deq tValue V (0,(0,[]))=true→V=(0,(0,[])):=fun h=>by rw [deqVal] at h;exact of_decide_eq_true h
 clear p2 v2 r2 so hsl r1
 have hK:K=1∨K=2∨K=3∨K=4∨K=5:=by omega
 rcases hK with rfl | rfl | rfl | rfl | rfl
 ·simp only [show ieq (1:Int) 1=true from rfl,show ieq (1:Int) 2=false from rfl,show ieq (1:Int) 3=false from rfl,show ieq (1:Int) 4=false from rfl,show ieq (1:Int) 5=false from rfl,br_true,br_false,bt,bf,bnd_some] at h
  cases b1 with
  | false=>exact absurd h (by intro h;cases h)
  | true =>
  generalize hA:ieq A 0=qa at h
  cases qa with
  | false=>exact absurd h (by intro h;cases h)
  | true =>
  generalize hS:ilt 256 (ilen S)=qs at h
  cases qs with
  | true=>exact absurd h (by intro h;cases h)
  | false =>
  cases b2 with
  | false=>exact absurd h (by intro h;cases h)
  | true =>
  have a0:=aOK hA
  exact ⟨.inl rfl,hsave,p1,fun h=>(by rcases h with h | h <;> cases h),fun _=>v1,fun _=>a0,by show -2147483647≤A∧A≤2147483647;omega,fun h=>(by rcases h with h | h <;> cases h),seenOK rfl hS⟩
 ·simp only [show ieq (2:Int) 1=false from rfl,show ieq (2:Int) 2=true from rfl,show ieq (2:Int) 3=false from rfl,show ieq (2:Int) 4=false from rfl,show ieq (2:Int) 5=false from rfl,br_true,br_false,bt,bf,bnd_some] at h
  cases b1 with
  | false=>exact absurd h (by intro h;cases h)
  | true =>
  generalize hA:ieq A 0=qa at h
  cases qa with
  | false=>exact absurd h (by intro h;cases h)
  | true =>
  generalize hS:ilt 0 (ilen S)=qs at h
  cases qs with
  | true=>exact absurd h (by intro h;cases h)
  | false =>
  have a0:=aOK hA
  have s0:=nil_of hS
  exact ⟨.inr (.inl rfl),hsave,p1,fun h=>(by rcases h with h | h <;> cases h),fun _=>v1,fun _=>a0,by show -2147483647≤A∧A≤2147483647;omega,fun _=>s0,by show S.length≤256∧_;rw [s0];exact ⟨by simp,fun u hu=>by simp at hu⟩⟩
 ·simp only [show ieq (3:Int) 1=false from rfl,show ieq (3:Int) 2=false from rfl,show ieq (3:Int) 3=true from rfl,show ieq (3:Int) 4=false from rfl,show ieq (3:Int) 5=false from rfl,br_true,br_false,bt,bf,bnd_some] at h
  generalize hV:deq tValue V (0,(0,[]))=qv at h
  cases qv with
  | false=>exact absurd h (by intro h;cases h)
  | true =>
  generalize hA:ieq A 0=qa at h
  cases qa with
  | true=>exact absurd h (by intro h;cases h)
  | false =>
  generalize hA1:ile (-2147483647) A=q1 at h
  cases q1 with
  | false=>exact absurd h (by intro h;cases h)
  | true =>
  generalize hA2:ile A 2147483647=q2 at h
  cases q2 with
  | false=>exact absurd h (by intro h;cases h)
  | true =>
  generalize hS:ilt 0 (ilen S)=qs at h
  cases qs with
  | true=>exact absurd h (by intro h;cases h)
  | false =>
  have v0:=vOK hV
  have s0:=nil_of hS
  have a1:-2147483647≤A:=of_decide_eq_true hA1
  have a2:A≤2147483647:=of_decide_eq_true hA2
  exact ⟨.inr (.inr (.inl rfl)),hsave,p1,fun _=>v0,fun h=>(by rcases h with h | h | h <;> cases h),fun h=>absurd rfl h,⟨a1,a2⟩,fun _=>s0,by show S.length≤256∧_;rw [s0];exact ⟨by simp,fun u hu=>by simp at hu⟩⟩
 ·simp only [show ieq (4:Int) 1=false from rfl,show ieq (4:Int) 2=false from rfl,show ieq (4:Int) 3=false from rfl,show ieq (4:Int) 4=true from rfl,show ieq (4:Int) 5=false from rfl,br_true,br_false,bt,bf,bnd_some] at h
  cases b1 with
  | false=>exact absurd h (by intro h;cases h)
  | true =>
  generalize hA:ieq A 0=qa at h
  cases qa with
  | false=>exact absurd h (by intro h;cases h)
  | true =>
  generalize hS:ilt 256 (ilen S)=qs at h
  cases qs with
  | true=>exact absurd h (by intro h;cases h)
  | false =>
  cases b2 with
  | false=>exact absurd h (by intro h;cases h)
  | true =>
  have a0:=aOK hA
  exact ⟨.inr (.inr (.inr (.inl rfl))),hsave,p1,fun h=>(by rcases h with h | h <;> cases h),fun _=>v1,fun _=>a0,by show -2147483647≤A∧A≤2147483647;omega,fun h=>(by rcases h with h | h <;> cases h),seenOK rfl hS⟩
 ·simp only [show ieq (5:Int) 1=false from rfl,show ieq (5:Int) 2=false from rfl,show ieq (5:Int) 3=false from rfl,show ieq (5:Int) 4=false from rfl,show ieq (5:Int) 5=true from rfl,br_true,br_false,bt,bf,bnd_some] at h
  generalize hV:deq tValue V (0,(0,[]))=qv at h
  cases qv with
  | false=>exact absurd h (by intro h;cases h)
  | true =>
  generalize hA:ieq A 0=qa at h
  cases qa with
  | false=>exact absurd h (by intro h;cases h)
  | true =>
  generalize hS:ilt 256 (ilen S)=qs at h
  cases qs with
  | true=>exact absurd h (by intro h;cases h)
  | false =>
  cases b2 with
  | false=>exact absurd h (by intro h;cases h)
  | true =>
  have a0:=aOK hA
  have v0:=vOK hV
  exact ⟨.inr (.inr (.inr (.inr rfl))),hsave,p1,fun _=>v0,fun h=>(by rcases h with h | h | h <;> cases h),fun _=>a0,by show -2147483647≤A∧A≤2147483647;omega,fun h=>(by rcases h with h | h <;> cases h),seenOK rfl hS⟩
def goneO:Op:=(0,([],((0,(0,[])),(0,[]))))
theorem gone_val {k:Nat} {o:Op} (h:z2Q.f k o=some true):o=goneO:=by
 rw [z2Q.f_eq,ieq_dec,ieq0,deqVal,ieq_dec,ieq0] at h
 obtain ⟨K,P,V,A,S⟩:=o
 simp only at h
 by_cases h1:K=0
 case neg=>rw [decide_eq_false h1,br_false] at h;cases h
 rw [decide_eq_true h1,br_true] at h
 by_cases h2:P.length=0
 case neg=>rw [decide_eq_false h2,br_false] at h;cases h
 rw [decide_eq_true h2,br_true] at h
 by_cases h3:V=(0,(0,[]))
 case neg=>rw [decide_eq_false h3,br_false] at h;cases h
 rw [decide_eq_true h3,br_true] at h
 by_cases h4:A=0
 case neg=>rw [decide_eq_false h4,br_false] at h;cases h
 rw [decide_eq_true h4,br_true] at h
 injection h with h
 have h5:=of_decide_eq_true h
 rw [h1,List.eq_nil_of_length_eq_zero h2,h3,h4,List.eq_nil_of_length_eq_zero h5];rfl
def codeTl (o:Op):List UInt8 :=
 if o.1=3 then packB (foldN o.2.2.2.1) else if o.1=2 then codeVal o.2.2.1 else if o.1=5 then codeT o.2.2.2.2 else codeVal o.2.2.1++codeT o.2.2.2.2
def codeO (o:Op):List UInt8:=if o.1=0 then packB 0 else packB o.1.toNat++(codeP o.2.1++codeTl o)
theorem codeR_le {u:Undo} (h:rightD u.1=true∧0≤u.2∧u.2<16):(codeU u).length≤24:=by
 have:=codeD_le h.1
 have:=packB_le (n:=u.2.toNat) (by omega)
 unfold codeU;rw [List.length_append];omega
theorem codeRs_le {l:List Undo} (h:∀ u ∈ l,rightD u.1=true∧0≤u.2∧u.2<16) (hl:l.length≤256):(codeT l).length≤6152:=by
 have hp:=packB_le (n:=l.length) (by omega)
 have:=codes_le codeU 24 l (fun d hd=>codeR_le (h d hd))
 unfold codeT;rw [List.length_append];omega
theorem codeTl_le {k:Nat} {o:Op} (h:OkO k o) (hs:ShortO o):(codeTl o).length≤6400:=by
 obtain ⟨a,b⟩:=h.amt3
 have h1:=packB_le (foldN_le a b)
 have h2:=codeRs_le h.seen.2 h.seen.1
 have hv:=hs.val
 unfold codeTl
 by_cases c3:o.1=3
 ·rw [if_pos c3];omega
 rw [if_neg c3]
 by_cases c2:o.1=2
 ·have:=codeVal_le (val_ok k _ (h.valr (.inr (.inl c2)))) hv
  rw [if_pos c2];omega
 rw [if_neg c2]
 by_cases c5:o.1=5
 ·rw [if_pos c5];omega
 rw [if_neg c5,List.length_append]
 have:=codeVal_le (val_ok k _ (h.valr (by have:=h.kind;omega))) hv
 omega
theorem codeO_le {k:Nat} {o:Op} (h:o=goneO∨OkO k o) (hs:ShortO o):(codeO o).length≤8000:=by
 unfold codeO
 rcases h with rfl | h
 ·rw [if_pos (by rfl)];have:=packB_le (n:=0) (by omega);omega
 ·have h1:=codeTl_le h hs
  have h2:=codeP_le hs.path
  have h3:=packB_le (n:=o.1.toNat) (by have:=h.kind;omega)
  rw [if_neg (by have:=h.kind;omega),List.length_append,List.length_append];omega
theorem codeO_pos (o:Op):0<(codeO o).length:=by
 unfold codeO
 split
 ·exact packB_pos 0
 ·rw [List.length_append];have:=packB_pos o.1.toNat;omega
theorem rcode_l (k:Nat) (l:List Undo) (hr:∀ u ∈ l,rightD u.1=true∧0≤u.2∧u.2<16) (hl:l.length<1000000):∀ (n i:Nat) (x:List UInt8),i≤l.length→l.length<n+i→x.length≤10000+24 * i→z2O.l16 k n x l (ilen l) (i:Int)=some (x++(l.drop i).flatMap codeU)
 | 0,i,_,h,h',_=>by omega
 | n+1,i,x,h,h',hx=>by
  rw [z2O.l16_eq,ilt_nat,inL_nat,natOf_nat]
  by_cases hi:i<l.length
  ·have hd:=hr l[i] (List.getElem_mem hi)
   have hp:=codeR_le hd
   obtain ⟨hd1,hd2,hd3⟩:=hd
   have hp1:=codeD_le hd1
   have hp2:=packB_le (n:=l[i].2.toNat) (by omega)
   have e4:iadd .i64 (i:Int) 1=((i+1:Nat):Int):=iadd_nat (by omega)
   have ed:l.drop i=l[i]::l.drop (i+1):=List.drop_eq_getElem_cons hi
   rw [decide_eq_true hi,rd_at' (e:=tUndo) hi,dcode_is k hd1,packI_is (n:=l[i].2) (by omega),e4,ed,List.flatMap_cons]
   simp only [br_true,bnd_some]
   rw [roomS_ok (by omega) (by omega),br_true]
   have ea:app (codeD l[i].1) (packB l[i].2.toNat)=codeU l[i]:=rfl
   rw [ea,roomS_ok (by omega) (by omega),br_true]
   refine (rcode_l k l hr hl n (i+1) _ (by omega) (by omega) (by unfold app;rw [List.length_append];omega)).trans ?_
   unfold app;rw [List.append_assoc]
  ·have e0:l.drop i=[]:=List.drop_eq_nil_of_le (by omega)
   rw [decide_eq_false hi,br_false,e0];simp
theorem rcode_is (k:Nat) (x:List UInt8) {l:List Undo} (hr:∀ u ∈ l,rightD u.1=true∧0≤u.2∧u.2<16) (hl:l.length≤256) (hx:x.length≤9000) (hk:5000<k) (hk2:k<1000000) :
  (bnd (packI (ilen l)) fun r6=>br (roomS x r6) (z2O.l16 k k (app x r6) l (ilen l) 0) none)=some (x++codeT l):=by
 have e:(ilen l).toNat=l.length:=rfl
 have hp:=packB_le (n:=l.length) (by omega)
 rw [packI_is (n:=ilen l) (by unfold ilen;omega),e,bnd_some,roomS_ok (by omega) (by omega),br_true]
 refine (rcode_l k l hr (by omega) k 0 _ (by omega) (by omega) (by unfold app;rw [List.length_append];omega)).trans ?_
 rw [List.drop_zero];unfold app codeT;rw [List.append_assoc]
end Go.Proofs.YtggcagclpkhlhaaGreatDoor
end
noncomputable section
/- What is told of operations is read again: kind by kind. -/
namespace Go.Proofs.YtggcagclpkhlhaaGreatDoor
open Pal
theorem pI (n:Nat) (h:n<100):packI (n:Int)=some (packB n):=by rw [packI_is (n:=(n:Int)) (by omega),Int.toNat_natCast]
theorem ocode_0 (k:Nat):z2O.f k goneO=some (packB 0):=by
 have h0:packI 0=some (packB 0):=pI 0 (by decide)
 have e0:ieq (ilen ([]:List Undo)) 0=true:=rfl
 have e1:ieq (ilen ([]:List Str)) 0=true:=rfl
 have e2:deq tValue ((0,(0,[])):Val) (0,(0,[]))=true:=by rw [deqVal];exact decide_eq_true rfl
 rw [z2O.f_eq,z2Q.f_eq]
 unfold goneO
 simp only [h0,bnd_some,show ieq (0:Int) 0=true from rfl,e0,e1,e2,br_true]
section
variable (k:Nat) (hk:5000<k) (hk2:k<1000000) (P:List Str) (V:Val) (A:Int) (S:List Undo) (hP:ShortP P) (hv:V.2.2.length≤200)
include hk hk2 hP
theorem rooms (n:Nat) (hn:n<100):roomS (packB n) (codeP P)=true∧(app (packB n) (codeP P)).length≤2000:=by
 have h1:=packB_le (n:=n) (by omega)
 have h2:=codeP_le hP
 exact ⟨roomS_ok (by omega) (by omega),by unfold app;rw [List.length_append];omega⟩
theorem ocode_3 (h1:-2147483647≤A) (h2:A≤2147483647):z2O.f k (3,(P,(V,(A,S))))=some (packB 3++(codeP P++packB (foldN A))):=by
 have h0:packI 3=some (packB 3):=pI 3 (by decide)
 have hb:=foldN_le h1 h2
 have hpl:=packB_le hb
 have hf:packI ((foldN A:Nat):Int)=some (packB (foldN A)):=by rw [packI_is (n:=((foldN A:Nat):Int)) (by omega),Int.toNat_natCast]
 obtain ⟨r1,r2⟩:=rooms k hk hk2 P hP 3 (by decide)
 have r3:roomS (app (packB 3) (codeP P)) (packB (foldN A))=true:=roomS_ok (by omega) (by omega)
 rw [z2O.f_eq,z2Q.f_eq]
 simp only [h0,bnd_some,show ieq (3:Int) 0=false from rfl,show ieq (3:Int) 3=true from rfl,br_true,br_false,pcode_is k hP (by omega) hk2,r1,fold_is k A h1 h2,hf,r3]
 unfold app;rw [List.append_assoc]
include hv
theorem ocode_1 (hV:ValOK V) (hs:S.length≤256∧∀ u ∈ S,rightD u.1=true∧0≤u.2∧u.2<16):z2O.f k (1,(P,(V,(A,S))))=some (packB 1++(codeP P++(codeVal V++codeT S))):=by
 have h0:packI 1=some (packB 1):=pI 1 (by decide)
 have hvl:=codeVal_le hV hv
 obtain ⟨r1,r2⟩:=rooms k hk hk2 P hP 1 (by decide)
 have r3:roomS (app (packB 1) (codeP P)) (codeVal V)=true:=roomS_ok (by omega) (by omega)
 rw [z2O.f_eq,z2Q.f_eq]
 simp only [h0,bnd_some,show ieq (1:Int) 0=false from rfl,show ieq (1:Int) 1=true from rfl,show ieq (1:Int) 2=false from rfl,show ieq (1:Int) 3=false from rfl,br_true,br_false,pcode_is k hP (by omega) hk2,r1,vacode_is k hV hv,r3]
 refine (rcode_is k _ hs.2 hs.1 (by unfold app at r2 ⊢;rw [List.length_append];omega) hk hk2).trans ?_
 unfold app;simp only [List.append_assoc]
theorem ocode_4 (hV:ValOK V) (hs:S.length≤256∧∀ u ∈ S,rightD u.1=true∧0≤u.2∧u.2<16):z2O.f k (4,(P,(V,(A,S))))=some (packB 4++(codeP P++(codeVal V++codeT S))):=by
 have h0:packI 4=some (packB 4):=pI 4 (by decide)
 have hvl:=codeVal_le hV hv
 obtain ⟨r1,r2⟩:=rooms k hk hk2 P hP 4 (by decide)
 have r3:roomS (app (packB 4) (codeP P)) (codeVal V)=true:=roomS_ok (by omega) (by omega)
 rw [z2O.f_eq,z2Q.f_eq]
 simp only [h0,bnd_some,show ieq (4:Int) 0=false from rfl,show ieq (4:Int) 1=false from rfl,show ieq (4:Int) 2=false from rfl,show ieq (4:Int) 3=false from rfl,show ieq (4:Int) 4=true from rfl,br_true,br_false,pcode_is k hP (by omega) hk2,r1,vacode_is k hV hv,r3]
 refine (rcode_is k _ hs.2 hs.1 (by unfold app at r2 ⊢;rw [List.length_append];omega) hk hk2).trans ?_
 unfold app;simp only [List.append_assoc]
theorem ocode_2 (hV:ValOK V):z2O.f k (2,(P,(V,(A,S))))=some (packB 2++(codeP P++codeVal V)):=by
 have h0:packI 2=some (packB 2):=pI 2 (by decide)
 have hvl:=codeVal_le hV hv
 obtain ⟨r1,r2⟩:=rooms k hk hk2 P hP 2 (by decide)
 have r3:roomS (app (packB 2) (codeP P)) (codeVal V)=true:=roomS_ok (by omega) (by omega)
 rw [z2O.f_eq,z2Q.f_eq]
 simp only [h0,bnd_some,show ieq (2:Int) 0=false from rfl,show ieq (2:Int) 1=false from rfl,show ieq (2:Int) 2=true from rfl,show ieq (2:Int) 3=false from rfl,br_true,br_false,pcode_is k hP (by omega) hk2,r1,vacode_is k hV hv,r3]
 unfold app;rw [List.append_assoc]
omit hv in
theorem ocode_5 (hs:S.length≤256∧∀ u ∈ S,rightD u.1=true∧0≤u.2∧u.2<16):z2O.f k (5,(P,(V,(A,S))))=some (packB 5++(codeP P++codeT S)):=by
 have h0:packI 5=some (packB 5):=pI 5 (by decide)
 obtain ⟨r1,r2⟩:=rooms k hk hk2 P hP 5 (by decide)
 rw [z2O.f_eq,z2Q.f_eq]
 simp only [h0,bnd_some,show ieq (5:Int) 0=false from rfl,show ieq (5:Int) 1=false from rfl,show ieq (5:Int) 2=false from rfl,show ieq (5:Int) 3=false from rfl,show ieq (5:Int) 4=false from rfl,br_true,br_false,pcode_is k hP (by omega) hk2,r1]
 refine (rcode_is k _ hs.2 hs.1 (by omega) hk hk2).trans ?_
 unfold app;simp only [List.append_assoc]
end
theorem ocode_is (k:Nat) {o:Op} (h:o=goneO∨OkO k o) (hs:ShortO o) (hk:5000<k) (hk2:k<1000000):z2O.f k o=some (codeO o):=by
 rcases h with rfl | h
 ·rw [ocode_0];rfl
 ·have hK:=h.kind
  have hvr:=h.valr;have hse:=h.seen;have hv:=hs.val;have hP:=hs.path;have ha:=h.amt3
  clear h hs
  obtain ⟨K,P,V,A,S⟩:=o
  simp only at hK hvr hse hv hP ha
  rcases hK with rfl | rfl | rfl | rfl | rfl
  ·exact ocode_1 k hk hk2 P V A S hP hv (val_ok k V (hvr (.inl rfl))) hse
  ·exact ocode_2 k hk hk2 P V A S hP hv (val_ok k V (hvr (.inr (.inl rfl))))
  ·exact ocode_3 k hk hk2 P V A S hP ha.1 ha.2
  ·exact ocode_4 k hk hk2 P V A S hP hv (val_ok k V (hvr (.inr (.inr rfl)))) hse
  ·exact ocode_5 k hk hk2 P V A S hP hse
theorem back_s3 (k:Nat) (h12:12<k) (N:Nat) (hN:N<1000000) (t:List UInt8):∀ (n i:Nat) (x l:List Undo),i+l.length=N→N<n+i→x.length=i→(∀ u ∈ l,rightD u.1=true∧0≤u.2∧u.2<16)→(l.flatMap codeU++t).length<4000000 →
  z2M.l3 k n x (N:Int) (i:Int) (l.flatMap codeU++t,0)=some (x++l,(t,0))
 | 0,i,_,_,h,h',_,_,_=>by omega
 | n+1,i,x,[],h,_,hx,_,_=>by
  have hi:N=i:=by simpa using h.symm
  subst hi
  rw [z2M.l3_eq,ilt_nn,decide_eq_false (Nat.lt_irrefl _)]
  simp only [br_false,List.append_nil,List.flatMap_nil,List.nil_append]
 | n+1,i,x,d::l,h,h',hx,hr,hS=>by
  simp only [List.length_cons] at h
  obtain ⟨hd1,hd2,hd3⟩:=hr d (by simp)
  have e4:iadd .i64 (i:Int) 1=((i+1:Nat):Int):=iadd_nat (by omega)
  have ea:(d::l).flatMap codeU++t=codeD d.1++(packB d.2.toNat++(l.flatMap codeU++t)):=by rw [List.flatMap_cons,codeU,List.append_assoc,List.append_assoc]
  rw [ea] at hS ⊢
  have hS2:(packB d.2.toNat++(l.flatMap codeU++t)).length<4000000:=by rw [List.length_append] at hS;omega
  have hS3:(l.flatMap codeU++t).length<4000000:=by rw [List.length_append] at hS2;omega
  rw [z2M.l3_eq,ilt_nn,decide_eq_true (show i<N by omega),back_dot k d.1 _ hd1 h12 hS,e4]
  simp only [br_true,bnd_some]
  rw [back_int k d.2.toNat _ h12 (by omega) hS2]
  simp only [bnd_some]
  rw [room1 (show x.length<4000000 by omega),br_true,Int.toNat_of_nonneg (by omega)]
  have:=back_s3 k h12 N hN t n (i+1) (app x (d::[])) l (by omega) (by omega) (by simp [app,hx]) (fun e he=>hr e (List.mem_cons_of_mem _ he)) hS3
  refine this.trans ?_
  simp [app]
theorem back_seen (k:Nat) (l:List Undo) (t:List UInt8) (hr:l.length≤256∧∀ u ∈ l,rightD u.1=true∧0≤u.2∧u.2<16) (hk:5000<k) (hk2:k<1000000) (hS:(codeT l++t).length<4000000) :
  z2M.f k (codeT l++t,0)=some (l,(t,0)):=by
 have hr1:=hr.1
 have ea:codeT l++t=packB l.length++(l.flatMap codeU++t):=by unfold codeT;rw [List.append_assoc]
 rw [ea] at hS ⊢
 have hS2:(l.flatMap codeU++t).length<4000000:=by rw [List.length_append] at hS;omega
 have hlen:=codes_len codeU codeU_pos l
 rw [z2M.f_eq,back_many k _ 256 _ (by omega) (by omega) (by omega) (by rw [List.length_append];omega) hS]
 simp only [bnd_some]
 exact back_s3 k (by omega) l.length (by omega) t k 0 [] l (by omega) (by omega) rfl hr.2 hS2
theorem oback_0 (k:Nat) (t:List UInt8) (hk:12<k) (hS:(packB 0++t).length<4000000):z2L.f k (packB 0++t,0)=some (goneO,(t,0)):=by
 have hb:z0y.f k (packB 0++t,0)=some (0,(t,0)):=back_int k 0 _ hk (by decide) hS
 rw [z2L.f_eq,hb,bnd_some,show ieq (0:Int) 0=true from rfl,br_true];rfl
section
variable (k:Nat) (P:List Str) (V:Val) (S:List Undo) (t X1 X2:List UInt8)
theorem oback_1 (hb:z0y.f k (X1,0)=some (1,(X2,0))) (X3 X4:List UInt8) (hp:z2d.f k (X2,0)=some (P,(X3,0))) (hv:z1J.f k (X3,0)=some (V,(X4,0))) (hs:z2M.f k (X4,0)=some (S,(t,0))) (hc:z2y.f k (1,(P,(V,(0,S))))=some 0) :
  z2L.f k (X1,0)=some ((1,(P,(V,(0,S)))),(t,0)):=by
 have bt:bnot true=false:=rfl
 rw [z2L.f_eq,hb,bnd_some,show ieq (1:Int) 0=false from rfl,br_false,hp,bnd_some,show ieq (1:Int) 3=false from rfl,br_false,show ieq (1:Int) 1=true from rfl,br_true,br_true,hv,bnd_some,hs,bnd_some]
 simp only [fault_is,bnd_some,show ieq (0:Int) 0=true from rfl,br_true,hc,fail_is,if_true,bt,br_false]
theorem oback_4 (hb:z0y.f k (X1,0)=some (4,(X2,0))) (X3 X4:List UInt8) (hp:z2d.f k (X2,0)=some (P,(X3,0))) (hv:z1J.f k (X3,0)=some (V,(X4,0))) (hs:z2M.f k (X4,0)=some (S,(t,0))) (hc:z2y.f k (4,(P,(V,(0,S))))=some 0) :
  z2L.f k (X1,0)=some ((4,(P,(V,(0,S)))),(t,0)):=by
 have bt:bnot true=false:=rfl
 rw [z2L.f_eq,hb,bnd_some,show ieq (4:Int) 0=false from rfl,br_false,hp,bnd_some,show ieq (4:Int) 3=false from rfl,br_false,show ieq (4:Int) 1=false from rfl,br_false,show ieq (4:Int) 4=true from rfl,br_true,hv,bnd_some,hs,bnd_some]
 simp only [fault_is,bnd_some,show ieq (0:Int) 0=true from rfl,br_true,hc,fail_is,if_true,bt,br_false]
theorem oback_2 (hb:z0y.f k (X1,0)=some (2,(X2,0))) (X3:List UInt8) (hp:z2d.f k (X2,0)=some (P,(X3,0))) (hv:z1J.f k (X3,0)=some (V,(t,0))) (hc:z2y.f k (2,(P,(V,(0,[]))))=some 0) :
  z2L.f k (X1,0)=some ((2,(P,(V,(0,[])))),(t,0)):=by
 have bt:bnot true=false:=rfl
 rw [z2L.f_eq,hb,bnd_some,show ieq (2:Int) 0=false from rfl,br_false,hp,bnd_some,show ieq (2:Int) 3=false from rfl,br_false,show ieq (2:Int) 1=false from rfl,br_false,show ieq (2:Int) 4=false from rfl,br_false,show ieq (2:Int) 2=true from rfl,br_true,hv,bnd_some]
 simp only [fault_is,bnd_some,show ieq (0:Int) 0=true from rfl,br_true,hc,fail_is,if_true,bt,br_false]
theorem oback_3 (A m:Int) (hb:z0y.f k (X1,0)=some (3,(X2,0))) (X3:List UInt8) (hp:z2d.f k (X2,0)=some (P,(X3,0))) (hv:z0y.f k (X3,0)=some (m,(t,0))) (hu:z0N.f k m=some A) (hc:z2y.f k (3,(P,((0,(0,[])),(A,[]))))=some 0) :
  z2L.f k (X1,0)=some ((3,(P,((0,(0,[])),(A,[])))),(t,0)):=by
 have bt:bnot true=false:=rfl
 rw [z2L.f_eq,hb,bnd_some,show ieq (3:Int) 0=false from rfl,br_false,hp,bnd_some,show ieq (3:Int) 3=true from rfl,br_true,hv,bnd_some,hu,bnd_some]
 simp only [fault_is,bnd_some,show ieq (0:Int) 0=true from rfl,br_true,hc,fail_is,if_true,bt,br_false]
theorem oback_5 (hb:z0y.f k (X1,0)=some (5,(X2,0))) (X3:List UInt8) (hp:z2d.f k (X2,0)=some (P,(X3,0))) (hs:z2M.f k (X3,0)=some (S,(t,0))) (hc:z2y.f k (5,(P,((0,(0,[])),(0,S))))=some 0) :
  z2L.f k (X1,0)=some ((5,(P,((0,(0,[])),(0,S)))),(t,0)):=by
 have bt:bnot true=false:=rfl
 rw [z2L.f_eq,hb,bnd_some,show ieq (5:Int) 0=false from rfl,br_false,hp,bnd_some,show ieq (5:Int) 3=false from rfl,br_false,show ieq (5:Int) 1=false from rfl,br_false,show ieq (5:Int) 4=false from rfl,br_false,show ieq (5:Int) 2=false from rfl,br_false,show ieq (5:Int) 5=true from rfl,br_true,hs,bnd_some]
 simp only [fault_is,bnd_some,show ieq (0:Int) 0=true from rfl,br_true,hc,fail_is,if_true,bt,br_false]
end
theorem back_op (k:Nat) {o:Op} (t:List UInt8) (h:o=goneO∨OkO k o) (hk:5000<k) (hk2:k<1000000) (hS:(codeO o++t).length<4000000):z2L.f k (codeO o++t,0)=some (o,(t,0)):=by
 rcases h with rfl | h
 ·exact oback_0 k t (by omega) hS
 ·have hK:=h.kind;have hvr:=h.valr;have hv0:=h.val0;have hse:=h.seen;have hp:=h.path;have ha:=h.amt3;have ha0:=h.amt0;have hs0:=h.seen0;have hc:=h.chk
  clear h
  obtain ⟨K,P,V,A,S⟩:=o
  simp only at hK hvr hv0 hse hp ha ha0 hs0 hc
  have pl:=path_len k P hp
  have i (n:Nat) (X:List UInt8) (hn:n<100) (hS:(packB n++X).length<4000000):=back_int k n X (by omega) (by omega) hS
  rcases hK with rfl | rfl | rfl | rfl | rfl
  ·have ea:codeO (1,(P,(V,(A,S))))++t=packB 1++(codeP P++(codeVal V++(codeT S++t))):=by
    show (packB 1++(codeP P++(codeVal V++codeT S)))++t=_
    simp only [List.append_assoc]
   have hA:A=0:=ha0 (by decide)
   subst hA
   rw [ea] at hS ⊢
   have s2:(codeP P++(codeVal V++(codeT S++t))).length<4000000:=by rw [List.length_append] at hS;omega
   have s3:(codeVal V++(codeT S++t)).length<4000000:=by rw [List.length_append] at s2;omega
   have s4:(codeT S++t).length<4000000:=by rw [List.length_append] at s3;omega
   exact oback_1 k P V S t _ _ (i 1 _ (by decide) hS) _ _ (back_path k P _ hp pl (by omega) hk2 s2) (back_val k _ (hvr (.inl rfl)) (by omega) s3) (back_seen k S t hse hk hk2 s4) hc
  ·have hA:A=0:=ha0 (by decide)
   have hS0:S=[]:=hs0 (.inl rfl)
   subst hA;subst hS0
   have ea:codeO (2,(P,(V,(0,[]))))++t=packB 2++(codeP P++(codeVal V++t)):=by
    show (packB 2++(codeP P++codeVal V))++t=_
    simp only [List.append_assoc]
   rw [ea] at hS ⊢
   have s2:(codeP P++(codeVal V++t)).length<4000000:=by rw [List.length_append] at hS;omega
   have s3:(codeVal V++t).length<4000000:=by rw [List.length_append] at s2;omega
   exact oback_2 k P V t _ _ (i 2 _ (by decide) hS) _ (back_path k P _ hp pl (by omega) hk2 s2) (back_val k _ (hvr (.inr (.inl rfl))) (by omega) s3) hc
  ·have hV:V=(0,(0,[])):=hv0 (.inl rfl)
   have hS0:S=[]:=hs0 (.inr rfl)
   subst hV;subst hS0
   have ea:codeO (3,(P,((0,(0,[])),(A,[]))))++t=packB 3++(codeP P++(packB (foldN A)++t)):=by
    show (packB 3++(codeP P++packB (foldN A)))++t=_
    simp only [List.append_assoc]
   rw [ea] at hS ⊢
   have s2:(codeP P++(packB (foldN A)++t)).length<4000000:=by rw [List.length_append] at hS;omega
   have s3:(packB (foldN A)++t).length<4000000:=by rw [List.length_append] at s2;omega
   have hb:=foldN_le ha.1 ha.2
   obtain ⟨u1,_⟩:=unfold_is k (foldN A) hb
   rw [unf_fold _ ha.1 ha.2] at u1
   exact oback_3 k P t _ _ A _ (i 3 _ (by decide) hS) _ (back_path k P _ hp pl (by omega) hk2 s2) (back_int k _ _ (by omega) hb s3) u1 hc
  ·have ea:codeO (4,(P,(V,(A,S))))++t=packB 4++(codeP P++(codeVal V++(codeT S++t))):=by
    show (packB 4++(codeP P++(codeVal V++codeT S)))++t=_
    simp only [List.append_assoc]
   have hA:A=0:=ha0 (by decide)
   subst hA
   rw [ea] at hS ⊢
   have s2:(codeP P++(codeVal V++(codeT S++t))).length<4000000:=by rw [List.length_append] at hS;omega
   have s3:(codeVal V++(codeT S++t)).length<4000000:=by rw [List.length_append] at s2;omega
   have s4:(codeT S++t).length<4000000:=by rw [List.length_append] at s3;omega
   exact oback_4 k P V S t _ _ (i 4 _ (by decide) hS) _ _ (back_path k P _ hp pl (by omega) hk2 s2) (back_val k _ (hvr (.inr (.inr rfl))) (by omega) s3) (back_seen k S t hse hk hk2 s4) hc
  ·have ea:codeO (5,(P,(V,(A,S))))++t=packB 5++(codeP P++(codeT S++t)):=by
    show (packB 5++(codeP P++codeT S))++t=_
    simp only [List.append_assoc]
   have hA:A=0:=ha0 (by decide)
   have hV:V=(0,(0,[])):=hv0 (.inr rfl)
   subst hA;subst hV
   rw [ea] at hS ⊢
   have s2:(codeP P++(codeT S++t)).length<4000000:=by rw [List.length_append] at hS;omega
   have s4:(codeT S++t).length<4000000:=by rw [List.length_append] at s2;omega
   exact oback_5 k P S t _ _ (i 5 _ (by decide) hS) _ (back_path k P _ hp pl (by omega) hk2 s2) (back_seen k S t hse hk hk2 s4) hc
end Go.Proofs.YtggcagclpkhlhaaGreatDoor
end
noncomputable section
/- What is told of transactions and lists of them is read again. -/
namespace Go.Proofs.YtggcagclpkhlhaaGreatDoor
open Pal
theorem ShortO.siz {o:Op} (h:ShortO o) {k:Nat} (hk:1000<k):SizO k o:=by
 have h1:=h.path.1;have h3:=h.val;have h4:=h.seen
 exact ⟨fun s hs=>by have:=h.path.2 s hs;omega,by omega,by omega,by omega⟩
theorem ShortT.siz {t:Txn} (h:ShortT t) {k:Nat} (hk:1000<k):SizT k t:=⟨by have:=h.len;omega,fun o ho=>(h.ops o ho).siz hk⟩
theorem txnck_l (k:Nat) (t:Txn) (ho:∀ o ∈ t.2.2.2.2,SizO k o) (hl:t.2.2.2.2.length<1000000) (hk:10<k) (hk2:k<1000000):∀ (n i:Nat),i≤t.2.2.2.2.length→t.2.2.2.2.length<n+i →
  z2o.l10 k n t.2.2.2.2 (ilen t.2.2.2.2) (i:Int) t=some 0→∀ o ∈ t.2.2.2.2.drop i,o=goneO∨OkO k o
 | 0,i,_,h,_=>by omega
 | n+1,i,h,h',hc=>by
  rw [z2o.l10_eq,ilt_nat,inL_nat,natOf_nat] at hc
  by_cases hi:i<t.2.2.2.2.length
  ·have so:=ho _ (List.getElem_mem hi)
   obtain ⟨e,p1,p2⟩:=op_is k t.2.2.2.2[i] so.path so.names so.val so.seen hk hk2
   obtain ⟨g,q1,q2⟩:=gone_tot k t.2.2.2.2[i]
   rw [decide_eq_true hi,rd_at' (e:=tOp) hi,p1,q1,iadd_nat (by omega)] at hc
   simp only [br_true,bnd_some] at hc
   have bt:bnot true=false:=rfl
   have bf:bnot false=true:=rfl
   have key:(t.2.2.2.2[i]=goneO∨OkO k t.2.2.2.2[i])∧z2o.l10 k n t.2.2.2.2 (ilen t.2.2.2.2) ((i+1:Nat):Int) t=some 0:=by
    have chk:br (bnot (ieq e 0)) (some e) (z2o.l10 k n t.2.2.2.2 (ilen t.2.2.2.2) ((i+1:Nat):Int) t)=some 0→(t.2.2.2.2[i]=goneO∨OkO k t.2.2.2.2[i])∧z2o.l10 k n t.2.2.2.2 (ilen t.2.2.2.2) ((i+1:Nat):Int) t=some 0:=by
     intro hh
     rw [ieq_dec] at hh
     by_cases he:e=0
     ·rw [decide_eq_true he,bt,br_false] at hh
      exact ⟨.inr (op_ok k _ so hk hk2 (by rw [p1,he])),hh⟩
     ·rw [decide_eq_false he,bf,br_true] at hh
      injection hh with hh;exact absurd hh he
    generalize hth:t.2.2.2.1=th at hc
    cases th with
    | true =>
     rw [br_true] at hc
     cases g with
     | true=>rw [br_true] at hc;exact ⟨.inl (gone_val q1),hc⟩
     | false=>rw [br_false] at hc;exact chk hc
    | false=>rw [br_false] at hc;exact chk hc
   intro o ho'
   rw [List.drop_eq_getElem_cons hi] at ho'
   rcases List.mem_cons.1 ho' with rfl | ho'
   ·exact key.1
   ·exact txnck_l k t ho hl hk hk2 n (i+1) (by omega) (by omega) key.2 o ho'
  ·rw [List.drop_eq_nil_of_le (by omega)]
   intro o ho';simp at ho'
structure OkT (k:Nat) (t:Txn):Prop where
 chk:z2o.f k t=some 0
 dot:rightD t.1=true
 user:0≤t.2.1∧t.2.1<8
 time:1≤t.2.2.1∧t.2.2.1≤1099511627776
 ops:t.2.2.2.2.length≤16
 each:∀ o ∈ t.2.2.2.2,o=goneO∨OkO k o
theorem txn_ok (k:Nat) (t:Txn) (st:SizT k t) (hk:10<k) (hk2:k<1000000) (h:z2o.f k t=some 0):OkT k t:=by
 have hsave:=h
 have hl:=st.ops
 have bt:bnot true=false:=rfl
 have bf:bnot false=true:=rfl
 rw [z2o.f_eq,right_is,bnd_some] at h
 cases hr:rightD t.1 with
 | false=>rw [hr,bf,br_true,br_true] at h;cases h
 | true =>
 rw [hr,bt,br_false,show ilt t.2.1 0=decide (t.2.1<0) from rfl,show ile 8 t.2.1=decide (8≤t.2.1) from rfl] at h
 by_cases h1:t.2.1<0
 ·rw [decide_eq_true h1,br_true] at h;cases h
 rw [decide_eq_false h1,br_false] at h
 by_cases h2:8≤t.2.1
 ·rw [decide_eq_true h2,br_true,br_true] at h;cases h
 rw [decide_eq_false h2,br_false,show ilt t.2.2.1 1=decide (t.2.2.1<1) from rfl,show ilt 1099511627776 t.2.2.1=decide (1099511627776<t.2.2.1) from rfl] at h
 by_cases h3:t.2.2.1<1
 ·rw [decide_eq_true h3,br_true] at h;cases h
 rw [decide_eq_false h3,br_false] at h
 by_cases h4:1099511627776<t.2.2.1
 ·rw [decide_eq_true h4,br_true] at h;cases h
 rw [decide_eq_false h4,br_false] at h
 generalize h5:ieq (ilen t.2.2.2.2) 0=q5 at h
 cases q5 with
 | true=>rw [br_true] at h;cases h
 | false =>
 rw [br_false,show ilt 16 (ilen t.2.2.2.2)=decide (16<t.2.2.2.2.length) from ilt_lenR 16 _] at h
 by_cases h6:16<t.2.2.2.2.length
 ·rw [decide_eq_true h6,br_true] at h;cases h
 rw [decide_eq_false h6,br_false] at h
 have:=txnck_l k t st.each (by omega) hk hk2 k 0 (by omega) (by omega) h
 rw [List.drop_zero] at this
 exact ⟨hsave,hr,by omega,by omega,by omega,this⟩
def thinN (b:Bool):Nat:=match b with | true=>1 | false=>0
def codeTx (t:Txn):List UInt8:=codeD t.1++(packB t.2.1.toNat++(packB t.2.2.1.toNat++(packB (thinN t.2.2.2.1)++(packB t.2.2.2.2.length++t.2.2.2.2.flatMap codeO))))
theorem codeTx_le {k:Nat} {t:Txn} (h:OkT k t) (hs:ShortT t):(codeTx t).length≤130000:=by
 have h1:=codeD_le h.dot
 have hu:=h.user;have ht:=h.time;have ho:=h.ops
 have h2:=packB_le (n:=t.2.1.toNat) (by omega)
 have h3:=packB_le (n:=t.2.2.1.toNat) (by omega)
 have h4:=packB_le (n:=thinN t.2.2.2.1) (by unfold thinN;split <;> omega)
 have h5:=packB_le (n:=t.2.2.2.2.length) (by omega)
 have:=codes_le codeO 8000 t.2.2.2.2 (fun o ho=>codeO_le (h.each o ho) (hs.ops o ho))
 unfold codeTx;simp only [List.length_append];omega
theorem codeTx_pos (t:Txn):0<(codeTx t).length:=by
 unfold codeTx;rw [List.length_append];have:=codeD_pos t.1;omega
theorem tocode_l (k:Nat) (l:List Op) (hr:∀ o ∈ l,o=goneO∨OkO k o) (hs:∀ o ∈ l,ShortO o) (hl:l.length<1000) (hk:5000<k) (hk2:k<1000000):∀ (n i:Nat) (x:List UInt8),i≤l.length→l.length<n+i→x.length≤100+8000 * i→z2D.l6 k n x l (ilen l) (i:Int)=some (x++(l.drop i).flatMap codeO)
 | 0,i,_,h,h',_=>by omega
 | n+1,i,x,h,h',hx=>by
  rw [z2D.l6_eq,ilt_nat,inL_nat,natOf_nat]
  by_cases hi:i<l.length
  ·have hd:=hr l[i] (List.getElem_mem hi)
   have hsd:=hs l[i] (List.getElem_mem hi)
   have hp:=codeO_le hd hsd
   have e4:iadd .i64 (i:Int) 1=((i+1:Nat):Int):=iadd_nat (by omega)
   have ed:l.drop i=l[i]::l.drop (i+1):=List.drop_eq_getElem_cons hi
   rw [decide_eq_true hi,rd_at' (e:=tOp) hi,ocode_is k hd hsd hk hk2,e4,ed,List.flatMap_cons]
   simp only [br_true,bnd_some]
   rw [roomS_ok (by omega) (by omega),br_true]
   refine (tocode_l k l hr hs hl hk hk2 n (i+1) _ (by omega) (by omega) (by unfold app;rw [List.length_append];omega)).trans ?_
   unfold app;rw [List.append_assoc]
  ·have e0:l.drop i=[]:=List.drop_eq_nil_of_le (by omega)
   rw [decide_eq_false hi,br_false,e0];simp
theorem txcode_is (k : Nat) {t : Txn} (h : OkT k t) (hs : ShortT t) (hk : 5000 < k) (hk2 : k < 1000000) : z2D.f k t = some (codeTx t) := by
  have h1 := codeD_le h.dot
  have hu := h.user; have ht := h.time; have ho := h.ops
  have h2 := packB_le (n := t.2.1.toNat) (by omega)
  have h3 := packB_le (n := t.2.2.1.toNat) (by omega)
  have h4 : ∀ b, (packB (thinN b)).length ≤ 8 := fun b => packB_le (n := thinN b) (by unfold thinN; split <;> omega)
  have h5 := packB_le (n := t.2.2.2.2.length) (by omega)
  have e : (ilen t.2.2.2.2).toNat = t.2.2.2.2.length := rfl
  have q1 : packI 1 = some (packB (thinN true)) := pI 1 (by decide)
  have q0 : packI 0 = some (packB (thinN false)) := pI 0 (by decide)
  have key : ∀ b, (br (roomS (codeD t.1) (packB t.2.1.toNat))
      (br (roomS (app (codeD t.1) (packB t.2.1.toNat)) (packB t.2.2.1.toNat))
        (br (roomS (app (app (codeD t.1) (packB t.2.1.toNat)) (packB t.2.2.1.toNat)) (packB (thinN b)))
          (br (roomS (app (app (app (codeD t.1) (packB t.2.1.toNat)) (packB t.2.2.1.toNat)) (packB (thinN b))) (packB t.2.2.2.2.length))
            (z2D.l6 k k (app (app (app (app (codeD t.1) (packB t.2.1.toNat)) (packB t.2.2.1.toNat)) (packB (thinN b))) (packB t.2.2.2.2.length)) t.2.2.2.2 (ilen t.2.2.2.2) 0)
            none)
          none)
        none)
      none) = some (codeD t.1 ++ (packB t.2.1.toNat ++ (packB t.2.2.1.toNat ++ (packB (thinN b) ++ (packB t.2.2.2.2.length ++ t.2.2.2.2.flatMap codeO))))) := by
    intro b
    have h4 := h4 b
    rw [roomS_ok (by omega) (by omega), br_true, roomS_ok (by unfold app; simp only [List.length_append]; omega) (by omega), br_true, roomS_ok (by unfold app; simp only [List.length_append]; omega) (by omega), br_true, roomS_ok (by unfold app; simp only [List.length_append]; omega) (by omega), br_true]
    refine (tocode_l k t.2.2.2.2 h.each hs.ops (by omega) hk hk2 k 0 _ (by omega) (by omega) (by unfold app; simp only [List.length_append]; omega)).trans ?_
    rw [List.drop_zero]; unfold app; simp only [List.append_assoc]
  rw [z2D.f_eq, dcode_is k h.dot, packI_is (n := t.2.1) (by omega), packI_is (n := t.2.2.1) (by omega), packI_is (n := ilen t.2.2.2.2) (by unfold ilen; omega), e, q1, q0]
  unfold codeTx
  simp only [bnd_some]
  cases t.2.2.2.1 with
  | true => rw [br_true]; exact key true
  | false => rw [br_false]; exact key false
theorem back_o7 (k:Nat) (hk:5000<k) (hk2:k<1000000) (N:Nat) (hN:N≤16) (d:Dot) (a b:Int) (c:Bool) (t:List UInt8) (p:List Op) (hc:z2o.f k (d,(a,(b,(c,p))))=some 0):∀ (n i:Nat) (x l:List Op),i+l.length=N→N<n+i→x.length=i→(∀ o ∈ l,o=goneO∨OkO k o)→x++l=p→(l.flatMap codeO++t).length<4000000 →
  z2G.l7 k n (N:Int) (i:Int) (0,0) 0 0 false [] d a b c x (l.flatMap codeO++t,0)=some ((d,(a,(b,(c,p)))),(t,0))
 | 0,i,_,_,h,h',_,_,_,_=>by omega
 | n+1,i,x,[],h,_,hx,_,hp,_=>by
  have hi:N=i:=by simpa using h.symm
  subst hi
  rw [List.append_nil] at hp
  subst hp
  rw [z2G.l7_eq,ilt_nn,decide_eq_false (Nat.lt_irrefl _)]
  have bt:bnot true=false:=rfl
  simp only [br_false,fault_is,bnd_some,ieq_dec,decide_true,br_true,hc,fail_is,if_true,bt,List.append_nil,List.flatMap_nil,List.nil_append]
 | n+1,i,x,o::l,h,h',hx,hr,hp,hS=>by
  simp only [List.length_cons] at h
  have e4:iadd .i64 (i:Int) 1=((i+1:Nat):Int):=iadd_nat (by omega)
  have ea:(o::l).flatMap codeO++t=codeO o++(l.flatMap codeO++t):=by rw [List.flatMap_cons,List.append_assoc]
  rw [ea] at hS ⊢
  have hS2:(l.flatMap codeO++t).length<4000000:=by rw [List.length_append] at hS;omega
  rw [z2G.l7_eq,ilt_nn,decide_eq_true (show i<N by omega),back_op k _ (hr o (by simp)) hk hk2 hS,e4]
  simp only [br_true,bnd_some]
  rw [room1 (show x.length<4000000 by omega),br_true]
  exact back_o7 k hk hk2 N hN d a b c t p hc n (i+1) (app x (o::[])) l (by omega) (by omega) (by simp [app,hx]) (fun e he=>hr e (List.mem_cons_of_mem _ he)) (by unfold app;rw [List.append_assoc];exact hp) hS2
theorem back_txn (k:Nat) {t:Txn} (r:List UInt8) (h:OkT k t) (hk:5000<k) (hk2:k<1000000) (hS:(codeTx t++r).length<4000000):z2G.f k (codeTx t++r,0)=some (t,(r,0)):=by
 have hu:=h.user;have ht:=h.time;have ho:=h.ops
 have hth:thinN t.2.2.2.1≤1:=by unfold thinN;split <;> omega
 have ea:codeTx t++r=codeD t.1++(packB t.2.1.toNat++(packB t.2.2.1.toNat++(packB (thinN t.2.2.2.1)++(packB t.2.2.2.2.length++(t.2.2.2.2.flatMap codeO++r))))):=by unfold codeTx;simp only [List.append_assoc]
 rw [ea] at hS ⊢
 have s1:(packB t.2.1.toNat++(packB t.2.2.1.toNat++(packB (thinN t.2.2.2.1)++(packB t.2.2.2.2.length++(t.2.2.2.2.flatMap codeO++r))))).length<4000000:=by rw [List.length_append] at hS;omega
 have s2:(packB t.2.2.1.toNat++(packB (thinN t.2.2.2.1)++(packB t.2.2.2.2.length++(t.2.2.2.2.flatMap codeO++r)))).length<4000000:=by rw [List.length_append] at s1;omega
 have s3:(packB (thinN t.2.2.2.1)++(packB t.2.2.2.2.length++(t.2.2.2.2.flatMap codeO++r))).length<4000000:=by rw [List.length_append] at s2;omega
 have s4:(packB t.2.2.2.2.length++(t.2.2.2.2.flatMap codeO++r)).length<4000000:=by rw [List.length_append] at s3;omega
 have s5:(t.2.2.2.2.flatMap codeO++r).length<4000000:=by rw [List.length_append] at s4;omega
 have hlen:=codes_len codeO codeO_pos t.2.2.2.2
 have e1:((t.2.1.toNat:Nat):Int)=t.2.1:=Int.toNat_of_nonneg (by omega)
 have e2:((t.2.2.1.toNat:Nat):Int)=t.2.2.1:=Int.toNat_of_nonneg (by omega)
 have e3:ilt 1 ((thinN t.2.2.2.1:Nat):Int)=false:=decide_eq_false (by omega)
 have e4:ieq ((thinN t.2.2.2.1:Nat):Int) 1=t.2.2.2.1:=by cases t.2.2.2.1 <;> rfl
 rw [z2G.f_eq,back_dot k t.1 _ h.dot (by omega) hS]
 simp only [bnd_some]
 rw [back_int k _ _ (by omega) (by omega) s1]
 simp only [bnd_some]
 rw [back_int k _ _ (by omega) (by omega) s2]
 simp only [bnd_some]
 rw [back_int k _ _ (by omega) (by omega) s3]
 simp only [bnd_some,fault_is]
 rw [show ieq (0:Int) 0=true from rfl,br_true,e3,br_false,e4,e1,e2,back_many k _ 16 _ (by omega) (by omega) (by omega) (by rw [List.length_append];omega) s4]
 simp only [bnd_some]
 exact back_o7 k hk hk2 t.2.2.2.2.length ho t.1 t.2.1 t.2.2.1 t.2.2.2.1 r t.2.2.2.2 h.chk k 0 [] t.2.2.2.2 (by omega) (by omega) rfl h.each rfl s5
def codeTL (l:List Txn):List UInt8:=packB l.length++l.flatMap codeTx
theorem codeTL_le {k:Nat} {l:List Txn} (h:∀ t ∈ l,OkT k t) (hs:∀ t ∈ l,ShortT t) (hl:l.length≤20):(codeTL l).length≤2600008:=by
 have hp:=packB_le (n:=l.length) (by omega)
 have:=codes_le codeTx 130000 l (fun t ht=>codeTx_le (h t ht) (hs t ht))
 unfold codeTL;rw [List.length_append];omega
theorem tlcode_l (k:Nat) (l:List Txn) (hr:∀ t ∈ l,OkT k t) (hs:∀ t ∈ l,ShortT t) (hl:l.length≤20) (hk:5000<k) (hk2:k<1000000):∀ (n i:Nat) (x:List UInt8),i≤l.length→l.length<n+i→x.length≤100+130000 * i→z2F.l3 k n x l (ilen l) (i:Int)=some (x++(l.drop i).flatMap codeTx)
 | 0,i,_,h,h',_=>by omega
 | n+1,i,x,h,h',hx=>by
  rw [z2F.l3_eq,ilt_nat,inL_nat,natOf_nat]
  by_cases hi:i<l.length
  ·have hd:=hr l[i] (List.getElem_mem hi)
   have hsd:=hs l[i] (List.getElem_mem hi)
   have hp:=codeTx_le hd hsd
   have e4:iadd .i64 (i:Int) 1=((i+1:Nat):Int):=iadd_nat (by omega)
   have ed:l.drop i=l[i]::l.drop (i+1):=List.drop_eq_getElem_cons hi
   rw [decide_eq_true hi,rd_at' (e:=tTxn) hi,txcode_is k hd hsd hk hk2,e4,ed,List.flatMap_cons]
   simp only [br_true,bnd_some]
   rw [roomS_ok (by omega) (by omega),br_true]
   refine (tlcode_l k l hr hs hl hk hk2 n (i+1) _ (by omega) (by omega) (by unfold app;rw [List.length_append];omega)).trans ?_
   unfold app;rw [List.append_assoc]
  ·have e0:l.drop i=[]:=List.drop_eq_nil_of_le (by omega)
   rw [decide_eq_false hi,br_false,e0];simp
theorem tlcode_is (k:Nat) {l:List Txn} (hr:∀ t ∈ l,OkT k t) (hs:∀ t ∈ l,ShortT t) (hl:l.length≤20) (hk:5000<k) (hk2:k<1000000):z2F.f k l=some (codeTL l):=by
 have e:(ilen l).toNat=l.length:=rfl
 have hp:=packB_le (n:=l.length) (by omega)
 rw [z2F.f_eq,packI_is (n:=ilen l) (by unfold ilen;omega),e,bnd_some]
 exact tlcode_l k l hr hs hl hk hk2 k 0 _ (by omega) (by omega) (by omega)
theorem back_tl3 (k:Nat) (hk:5000<k) (hk2:k<1000000) (N:Nat) (hN:N≤1000) (t:List UInt8):∀ (n i:Nat) (x l:List Txn),i+l.length=N→N<n+i→x.length=i→(∀ o ∈ l,OkT k o)→(x++l).Pairwise (fun a b=>dotLt a.1 b.1=true)→(l.flatMap codeTx++t).length<4000000 →
  z0U.l3 k n x (N:Int) (i:Int) (l.flatMap codeTx++t,0)=some (x++l,(t,0))
 | 0,i,_,_,h,h',_,_,_,_=>by omega
 | n+1,i,x,[],h,_,hx,_,hc,_=>by
  have hi:N=i:=by simpa using h.symm
  subst hi
  rw [List.append_nil] at hc
  obtain ⟨b1,g1,i1⟩:=trises_is k x (by omega) (by omega) hk2
  have hb:b1=true:=i1.2 hc
  subst hb
  rw [z0U.l3_eq,ilt_nn,decide_eq_false (Nat.lt_irrefl _)]
  have bt:bnot true=false:=rfl
  simp only [br_false,fault_is,bnd_some,ieq_dec,decide_true,br_true,g1,bt,List.append_nil,List.flatMap_nil,List.nil_append]
 | n+1,i,x,d::l,h,h',hx,hr,hc,hS=>by
  simp only [List.length_cons] at h
  have e4:iadd .i64 (i:Int) 1=((i+1:Nat):Int):=iadd_nat (by omega)
  have ea:(d::l).flatMap codeTx++t=codeTx d++(l.flatMap codeTx++t):=by rw [List.flatMap_cons,List.append_assoc]
  rw [ea] at hS ⊢
  have hS2:(l.flatMap codeTx++t).length<4000000:=by rw [List.length_append] at hS;omega
  rw [z0U.l3_eq,ilt_nn,decide_eq_true (show i<N by omega),back_txn k _ (hr d (by simp)) hk hk2 hS,e4]
  simp only [br_true,bnd_some]
  rw [room1 (show x.length<4000000 by omega),br_true]
  have:=back_tl3 k hk hk2 N hN t n (i+1) (app x (d::[])) l (by omega) (by omega) (by simp [app,hx]) (fun e he=>hr e (List.mem_cons_of_mem _ he)) (by unfold app;rw [List.append_assoc];exact hc) hS2
  refine this.trans ?_
  simp [app]
theorem back_tl (k:Nat) (l:List Txn) (most:Int) (t:List UInt8) (hr:∀ o ∈ l,OkT k o) (hc:l.Pairwise (fun a b=>dotLt a.1 b.1=true)) (hm:(l.length:Int)≤most) (hl:l.length≤1000) (hk:5000<k) (hk2:k<1000000) (hS:(codeTL l++t).length<4000000) :
  z0U.f k most (codeTL l++t,0)=some (l,(t,0)):=by
 have ea:codeTL l++t=packB l.length++(l.flatMap codeTx++t):=by unfold codeTL;rw [List.append_assoc]
 rw [ea] at hS ⊢
 have hS2:(l.flatMap codeTx++t).length<4000000:=by rw [List.length_append] at hS;omega
 have hlen:=codes_len codeTx codeTx_pos l
 rw [z0U.f_eq,back_many k _ most _ (by omega) (by omega) hm (by rw [List.length_append];omega) hS]
 simp only [bnd_some]
 exact back_tl3 k hk hk2 l.length hl t k 0 [] l (by omega) (by omega) rfl hr hc hS2
end Go.Proofs.YtggcagclpkhlhaaGreatDoor
end
noncomputable section
/- A state that may be is read as it was told. -/
namespace Go.Proofs.YtggcagclpkhlhaaGreatDoor
open Pal
def codeSt (s:Sta):List UInt8:=codeTL s.1++(codeT s.2.1++(codeS s.2.2.2.1++s.2.2.2.2.flatMap codeL))
theorem RightS.ok {k:Nat} {s:Sta} (h:RightS k s) (hsh:∀ t ∈ s.1,ShortT t) (hk:1000<k) (hk2:k<1000000):∀ t ∈ s.1,OkT k t:=fun t ht=>by
 have st:=(hsh t ht).siz hk
 obtain ⟨e,g1,g2⟩:=txn_is k t st.each st.ops (by omega) hk2
 rw [h.chk t ht] at g2
 injection g2 with g2
 exact txn_ok k t st (by omega) hk2 (by rw [g1,← g2])
theorem redo_le {R:List (List Dot)} (h:∀ l ∈ R,l.length≤40∧∀ d ∈ l,rightD d=true) (h8:R.length≤8):(R.flatMap codeL).length≤5184:=by
 have:=codes_le codeL 648 R (fun l hl=>by
  obtain ⟨h1,h2⟩:=h l hl
  have:=codeL_le h2 (by omega);omega)
 omega
theorem sstcode_l (k:Nat) (R:List (List Dot)) (h8:R.length=8) (hr:∀ l ∈ R,l.length≤40∧∀ d ∈ l,rightD d=true) (hk:5000<k) (hk2:k<1000000):∀ (n i:Nat) (x:List UInt8),i≤8→8<n+i→x.length≤3000000+648 * i→z1B.l3 k n x R (i:Int)=some (x++(R.drop i).flatMap codeL)
 | 0,i,_,h,h',_=>by omega
 | n+1,i,x,h,h',hx=>by
  rw [z1B.l3_eq,show ilt (i:Int) 8=decide (i<8) from ilt_nn i 8,inB_nat,natOf_nat]
  by_cases hi:i<8
  ·have hi':i<R.length:=by omega
   obtain ⟨hd1,hd2⟩:=hr R[i] (List.getElem_mem hi')
   have hp:=codeL_le hd2 (by omega)
   have e4:iadd .i64 (i:Int) 1=((i+1:Nat):Int):=iadd_nat (by omega)
   have ed:R.drop i=R[i]::R.drop (i+1):=List.drop_eq_getElem_cons hi'
   rw [decide_eq_true hi,rd_at' (e:=.slc tDot) hi',lcode_is k hd2 (by omega) hk2,e4,ed,List.flatMap_cons]
   simp only [br_true,bnd_some]
   rw [roomS_ok (by omega) (by omega),br_true]
   refine (sstcode_l k R h8 hr hk hk2 n (i+1) _ (by omega) (by omega) (by unfold app;rw [List.length_append];omega)).trans ?_
   unfold app;rw [List.append_assoc]
  ·have e0:R.drop i=[]:=List.drop_eq_nil_of_le (by omega)
   rw [decide_eq_false hi,br_false,e0];simp
theorem ShortS.redoR {k:Nat} {s:Sta} (h:ShortS s) (hr:RightS k s):∀ l ∈ s.2.2.2.2,l.length≤40∧∀ d ∈ l,rightD d=true:=fun l hl=>⟨h.redo l hl,(hr.redo l hl).2⟩
theorem stcode_is (k:Nat) {s:Sta} (sh:ShortS s) (hr:RightS k s) (h8:s.2.2.2.2.length=8) (hk:5000<k) (hk2:k<1000000):z1B.f k s=some (codeSt s)∧(codeSt s).length≤2700000:=by
 have ho:=hr.ok sh.each (by omega) hk2
 have l1:=codeTL_le ho sh.each sh.tx
 have l2:=codeT_le hr.un.rt sh.un (by omega)
 have l3:=codeS_le hr.se.1 sh.se (by omega)
 have l4:=redo_le (sh.redoR hr) (by omega)
 have hun:=sh.un;have hse:=sh.se
 constructor
 ·rw [z1B.f_eq,tlcode_is k ho sh.each sh.tx hk hk2,bnd_some,tcode_is k hr.un.rt (by omega) hk2,bnd_some,roomS_ok (by omega) (by omega),br_true,scode_is k hr.se.1 (by omega) (by omega) hk2,bnd_some,roomS_ok (by unfold app;rw [List.length_append];omega) (by omega),br_true]
  refine (sstcode_l k s.2.2.2.2 h8 (sh.redoR hr) hk hk2 k 0 _ (by omega) (by omega) (by unfold app;simp only [List.length_append];omega)).trans ?_
  rw [List.drop_zero];unfold app codeSt;simp only [List.append_assoc]
 ·unfold codeSt;simp only [List.length_append];omega
theorem back_st3 (k:Nat) (s:Sta) (h8:s.2.2.2.2.length=8) (sh:ShortS s) (hr:RightS k s) (t:List UInt8) (hk:5000<k) (hk2:k<1000000):∀ (n i:Nat) (R:List (List Dot)),i≤8→8<n+i→R.length=8→(∀ j:Nat,j<i→R[j]? = s.2.2.2.2[j]?)→(List.flatMap codeL (s.2.2.2.2.drop i)++t).length<4000000 →
  z27.l3 k n (i:Int) [] [] (zarr 16 0) [] (zarr 16 0) [] (zarr 8 []) s.1 s.2.1 (zarr 16 0) [] (s.2.2.2.1,R) (List.flatMap codeL (s.2.2.2.2.drop i)++t,0)=some (s,(t,0))
 | 0,i,_,h,h',_,_,_=>by omega
 | n+1,i,R,h,h',hR,hj,hS=>by
  rw [z27.l3_eq,show ilt (i:Int) 8=decide (i<8) from ilt_nn i 8,inB_nat,natOf_nat]
  by_cases hi:i<8
  ·have hi':i<s.2.2.2.2.length:=by omega
   obtain ⟨hd1,hd2⟩:=sh.redoR hr _ (List.getElem_mem hi')
   have e4:iadd .i64 (i:Int) 1=((i+1:Nat):Int):=iadd_nat (by omega)
   have ed:s.2.2.2.2.drop i=s.2.2.2.2[i]::s.2.2.2.2.drop (i+1):=List.drop_eq_getElem_cons hi'
   have ea:List.flatMap codeL (s.2.2.2.2.drop i)++t=codeL s.2.2.2.2[i]++(List.flatMap codeL (s.2.2.2.2.drop (i+1))++t):=by rw [ed,List.flatMap_cons,List.append_assoc]
   rw [ea] at hS ⊢
   have hS2:(List.flatMap codeL (s.2.2.2.2.drop (i+1))++t).length<4000000:=by rw [List.length_append] at hS;omega
   rw [decide_eq_true hi,back_list k _ 1000 _ hd2 (by omega) (by omega) (by omega) hk2 hS,e4]
   simp only [br_true,bnd_some]
   exact back_st3 k s h8 sh hr t hk hk2 n (i+1) _ (by omega) (by omega) (by simp [upd,hR]) (fun j hj'=>by
    show (List.set R i s.2.2.2.2[i])[j]? = _
    by_cases e:j=i
    ·subst e
     rw [List.getElem?_set_self (by omega),List.getElem?_eq_getElem hi']
    ·rw [List.getElem?_set_ne (fun h=>e h.symm)]
     exact hj j (by omega)) hS2
  ·have e0:s.2.2.2.2.drop i=[]:=List.drop_eq_nil_of_le (by omega)
   have hRs:R=s.2.2.2.2:=List.ext_getElem? fun j=>by
    by_cases hj':j<8
    ·exact hj j (by omega)
    ·rw [List.getElem?_eq_none (by omega),List.getElem?_eq_none (by omega)]
   subst hRs
   have tx:=sh.tx;have un:=sh.un;have kn:=sh.kn
   have hdl:(dotsOf s.1).length=s.1.length:=by unfold dotsOf;rw [List.length_map]
   have hkn:ofD (dotsOf s.1)=s.2.2.1:=by rw [← known_ofD];exact hr.know.symm
   obtain ⟨b1,g1,i1⟩:=state_is k s hr.kn.1.vok.len hr.se.1.vok.len h8 (fun t ht=>by
    have st:=(sh.each t ht).siz (k:=k) (by omega)
    exact ⟨st.ops,st.each⟩) (fun l hl=>by have:=sh.redo l hl;omega) (by omega) (by omega) hk hk2
   have hb:b1=true:=i1.2 hr
   subst hb
   have g2:z1p.f k (s.1,(s.2.1,(s.2.2.1,(s.2.2.2.1,s.2.2.2.2))))=some true:=g1
   have bt:bnot true=false:=rfl
   rw [decide_eq_false hi,br_false,e0,List.flatMap_nil,List.nil_append,names_is k s.1 (by omega) hk2,bnd_some,of_is k _ (by omega) hk2,bnd_some,hkn]
   simp only [fault_is,bnd_some,show ieq (0:Int) 0=true from rfl,br_true,g2,bt,br_false]
theorem back_state (k:Nat) {s:Sta} (t:List UInt8) (sh:ShortS s) (hr:RightS k s) (h8:s.2.2.2.2.length=8) (hk:5000<k) (hk2:k<1000000) (hS:(codeSt s++t).length<4000000):z27.f k (codeSt s++t,0)=some (s,(t,0)):=by
 have tx:=sh.tx;have un:=sh.un;have se:=sh.se
 have ea:codeSt s++t=codeTL s.1++(codeT s.2.1++(codeS s.2.2.2.1++(s.2.2.2.2.flatMap codeL++t))):=by unfold codeSt;simp only [List.append_assoc]
 rw [ea] at hS ⊢
 have s1:(codeT s.2.1++(codeS s.2.2.2.1++(s.2.2.2.2.flatMap codeL++t))).length<4000000:=by rw [List.length_append] at hS;omega
 have s2:(codeS s.2.2.2.1++(s.2.2.2.2.flatMap codeL++t)).length<4000000:=by rw [List.length_append] at s1;omega
 have s3:(s.2.2.2.2.flatMap codeL++t).length<4000000:=by rw [List.length_append] at s2;omega
 rw [z27.f_eq,back_tl k s.1 1000 _ (hr.ok sh.each (by omega) hk2) hr.ris (by omega) (by omega) hk hk2 hS]
 simp only [bnd_some]
 rw [back_tally k s.2.1 1048576 _ hr.un (by omega) (by omega) (by omega) hk2 s1]
 simp only [bnd_some]
 rw [back_dots k s.2.2.2.1 _ hr.se.1 (by omega) hk hk2 s2]
 simp only [bnd_some]
 have:=back_st3 k s h8 sh hr t hk hk2 k 0 (zarr 8 []) (by omega) (by omega) (by simp [zarr]) (fun j hj=>by omega) (by rw [List.drop_zero];exact s3)
 rw [List.drop_zero] at this
 exact this
end Go.Proofs.YtggcagclpkhlhaaGreatDoor
end
noncomputable section
/- Deltas: the program and the document read the same, and test the same; what is told is read again. -/
namespace Go.Proofs.YtggcagclpkhlhaaGreatDoor
open Pal
theorem rdl_is (k:Nat) (S:List UInt8) (r:Rdr) (x:RefRdr) (h:RR S r x) (hS:S.length<5000) (hk:5000<k) (hk2:k<1000000) :
  ∃ (d:Dlt) (r':Rdr) (x':RefRdr),z0m.f k r=some (d,r')∧z0x.f k x=some (d,x')∧RR S r' x'∧LenD S.length d∧∀ t ∈ d.1,SizT k t:=by
 obtain ⟨L,r1,x1,e1,e2,h1,hL,hT⟩:=tlr_is k S 1000 r x h hS hk hk2
 obtain ⟨U,r2,x2,e3,e4,h2,hU⟩:=tread_is k S 1048576 r1 x1 h1 hS hk hk2
 obtain ⟨E,r3,x3,e5,e6,h3,hE,_⟩:=lread_is k S 1048576 r2 x2 h2 (by omega) (by omega) (by omega)
 have hb:r3.2=x3.2.2:=h3.bad
 rw [z0m.f_eq,z0x.f_eq,e1,e2]
 simp only [bnd_some]
 rw [e3,e4]
 simp only [bnd_some]
 rw [e5,e6]
 simp only [bnd_some,fault_is,ieq_dec,bnot_dec,br_dec,hb]
 by_cases hz:x3.2.2=0
 ·simp only [hz,not_true,if_false]
  exact ⟨(L,(U,E)),_,_,rfl,rfl,h3,⟨hL,hU,hE⟩,hT⟩
 ·simp only [hz,not_false_eq_true,if_true]
  exact ⟨([],([],[])),_,_,rfl,rfl,h3,⟨by simp,by simp,by simp⟩,fun t ht=>by simp at ht⟩
theorem rsameD_is (k:Nat) (d:Dlt) {n:Nat} (ld:LenD n d) (he:∀ t ∈ d.1,LenT k t) (hn:n<k) (hk:k<1000000):z0z.f k d d=some true:=by
 rw [z0z.f_eq,rallTxn_is k _ _ (by have:=ld.tx;omega) he hk,rsameU_is k _ _ (by have:=ld.un;omega) hk,reqD k _ _ (by have:=ld.se;omega) hk]
 simp only [bnd_some,decide_true,br_true]
def codeDl (d:Dlt):List UInt8:=codeTL d.1++(codeT d.2.1++codeL d.2.2)
theorem RightDl.ok {k:Nat} {d:Dlt} (h:RightDl k d) (hsh:∀ t ∈ d.1,ShortT t) (hk:1000<k) (hk2:k<1000000):∀ t ∈ d.1,OkT k t:=fun t ht=>by
 have st:=(hsh t ht).siz hk
 obtain ⟨e,g1,g2⟩:=txn_is k t st.each st.ops (by omega) hk2
 rw [h.chk t ht] at g2
 injection g2 with g2
 exact txn_ok k t st (by omega) hk2 (by rw [g1,← g2])
theorem dlcode_is (k:Nat) {d:Dlt} (sh:ShortD d) (hr:RightDl k d) (hk:5000<k) (hk2:k<1000000):z0O.f k d=some (codeDl d)∧(codeDl d).length≤2700000:=by
 have ho:=hr.ok sh.each (by omega) hk2
 have l1:=codeTL_le ho sh.each sh.tx
 have l2:=codeT_le hr.un.rt sh.un (by omega)
 have l3:=codeL_le hr.se (by have:=sh.se;omega)
 have hun:=sh.un;have hse:=sh.se
 constructor
 ·rw [z0O.f_eq,tlcode_is k ho sh.each sh.tx hk hk2,tcode_is k hr.un.rt (by omega) hk2,lcode_is k hr.se (by omega) hk2]
  simp only [bnd_some]
  rw [roomS_ok (by omega) (by omega),br_true,roomS_ok (by unfold app;rw [List.length_append];omega) (by omega),br_true]
  unfold app codeDl;simp only [List.append_assoc]
 ·unfold codeDl;simp only [List.length_append];omega
theorem back_dl (k:Nat) {d:Dlt} (t:List UInt8) (sh:ShortD d) (hr:RightDl k d) (hk:5000<k) (hk2:k<1000000) (hS:(codeDl d++t).length<4000000):z0m.f k (codeDl d++t,0)=some (d,(t,0)):=by
 have tx:=sh.tx;have un:=sh.un;have se:=sh.se
 have ea:codeDl d++t=codeTL d.1++(codeT d.2.1++(codeL d.2.2++t)):=by unfold codeDl;simp only [List.append_assoc]
 have bt:bnot true=false:=rfl
 rw [ea] at hS ⊢
 have s1:(codeT d.2.1++(codeL d.2.2++t)).length<4000000:=by rw [List.length_append] at hS;omega
 have s2:(codeL d.2.2++t).length<4000000:=by rw [List.length_append] at s1;omega
 rw [z0m.f_eq,back_tl k d.1 1000 _ (hr.ok sh.each (by omega) hk2) hr.ris (by omega) (by omega) hk hk2 hS]
 simp only [bnd_some]
 rw [back_tally k d.2.1 1048576 _ hr.un (by omega) (by omega) (by omega) hk2 s1]
 simp only [bnd_some]
 rw [back_list k d.2.2 1048576 _ hr.se (by omega) (by omega) (by omega) hk2 s2]
 simp only [bnd_some,fault_is,ieq_dec,decide_true,bt,br_false]
end Go.Proofs.YtggcagclpkhlhaaGreatDoor
end
noncomputable section
/- Records: whether one may be; the program and the document parse the same. -/
namespace Go.Proofs.YtggcagclpkhlhaaGreatDoor
open Pal
abbrev Rec:=Ty.D tRecord
def noT:Txn:=((0,0),(0,(0,(false,[]))))
def noU:Undo:=((0,0),0)
def noD:Dlt:=([],([],[]))
def noR:Rec:=(0,(noT,(0,(noU,(0,(noD,emptyS))))))
structure SizR (k n:Nat) (x:Rec):Prop where
 t:SizT k x.2.1
 d:LenD n x.2.2.2.2.2.1
 dt:∀ t ∈ x.2.2.2.2.2.1.1,SizT k t
 s:LenS n x.2.2.2.2.2.2
 st:∀ t ∈ x.2.2.2.2.2.2.1,SizT k t
 s8:x.2.2.2.2.2.2.2.2.2.2.length=8
 v1:x.2.2.2.2.2.2.2.2.1.1.length=16
 v2:x.2.2.2.2.2.2.2.2.2.1.1.length=16
theorem noT_siz {k:Nat} (hk:10<k):SizT k noT:=⟨by show 0<k;omega,fun o ho=>by simp [noT] at ho⟩
theorem noD_len (n:Nat):LenD n noD:=⟨by simp [noD],by simp [noD],by simp [noD]⟩
theorem SizR.of {k n:Nat} {K u b:Int} {t:Txn} {U:Undo} {d:Dlt} {s:Sta} (ht:SizT k t) (hd:LenD n d) (hdt:∀ t ∈ d.1,SizT k t) (hs:LenS n s) (hst:∀ t ∈ s.1,SizT k t) (h8:s.2.2.2.2.length=8) (h1:s.2.2.1.1.length=16) (h2:s.2.2.2.1.1.length=16):SizR k n (K,(t,(u,(U,(b,(d,s)))))):=⟨ht,hd,hdt,hs,hst,h8,h1,h2⟩
theorem SizR.none {k n:Nat} {K u b:Int} {t:Txn} {U:Undo} (ht:SizT k t):SizR k n (K,(t,(u,(U,(b,(noD,emptyS)))))) :=
 .of ht (noD_len n) (fun t ht=>by simp [noD] at ht) (emptyS_len n) (fun t ht=>by simp [emptyS] at ht) (by simp [emptyS,zarr]) rfl rfl
theorem noR_siz {k n:Nat} (hk:10<k):SizR k n noR:=.none (noT_siz hk)
theorem deqUndo (a b:Undo):deq tUndo a b=decide (a=b):=deqU a b
theorem rsameR_is (k:Nat) (x:Rec) {n:Nat} (sz:SizR k n x) (hn:n<k) (h17:17<k) (hk:k<1000000):z1Z.f k x x=some true:=by
 obtain ⟨b,g1,g2⟩:=rsameS_is k x.2.2.2.2.2.2 x.2.2.2.2.2.2 sz.s (fun t ht=>(sz.st t ht).len) sz.s8 sz.s8 hn h17 hk
 have hb:b=true:=g2.2 rfl
 subst hb
 rw [z1Z.f_eq,rsameTxn_is k _ _ sz.t.len hk,rsameD_is k _ sz.d (fun t ht=>(sz.dt t ht).len) hn hk,g1]
 simp only [ieq_dec,deqUndo,decide_true,br_true,bnd_some]
theorem dchks_l (k:Nat) (l:List Txn) (ho:∀ t ∈ l,SizT k t) (hl:l.length<1000000) (hk:10<k) (hk2:k<1000000):∀ (n i:Nat),i≤l.length→l.length<n+i →
  ∃ r:Int,z07.l2 k n l (ilen l) (i:Int)=some r∧(0≤r ↔ ¬ ∀ t ∈ l.drop i,z1g.f k t=some 0)
 | 0,i,_,h=>by omega
 | n+1,i,h,h'=>by
  rw [z07.l2_eq,ilt_nat,inL_nat,natOf_nat]
  by_cases hi:i<l.length
  ·have st:=ho _ (List.getElem_mem hi)
   obtain ⟨e,g1,g2⟩:=txn_is k l[i] st.each st.ops hk hk2
   rw [decide_eq_true hi,br_true,br_true,rd_at' (e:=tTxn) hi,z0E.f_eq,g1,bnd_some,bnd_some,iadd_nat (by omega),ieq_dec,bnot_dec,List.drop_eq_getElem_cons hi]
   by_cases h0:e=0
   ·subst h0
    rw [decide_eq_false (by simp),br_false]
    obtain ⟨r,q1,q2⟩:=dchks_l k l ho hl hk hk2 n (i+1) (by omega) (by omega)
    refine ⟨r,q1,q2.trans (not_congr ⟨fun h t ht=>?_,fun h t ht=>h t (List.mem_cons_of_mem _ ht)⟩)⟩
    rcases List.mem_cons.1 ht with rfl | ht
    ·exact g2
    ·exact h t ht
   ·rw [decide_eq_true h0,br_true]
    refine ⟨(i:Int),rfl,⟨fun _ h=>h0 ?_,fun _=>by omega⟩⟩
    have:=h l[i] List.mem_cons_self
    rw [g2] at this;injection this
  ·rw [decide_eq_false hi,br_false,List.drop_eq_nil_of_le (by omega)]
   exact ⟨-1,rfl,⟨fun h=>by omega,fun h=>absurd (fun t ht=>by simp at ht) h⟩⟩
theorem drds_l (k:Nat) (l:List Dot) (hl:l.length<1000000):∀ (n i:Nat),i≤l.length→l.length<n+i →
  ∃ r:Int,z08.l2 k n l (ilen l) (i:Int)=some r∧(0≤r ↔ ¬ ∀ d ∈ l.drop i,rightD d=true)
 | 0,i,_,h=>by omega
 | n+1,i,h,h'=>by
  rw [z08.l2_eq,ilt_nat,inL_nat,natOf_nat]
  by_cases hi:i<l.length
  ·rw [decide_eq_true hi,br_true,br_true,rd_at' (e:=tDot) hi,z0F.f_eq,right_is,bnd_some,bnd_some,iadd_nat (by omega),List.drop_eq_getElem_cons hi]
   cases hr:rightD l[i] with
   | true =>
    obtain ⟨r,q1,q2⟩:=drds_l k l hl n (i+1) (by omega) (by omega)
    refine ⟨r,q1,q2.trans (not_congr ⟨fun h t ht=>?_,fun h t ht=>h t (List.mem_cons_of_mem _ ht)⟩)⟩
    rcases List.mem_cons.1 ht with rfl | ht
    ·exact hr
    ·exact h t ht
   | false =>
    refine ⟨(i:Int),rfl,⟨fun _ h=>?_,fun _=>by omega⟩⟩
    have:=h l[i] List.mem_cons_self
    rw [hr] at this;cases this
  ·rw [decide_eq_false hi,br_false,List.drop_eq_nil_of_le (by omega)]
   exact ⟨-1,rfl,⟨fun h=>by omega,fun h=>absurd (fun t ht=>by simp at ht) h⟩⟩
theorem tdl_is (k:Nat) (d:Dlt) (ho:∀ t ∈ d.1,SizT k t) (hul:d.2.1.length<k) (hsl:d.2.2.length<k) (hk:5000<k) (hk2:k<1000000):∃ b,z0Q.f k d=some b∧(b=true ↔ RightDl k d):=by
 rw [z0Q.f_eq,show ile (ilen d.1) 1000=decide (d.1.length≤1000) from ile_len 1000 d.1]
 by_cases hm:d.1.length≤1000
 case neg=>rw [decide_eq_false hm];exact ⟨false,rfl,⟨fun h=>(by cases h),fun h=>absurd h.many hm⟩⟩
 rw [decide_eq_true hm,br_true]
 obtain ⟨b1,g1,i1⟩:=trises_is k d.1 (by omega) (by omega) hk2
 obtain ⟨b2,g2,i2⟩:=trightU2_is k d.2.1 (by omega) hul hk2
 obtain ⟨r,g3,i3⟩:=dchks_l k d.1 ho (by omega) (by omega) hk2 k 0 (by omega) (by omega)
 obtain ⟨q,g4,i4⟩:=drds_l k d.2.2 (by omega) k 0 (by omega) (by omega)
 rw [show ((0:Nat):Int)=0 from rfl] at g3 g4
 rw [List.drop_zero] at i3 i4
 have bt:bnot true=false:=rfl
 have bf:bnot false=true:=rfl
 rw [g1,bnd_some]
 cases b1 with
 | false=>rw [br_false];exact ⟨false,rfl,⟨fun h=>(by cases h),fun h=>i1.2 h.ris⟩⟩
 | true =>
 rw [br_true,z03.f_eq,z07.f_eq,g3,bnd_some,bnd_some,show ile 0 r=decide (0≤r) from rfl]
 by_cases hr:0≤r
 ·rw [decide_eq_true hr,bt,br_false];exact ⟨false,rfl,⟨fun h=>(by cases h),fun h=>absurd h.chk (i3.1 hr)⟩⟩
 have hc:∀ t ∈ d.1,z1g.f k t=some 0:=Classical.byContradiction fun h=>hr (i3.2 h)
 rw [decide_eq_false hr,bf,br_true,g2,bnd_some]
 cases b2 with
 | false=>rw [br_false];exact ⟨false,rfl,⟨fun h=>(by cases h),fun h=>i2.2 h.un⟩⟩
 | true =>
 rw [br_true,z04.f_eq,z08.f_eq,g4,bnd_some,bnd_some,show ile 0 q=decide (0≤q) from rfl]
 by_cases hq:0≤q
 ·rw [decide_eq_true hq,bt];exact ⟨false,rfl,⟨fun h=>(by cases h),fun h=>absurd h.se (i4.1 hq)⟩⟩
 ·have hd:∀ x ∈ d.2.2,rightD x=true:=Classical.byContradiction fun h=>hq (i4.2 h)
  rw [decide_eq_false hq,bf]
  exact ⟨true,rfl,⟨fun _=>⟨hm,i1.1 rfl,i2.1 rfl,hc,hd⟩,fun _=>rfl⟩⟩
theorem recright_is (k:Nat) (x:Rec) {n:Nat} (sz:SizR k n x) (hn:n<k) (hk:5000<k) (hk2:k<1000000):∃ b,z0V.f k x=some b∧z11.f k x=some b:=by
 have d1:=sz.d.un;have d2:=sz.d.se;have s1:=sz.s.un;have s2:=sz.s.kn
 obtain ⟨e,t1,t2⟩:=txn_is k x.2.1 sz.t.each sz.t.ops (by omega) hk2
 obtain ⟨b1,u1,w1⟩:=trightU2_is k (x.2.2.2.1::[]) (by omega) (by simp;omega) hk2
 obtain ⟨b2,u2,w2⟩:=rrightU_is k (x.2.2.2.1::[]) (by simp;omega) hk2
 have hbb:b1=b2:=by rw [Bool.eq_iff_iff,w1,w2]
 subst hbb
 obtain ⟨b3,q1,i1⟩:=tdl_is k x.2.2.2.2.2.1 sz.dt (by omega) (by omega) hk hk2
 obtain ⟨b4,q2,i2⟩:=rrightDl_isG k x.2.2.2.2.2.1 (fun t ht=>(sz.dt t ht).chk (by omega) hk2) (by omega) (by omega) hk hk2
 have hcc:b3=b4:=by rw [Bool.eq_iff_iff,i1,i2]
 subst hcc
 obtain ⟨b5,y1,j1⟩:=state_is k x.2.2.2.2.2.2 sz.v1 sz.v2 sz.s8 (fun t ht=>⟨(sz.st t ht).ops,(sz.st t ht).each⟩) (fun l hl=>by have:=sz.s.re l hl;omega) (by omega) (by omega) hk hk2
 obtain ⟨b6,y2,j2⟩:=rrightS_isG k x.2.2.2.2.2.2 sz.v1 sz.v2 sz.s8 (fun t ht=>(sz.st t ht).chk (by omega) hk2) (fun l hl=>by have:=sz.s.re l hl;omega) (by omega) hk hk2
 have hdd:b5=b6:=by rw [Bool.eq_iff_iff,j1,j2]
 subst hdd
 rw [z0V.f_eq,z11.f_eq,t1,t2,u1,u2,q1,q2,y1,y2,z0Z.f_eq]
 simp only [bnd_some]
 rw [show ile x.2.2.1 7=ilt x.2.2.1 8 from decide_eq_decide.2 ⟨fun h=>by omega,fun h=>by omega⟩]
 cases ieq x.1 1 with
 | true=>exact ⟨_,rfl,rfl⟩
 | false =>
 simp only [br_false]
 cases ieq x.1 2 with
 | true =>
  simp only [br_true]
  cases ile 0 x.2.2.1 with
  | false=>exact ⟨false,rfl,rfl⟩
  | true =>
   simp only [br_true,bnd_some]
   cases ilt x.2.2.1 8 with
   | false=>exact ⟨false,rfl,rfl⟩
   | true =>
    simp only [br_true]
    cases b1 with
    | false=>exact ⟨false,rfl,rfl⟩
    | true =>
     simp only [br_true]
     cases ile 0 x.2.2.2.2.1 <;> exact ⟨_,rfl,rfl⟩
 | false =>
 simp only [br_false]
 cases ieq x.1 3 with
 | true=>exact ⟨_,rfl,rfl⟩
 | false =>
 simp only [br_false]
 cases ieq x.1 4 <;> exact ⟨_,rfl,rfl⟩
theorem end_both (k:Nat) (S:List UInt8) (r:Rdr) (x:RefRdr) (h:RR S r x) (hS:S.length<4000000):∃ (e:Int) (r':Rdr) (x':RefRdr),z0A.f k r=some (e,r')∧z0t.f k x=some (e,x'):=by
 obtain ⟨n,f1,f2⟩:=left_is k S r x h hS
 have hn:0<n→r.2=0:=by
  intro hn
  apply Classical.byContradiction
  intro hne
  rw [z0p.f_eq,fine_is,decide_eq_false hne] at f1
  have bf:bnot false=true:=rfl
  simp only [bnd_some,bf,br_true] at f1
  injection f1 with f1;injection f1 with f1 _
  rw [← f1] at hn;exact absurd hn (by decide)
 rw [z0A.f_eq,z0t.f_eq,f1,f2]
 simp only [bnd_some,fault_is,fail_is]
 by_cases h0:0<n
 ·rw [show ilt 0 n=true from decide_eq_true h0,br_true,br_true,if_pos (hn h0)]
  exact ⟨3,_,_,rfl,rfl⟩
 ·rw [show ilt 0 n=false from decide_eq_false h0,br_false,br_false,h.bad]
  exact ⟨_,_,_,rfl,rfl⟩
theorem rec_fin (k:Nat) (S:List UInt8) (hS:S.length<5000) (hk:5000<k) (hk2:k<1000000) {n:Nat} (hn:n<k) (X:Rec) (sz:SizR k n X) (r:Rdr) (x:RefRdr) (h:RR S r x):∃ (Y:Rec) (e:Int),
  (bnd (z0A.f k r) fun r3=>br (bnot (ieq r3.1 0)) (some (noR,r3.1)) (bnd (z0V.f k X) fun r4=>br (bnot r4) (some (noR,2)) (some (X,0))))=some (Y,e) ∧
  (bnd (z0t.f k x) fun r3=>br (bnot (ieq r3.1 0)) (some (noR,r3.1)) (bnd (z11.f k X) fun r4=>br (bnot r4) (some (noR,2)) (some (X,0))))=some (Y,e)∧SizR k n Y:=by
 obtain ⟨e,r',x',g1,g2⟩:=end_both k S r x h (by omega)
 obtain ⟨b,q1,q2⟩:=recright_is k X sz hn hk hk2
 rw [g1,g2,q1,q2]
 simp only [bnd_some]
 cases bnot (ieq e 0) with
 | true=>exact ⟨noR,e,rfl,rfl,noR_siz (by omega)⟩
 | false =>
  cases b with
  | true=>exact ⟨X,0,rfl,rfl,sz⟩
  | false=>exact ⟨noR,2,rfl,rfl,noR_siz (by omega)⟩
theorem rparse_is (k:Nat) (S:List UInt8) (hS:S.length<5000) (hk:5000<k) (hk2:k<1000000):∃ (Y:Rec) (e:Int),z0T.f k S=some (Y,e)∧z14.f k S=some (Y,e)∧SizR k S.length Y:=by
 obtain ⟨K,r1,x1,e1,e2,h1,_,_,_⟩:=int_is k S _ _ (open_rr S) (by omega) (by omega)
 rw [z0T.f_eq,z14.f_eq,z2s.f_eq,bnd_some]
 simp only []
 rw [e1,e2,bnd_some,bnd_some]
 simp only []
 have hk10:10<k:=by omega
 cases ieq K 1 with
 | true =>
  rw [br_true,br_true]
  obtain ⟨t,r2,x2,e3,e4,h2,st⟩:=txnr_is k S r1 x1 h1 hS hk hk2
  rw [e3,e4,bnd_some,bnd_some]
  exact rec_fin k S hS hk hk2 (by omega) (K,(t,(0,(noU,(0,(noD,emptyS)))))) (.none st) r2 x2 h2
 | false =>
 rw [br_false,br_false]
 cases ieq K 2 with
 | true =>
  rw [br_true,br_true]
  obtain ⟨u,r2,x2,e3,e4,h2,_⟩:=int_is k S r1 x1 h1 (by omega) (by omega)
  rw [e3,e4,bnd_some,bnd_some]
  simp only []
  obtain ⟨d,r3,x3,e5,e6,h3,_⟩:=dotread_is k S r2 x2 h2 (by omega) (by omega)
  rw [e5,e6,bnd_some,bnd_some]
  simp only []
  obtain ⟨n,r4,x4,e7,e8,h4,_⟩:=int_is k S r3 x3 h3 (by omega) (by omega)
  rw [e7,e8,bnd_some,bnd_some]
  simp only []
  obtain ⟨b,r5,x5,e9,e10,h5,_⟩:=int_is k S r4 x4 h4 (by omega) (by omega)
  rw [e9,e10,bnd_some,bnd_some]
  exact rec_fin k S hS hk hk2 (by omega) (K,(noT,(u,((d,n),(b,(noD,emptyS)))))) (.none (noT_siz hk10)) r5 x5 h5
 | false =>
 rw [br_false,br_false]
 cases ieq K 3 with
 | true =>
  rw [br_true,br_true]
  obtain ⟨d,r2,x2,e3,e4,h2,ld,dt⟩:=rdl_is k S r1 x1 h1 hS hk hk2
  rw [e3,e4,bnd_some,bnd_some]
  exact rec_fin k S hS hk hk2 (by omega) (K,(noT,(0,(noU,(0,(d,emptyS)))))) (.of (noT_siz hk10) ld dt (emptyS_len _) (fun t ht=>by simp [emptyS] at ht) (by simp [emptyS,zarr]) rfl rfl) r2 x2 h2
 | false =>
 rw [br_false,br_false]
 cases ieq K 4 with
 | true =>
  rw [br_true,br_true]
  obtain ⟨s,r2,x2,e3,e4,h2,ls,st,s8,_,v1,v2⟩:=star_is k S r1 x1 h1 hS hk hk2
  rw [e3,e4,bnd_some,bnd_some]
  exact rec_fin k S hS hk hk2 (by omega) (K,(noT,(0,(noU,(0,(noD,s)))))) (.of (noT_siz hk10) (noD_len _) (fun t ht=>by simp [noD] at ht) ls st s8 v1 v2) r2 x2 h2
 | false =>
  rw [br_false,br_false]
  have hb:r1.2=x1.2.2:=h1.bad
  rw [fail_is,z0k.f_eq,ieq_dec,br_dec,← hb,bnd_some]
  by_cases hz:r1.2=0
  ·rw [if_pos hz,if_pos hz,bnd_some]
   exact rec_fin k S hS hk hk2 (by omega) (K,(noT,(0,(noU,(0,(noD,emptyS)))))) (.none (noT_siz hk10)) _ _ (h1.fail (e:=18) (by decide) (by rw [← hb];exact hz))
  ·rw [if_neg hz,if_neg hz,bnd_some]
   exact rec_fin k S hS hk hk2 (by omega) (K,(noT,(0,(noU,(0,(noD,emptyS)))))) (.none (noT_siz hk10)) _ _ h1
end Go.Proofs.YtggcagclpkhlhaaGreatDoor
end
noncomputable section
/- Chapter 23's example: it is as it is told. -/
namespace Go.Proofs.YtggcagclpkhlhaaGreatDoor
open Pal
set_option maxRecDepth 1000000 in
theorem z1q.is (k:Nat):z1q.f (k+60)=some true:=by kernel_rfl
theorem awake23 {k:Nat} (h:60≤k):z1q.f k=some true:=by
 obtain ⟨q,rfl⟩:∃ q,k=q+60:=⟨k - 60,by omega⟩
 exact z1q.is q
end Go.Proofs.YtggcagclpkhlhaaGreatDoor
end
noncomputable section
/- The plain law: the run of RecordParses answers true for every input. -/
namespace Go.Proofs.YtggcagclpkhlhaaGreatDoor
open Pal
theorem recordParses_core (k:Nat) (hk:6000≤k) (hk2:k<1000000) (s:List UInt8) (hs:s.length≤600) :
  (bnd (z0T.f k s) fun r4 =>
  bnd (z14.f k s) fun r5 =>
  bnd (z1Z.f k r4.1 r5.1) fun r6 =>
  br r6
   (br (ieq r4.2 r5.2)
    (bnd (z1q.f k) fun r7 =>
    some r7)
    (some false))
   (some false))=some true:=by
 have aw:z1q.f k=some true:=awake23 (by omega)
 obtain ⟨Y,e,g1,g2,sz⟩:=rparse_is k s (by omega) (by omega) hk2
 rw [g1,g2,bnd_some,bnd_some]
 simp only []
 rw [rsameR_is k Y sz (by omega) (by omega) hk2,bnd_some,br_true,ieq_dec,decide_eq_true rfl,br_true,aw];rfl
theorem recordParses_true (s:Ty.D .str) (_:Fits .str s):∃ k,z0g.f k s=some true:=by
 refine ⟨6000,?_⟩
 rw [z0g.f_eq]
 have e:ilt 600 (ilen s)=decide (600<List.length s):=by unfold ilt ilen;exact decide_eq_decide.2 ⟨fun h=>by omega,fun h=>by omega⟩
 rw [e]
 by_cases hs:600<List.length s
 ·rw [decide_eq_true hs,br_true]
  have hin:inS 0 600 (ilen s)=true:=by
   have:(600:Int)≤(List.length s:Int):=by omega
   show (decide ((0:Int)≤0) && decide ((0:Int)≤600) && decide ((600:Int)≤(List.length s:Int)))=true
   rw [decide_eq_true this];rfl
  rw [hin,br_true]
  exact recordParses_core 6000 (by decide) (by decide) (piece s 0 600) (by unfold piece;rw [List.length_drop,List.length_take];omega)
 ·rw [decide_eq_false hs,br_false]
  exact recordParses_core 6000 (by decide) (by decide) s (by omega)
end Go.Proofs.YtggcagclpkhlhaaGreatDoor
end
noncomputable section
/- The pinned tables of unicode/utf8, out of what a tied row lists. -/
namespace Go.Proofs.YtggcagclpkhlhaaGreatDoor
open Go Go.Proofs Go.Lib
open Pal
theorem tabs_reads {W : World} (h3 : VarReads Tryz.prog W "unicode/utf8.first" firstData) (h4 : VarReads Tryz.prog W "unicode/utf8.acceptRanges" acceptData) : MonoC.tab (img W) := by
 have h:=utf8Tabs_of_readsT (U8Types.of260 { laysU8 with }) u8Extra h3 h4
 exact ⟨h.1,h.2⟩
end Go.Proofs.YtggcagclpkhlhaaGreatDoor
end
noncomputable section
/- Records that may be are parsed as they were told. -/
namespace Go.Proofs.YtggcagclpkhlhaaGreatDoor
open Pal
theorem endz_is (k:Nat):z0A.f k ([],0)=some (0,([],0)):=by
 have bt:bnot true=false:=rfl
 rw [z0A.f_eq,z0p.f_eq,fine_is]
 simp only [bnd_some,decide_true,bt,br_false]
 have e:ilt 0 (ilen ([]:List UInt8))=false:=rfl
 rw [e]
 simp only [br_false,fault_is,bnd_some]
theorem txn_of (k:Nat) {t:Txn} (st:SizT k t) (hk:10<k) (hk2:k<1000000) (c:z1g.f k t=some 0):OkT k t:=by
 obtain ⟨e,g1,g2⟩:=txn_is k t st.each st.ops hk hk2
 exact txn_ok k t st hk hk2 (g1.trans (g2.symm.trans c))
structure ShortR (x:Rec):Prop where
 t:ShortT x.2.1
 d:ShortD x.2.2.2.2.2.1
 s:ShortS x.2.2.2.2.2.2
theorem rshortR_is (k:Nat) (x:Rec) (h8:x.2.2.2.2.2.2.2.2.2.2.length=8) (hk:1000<k) (hk2:k<1000000):∃ b,z0W.f k x=some b∧(b=true→ShortR x):=by
 obtain ⟨b1,g1,i1⟩:=rtxnshort_is k x.2.1 hk hk2
 obtain ⟨b2,g2,i2⟩:=rshortDl_is k x.2.2.2.2.2.1 hk hk2
 obtain ⟨b3,g3,i3⟩:=rshortS_is k x.2.2.2.2.2.2 h8 hk hk2
 rw [z0W.f_eq,g1,g2,g3]
 simp only [bnd_some]
 cases b1 with
 | false=>exact ⟨false,rfl,fun h=>by cases h⟩
 | true =>
  cases b2 with
  | false=>exact ⟨false,rfl,fun h=>by cases h⟩
  | true=>exact ⟨b3,rfl,fun h=>⟨i1 rfl,i2 rfl,i3 h⟩⟩
theorem ShortR.siz {k:Nat} {x:Rec} (h:ShortR x) (hk:1000<k) (h8:x.2.2.2.2.2.2.2.2.2.2.length=8) (h1:x.2.2.2.2.2.2.2.2.1.1.length=16) (h2:x.2.2.2.2.2.2.2.2.2.1.1.length=16):SizR k 100 x :=
 ⟨h.t.siz hk,h.d.len,fun t ht=>(h.d.each t ht).siz hk,h.s.len,fun t ht=>(h.s.each t ht).siz hk,h8,h1,h2⟩
theorem recright_inv (k:Nat) {x:Rec} {n:Nat} (sz:SizR k n x) (hn:n<k) (hk:5000<k) (hk2:k<1000000) (h:z11.f k x=some true) :
  (x.1=1∧z1g.f k x.2.1=some 0)∨(x.1=2∧(0≤x.2.2.1∧x.2.2.1<8)∧CanU (x.2.2.2.1::[])∧(0≤x.2.2.2.2.1∧x.2.2.2.2.1≤2))∨(x.1=3∧RightDl k x.2.2.2.2.2.1)∨(x.1=4∧RightS k x.2.2.2.2.2.2):=by
 have d1:=sz.d.un;have d2:=sz.d.se;have s1:=sz.s.un;have s2:=sz.s.kn
 obtain ⟨e,t1,t2⟩:=txn_is k x.2.1 sz.t.each sz.t.ops (by omega) hk2
 obtain ⟨b2,u2,w2⟩:=rrightU_is k (x.2.2.2.1::[]) (by simp;omega) hk2
 obtain ⟨b4,q2,i2⟩:=rrightDl_isG k x.2.2.2.2.2.1 (fun t ht=>(sz.dt t ht).chk (by omega) hk2) (by omega) (by omega) hk hk2
 obtain ⟨b6,y2,j2⟩:=rrightS_isG k x.2.2.2.2.2.2 sz.v1 sz.v2 sz.s8 (fun t ht=>(sz.st t ht).chk (by omega) hk2) (fun l hl=>by have:=sz.s.re l hl;omega) (by omega) hk hk2
 rw [z11.f_eq,t2,u2,q2,y2] at h
 simp only [bnd_some] at h
 rw [ieq_dec,ieq_dec,ieq_dec,ieq_dec,ieq_dec] at h
 by_cases h1:x.1=1
 ·rw [decide_eq_true h1,br_true] at h
  injection h with h
  exact .inl ⟨h1,by rw [t2,of_decide_eq_true h]⟩
 rw [decide_eq_false h1,br_false] at h
 by_cases h2:x.1=2
 ·rw [decide_eq_true h2,br_true,show ile 0 x.2.2.1=decide (0≤x.2.2.1) from rfl,show ile x.2.2.1 7=decide (x.2.2.1≤7) from rfl,show ile 0 x.2.2.2.2.1=decide (0≤x.2.2.2.2.1) from rfl,show ile x.2.2.2.2.1 2=decide (x.2.2.2.2.1≤2) from rfl] at h
  by_cases c1:0≤x.2.2.1
  case neg=>rw [decide_eq_false c1,br_false] at h;cases h
  rw [decide_eq_true c1,br_true] at h
  by_cases c2:x.2.2.1≤7
  case neg=>rw [decide_eq_false c2,br_false] at h;cases h
  rw [decide_eq_true c2,br_true] at h
  cases b2 with
  | false=>rw [br_false] at h;cases h
  | true =>
  rw [br_true] at h
  by_cases c3:0≤x.2.2.2.2.1
  case neg=>rw [decide_eq_false c3,br_false] at h;cases h
  rw [decide_eq_true c3,br_true] at h
  injection h with h
  exact .inr (.inl ⟨h2,⟨c1,Int.lt_of_le_of_lt c2 (by decide)⟩,w2.1 rfl,c3,of_decide_eq_true h⟩)
 rw [decide_eq_false h2,br_false] at h
 by_cases h3:x.1=3
 ·rw [decide_eq_true h3,br_true] at h
  injection h with h
  exact .inr (.inr (.inl ⟨h3,i2.1 h⟩))
 rw [decide_eq_false h3,br_false] at h
 by_cases h4:x.1=4
 ·rw [decide_eq_true h4,br_true] at h
  injection h with h
  exact .inr (.inr (.inr ⟨h4,j2.1 h⟩))
 rw [decide_eq_false h4,br_false] at h
 cases h
def codeTu (x:Rec):List UInt8:=packB x.2.2.1.toNat++(codeD x.2.2.2.1.1++(packB x.2.2.2.1.2.toNat++packB x.2.2.2.2.1.toNat))
def codeRb (x:Rec):List UInt8:=if x.1=1 then codeTx x.2.1 else if x.1=2 then codeTu x else if x.1=3 then codeDl x.2.2.2.2.2.1 else codeSt x.2.2.2.2.2.2
def codeR (x:Rec):List UInt8:=packB x.1.toNat++codeRb x
def bareR (x:Rec):Rec :=
 if x.1=1 then (x.1,(x.2.1,(0,(noU,(0,(noD,emptyS)))))) else if x.1=2 then (x.1,(noT,(x.2.2.1,(x.2.2.2.1,(x.2.2.2.2.1,(noD,emptyS)))))) else if x.1=3 then (x.1,(noT,(0,(noU,(0,(x.2.2.2.2.2.1,emptyS)))))) else (x.1,(noT,(0,(noU,(0,(noD,x.2.2.2.2.2.2))))))
section
variable (k:Nat) (hk:5000<k) (hk2:k<1000000)
include hk hk2
theorem rcd_1 (t:Txn) (u:Int) (U:Undo) (b:Int) (d:Dlt) (s:Sta) (ho:OkT k t) (hs:ShortT t):z17.f k (1,(t,(u,(U,(b,(d,s))))))=some (packB 1++codeTx t)∧(codeTx t).length≤2700000:=by
 have h0:packI 1=some (packB 1):=pI 1 (by decide)
 have hl:=codeTx_le ho hs
 have hp:=packB_le (n:=1) (by omega)
 rw [z17.f_eq]
 simp only [h0,bnd_some,show ieq (1:Int) 1=true from rfl,br_true,txcode_is k ho hs hk hk2]
 rw [roomS_ok (by omega) (by omega)]
 exact ⟨rfl,by omega⟩
theorem rcd_2 (t:Txn) (u:Int) (U:Undo) (b:Int) (d:Dlt) (s:Sta) (hu:0≤u∧u<8) (hU:rightU U=true) (hb:0≤b∧b≤2):z17.f k (2,(t,(u,(U,(b,(d,s))))))=some (packB 2++(packB u.toNat++(codeD U.1++(packB U.2.toNat++packB b.toNat)))):=by
 have h0:packI 2=some (packB 2):=pI 2 (by decide)
 obtain ⟨h1,h2,h3⟩:=(rightU_iff U).1 hU
 have p0:=packB_le (n:=2) (by omega)
 have p1:=packB_le (n:=u.toNat) (by omega)
 have p2:=codeD_le h1
 have p3:=packB_le (n:=U.2.toNat) (by omega)
 have p4:=packB_le (n:=b.toNat) (by omega)
 rw [z17.f_eq]
 simp only [h0,bnd_some,show ieq (2:Int) 1=false from rfl,show ieq (2:Int) 2=true from rfl,br_true,br_false,packI_is (n:=u) (by omega),dcode_is k h1,packI_is (n:=U.2) (by omega),packI_is (n:=b) (by omega)]
 rw [roomS_ok (by omega) (by omega),br_true,roomS_ok (by unfold app;simp only [List.length_append];omega) (by omega),br_true,roomS_ok (by unfold app;simp only [List.length_append];omega) (by omega),br_true,roomS_ok (by unfold app;simp only [List.length_append];omega) (by omega),br_true]
 unfold app;simp only [List.append_assoc]
theorem rcd_3 (t:Txn) (u:Int) (U:Undo) (b:Int) (d:Dlt) (s:Sta) (sh:ShortD d) (hr:RightDl k d):z17.f k (3,(t,(u,(U,(b,(d,s))))))=some (packB 3++codeDl d):=by
 have h0:packI 3=some (packB 3):=pI 3 (by decide)
 obtain ⟨e,hl⟩:=dlcode_is k sh hr hk hk2
 have hp:=packB_le (n:=3) (by omega)
 rw [z17.f_eq]
 simp only [h0,bnd_some,show ieq (3:Int) 1=false from rfl,show ieq (3:Int) 2=false from rfl,show ieq (3:Int) 3=true from rfl,br_true,br_false,e]
 rw [roomS_ok (by omega) (by omega)];rfl
theorem rcd_4 (t:Txn) (u:Int) (U:Undo) (b:Int) (d:Dlt) (s:Sta) (sh:ShortS s) (hr:RightS k s) (h8:s.2.2.2.2.length=8):z17.f k (4,(t,(u,(U,(b,(d,s))))))=some (packB 4++codeSt s):=by
 have h0:packI 4=some (packB 4):=pI 4 (by decide)
 obtain ⟨e,hl⟩:=stcode_is k sh hr h8 hk hk2
 have hp:=packB_le (n:=4) (by omega)
 rw [z17.f_eq]
 simp only [h0,bnd_some,show ieq (4:Int) 1=false from rfl,show ieq (4:Int) 2=false from rfl,show ieq (4:Int) 3=false from rfl,br_true,br_false,e]
 rw [roomS_ok (by omega) (by omega)];rfl
end
theorem reccode_is (k:Nat) {x:Rec} (sh:ShortR x) (sz:SizR k 100 x) (hk:5000<k) (hk2:k<1000000) (h:z11.f k x=some true):z17.f k x=some (codeR x):=by
 have inv:=recright_inv k sz (by omega) hk hk2 h
 have s8:=sz.s8;have sz1:=sz.t
 obtain ⟨sT,sD,sS⟩:=sh
 clear h sz
 obtain ⟨K,t,u,U,b,d,s⟩:=x
 simp only at inv sT sD sS s8 sz1
 unfold codeR codeRb codeTu
 rcases inv with ⟨rfl,c⟩ | ⟨rfl,c1,c2,c3⟩ | ⟨rfl,c⟩ | ⟨rfl,c⟩
 ·exact (rcd_1 k hk hk2 t u U b d s (txn_of k sz1 (by omega) hk2 c) sT).1
 ·exact rcd_2 k hk hk2 t u U b d s c1 (c2.rt _ (by simp)) c3
 ·exact rcd_3 k hk hk2 t u U b d s sD c
 ·exact rcd_4 k hk hk2 t u U b d s sS c s8
theorem rpar_fin (k:Nat) (X:Rec) (hr:z0V.f k X=some true) :
  (bnd (z0A.f k ([],0)) fun r3=>br (bnot (ieq r3.1 0)) (some (noR,r3.1)) (bnd (z0V.f k X) fun r4=>br (bnot r4) (some (noR,2)) (some (X,0))))=some (X,0):=by
 have bt:bnot true=false:=rfl
 rw [endz_is,bnd_some,hr]
 simp only [show ieq (0:Int) 0=true from rfl,bt,br_false,bnd_some]
section
variable (k:Nat) (hk:5000<k) (hk2:k<1000000)
include hk hk2
theorem recright_tr (X:Rec) (sX:SizR k 100 X) (hX:z11.f k X=some true):z0V.f k X=some true:=by
 obtain ⟨b,g1,g2⟩:=recright_is k X sX (by omega) hk hk2
 exact g1.trans (g2.symm.trans hX)
theorem int_tr (n:Nat) (X:List UInt8) (hn:n<100) (hS:(packB n++X).length<4000000):z0y.f k (packB n++X,0)=some ((n:Int),(X,0)):=back_int k n X (by omega) (by omega) hS
theorem back_r1 (t:Txn) (sT:ShortT t) (sz1:SizT k t) (c:z1g.f k t=some 0):z0T.f k (packB 1++codeTx t)=some ((1,(t,(0,(noU,(0,(noD,emptyS)))))),0):=by
 have hk10:10<k:=by omega
 have ok:=txn_of k sz1 (by omega) hk2 c
 have hl:=codeTx_le ok sT
 have hp:=packB_le (n:=1) (by omega)
 have hb:z0y.f k (packB 1++codeTx t,0)=some (1,(codeTx t,0)):=int_tr k hk hk2 1 _ (by decide) (by rw [List.length_append];omega)
 have ht:=back_txn k [] ok hk hk2 (by rw [List.append_nil];omega)
 rw [List.append_nil] at ht
 have hR:=recright_tr k hk hk2 (1,(t,(0,(noU,(0,(noD,emptyS)))))) (.none sz1) (by rw [z11.f_eq];simp only [show ieq (1:Int) 1=true from rfl,br_true];rw [c,bnd_some];rfl)
 rw [z0T.f_eq,z2s.f_eq,bnd_some]
 simp only []
 rw [hb,bnd_some,show ieq (1:Int) 1=true from rfl,br_true,ht,bnd_some]
 exact rpar_fin k (1,(t,(0,(noU,(0,(noD,emptyS)))))) hR
theorem back_r2 (u:Int) (U:Undo) (b:Int) (c1:0≤u∧u<8) (c2:CanU (U::[])) (c3:0≤b∧b≤2):z0T.f k (packB 2++(packB u.toNat++(codeD U.1++(packB U.2.toNat++packB b.toNat))))=some ((2,(noT,(u,(U,(b,(noD,emptyS)))))),0):=by
 have hk10:10<k:=by omega
 have hU:=c2.rt _ (List.mem_cons_self)
 obtain ⟨h1,h2,h3⟩:=(rightU_iff U).1 hU
 have p0:=packB_le (n:=2) (by omega)
 have p1:=packB_le (n:=u.toNat) (by omega)
 have p2:=codeD_le h1
 have p3:=packB_le (n:=U.2.toNat) (by omega)
 have p4:=packB_le (n:=b.toNat) (by omega)
 have e1:((u.toNat:Nat):Int)=u:=Int.toNat_of_nonneg (by omega)
 have e2:((U.2.toNat:Nat):Int)=U.2:=Int.toNat_of_nonneg (by omega)
 have e3:((b.toNat:Nat):Int)=b:=Int.toNat_of_nonneg (by omega)
 have hb:z0y.f k (packB 2++(packB u.toNat++(codeD U.1++(packB U.2.toNat++packB b.toNat))),0)=some (2,(packB u.toNat++(codeD U.1++(packB U.2.toNat++packB b.toNat)),0)):=int_tr k hk hk2 2 _ (by decide) (by simp only [List.length_append];omega)
 have hb4:=back_int k b.toNat [] (by omega) (by omega) (by rw [List.append_nil];omega)
 rw [List.append_nil] at hb4
 have hR:=recright_tr k hk hk2 (2,(noT,(u,(U,(b,(noD,emptyS)))))) (.none (noT_siz hk10)) (by
  obtain ⟨b2,u2,w2⟩:=rrightU_is k (U::[]) (by simp;omega) hk2
  rw [z11.f_eq]
  simp only [show ieq (2:Int) 1=false from rfl,show ieq (2:Int) 2=true from rfl,br_true,br_false]
  rw [u2,w2.2 c2,show ile 0 u=true from decide_eq_true (by omega),show ile u 7=true from decide_eq_true (by omega),show ile 0 b=true from decide_eq_true (by omega),show ile b 2=true from decide_eq_true (by omega)];rfl)
 rw [z0T.f_eq,z2s.f_eq,bnd_some]
 simp only []
 rw [hb,bnd_some,show ieq (2:Int) 1=false from rfl,br_false,show ieq (2:Int) 2=true from rfl,br_true]
 simp only []
 rw [back_int k u.toNat _ (by omega) (by omega) (by simp only [List.length_append];omega),bnd_some]
 simp only []
 rw [back_dot k U.1 _ h1 (by omega) (by simp only [List.length_append];omega),bnd_some]
 simp only []
 rw [back_int k U.2.toNat _ (by omega) (by omega) (by simp only [List.length_append];omega),bnd_some]
 simp only []
 rw [hb4,bnd_some,e1,e2,e3]
 exact rpar_fin k (2,(noT,(u,(U,(b,(noD,emptyS)))))) hR
theorem back_r3 (d:Dlt) (sD:ShortD d) (c:RightDl k d) (dl:LenD 100 d) (dt:∀ t ∈ d.1,SizT k t):z0T.f k (packB 3++codeDl d)=some ((3,(noT,(0,(noU,(0,(d,emptyS)))))),0):=by
 have hk10:10<k:=by omega
 obtain ⟨e,hl⟩:=dlcode_is k sD c hk hk2
 have hp:=packB_le (n:=3) (by omega)
 have hb:z0y.f k (packB 3++codeDl d,0)=some (3,(codeDl d,0)):=int_tr k hk hk2 3 _ (by decide) (by rw [List.length_append];omega)
 have ht:=back_dl k [] sD c hk hk2 (by rw [List.append_nil];omega)
 rw [List.append_nil] at ht
 have sX:SizR k 100 (3,(noT,(0,(noU,(0,(d,emptyS)))))):=.of (noT_siz hk10) dl dt (emptyS_len _) (fun t ht=>by simp [emptyS] at ht) (by simp [emptyS,zarr]) rfl rfl
 have hR:=recright_tr k hk hk2 (3,(noT,(0,(noU,(0,(d,emptyS)))))) sX (by
  have d1:=dl.un;have d2:=dl.se
  obtain ⟨b4,q2,i2⟩:=rrightDl_isG k d (fun t ht=>(dt t ht).chk (by omega) hk2) (by omega) (by omega) hk hk2
  rw [z11.f_eq]
  simp only [show ieq (3:Int) 1=false from rfl,show ieq (3:Int) 2=false from rfl,show ieq (3:Int) 3=true from rfl,br_true,br_false]
  rw [q2,i2.2 c];rfl)
 rw [z0T.f_eq,z2s.f_eq,bnd_some]
 simp only []
 rw [hb,bnd_some,show ieq (3:Int) 1=false from rfl,br_false,show ieq (3:Int) 2=false from rfl,br_false,show ieq (3:Int) 3=true from rfl,br_true]
 simp only []
 rw [ht,bnd_some]
 exact rpar_fin k (3,(noT,(0,(noU,(0,(d,emptyS)))))) hR
theorem back_r4 (s:Sta) (sS:ShortS s) (c:RightS k s) (sl:LenS 100 s) (sst:∀ t ∈ s.1,SizT k t) (s8:s.2.2.2.2.length=8) (v1:s.2.2.1.1.length=16) (v2:s.2.2.2.1.1.length=16):z0T.f k (packB 4++codeSt s)=some ((4,(noT,(0,(noU,(0,(noD,s)))))),0):=by
 have hk10:10<k:=by omega
 obtain ⟨e,hl⟩:=stcode_is k sS c s8 hk hk2
 have hp:=packB_le (n:=4) (by omega)
 have hb:z0y.f k (packB 4++codeSt s,0)=some (4,(codeSt s,0)):=int_tr k hk hk2 4 _ (by decide) (by rw [List.length_append];omega)
 have ht:=back_state k [] sS c s8 hk hk2 (by rw [List.append_nil];omega)
 rw [List.append_nil] at ht
 have sX:SizR k 100 (4,(noT,(0,(noU,(0,(noD,s)))))):=.of (noT_siz hk10) (noD_len _) (fun t ht=>by simp [noD] at ht) sl sst s8 v1 v2
 have hR:=recright_tr k hk hk2 (4,(noT,(0,(noU,(0,(noD,s)))))) sX (by
  have s1:=sl.un;have s2:=sl.kn
  obtain ⟨b6,y2,j2⟩:=rrightS_isG k s v1 v2 s8 (fun t ht=>(sst t ht).chk (by omega) hk2) (fun l hl=>by have:=sl.re l hl;omega) (by omega) hk hk2
  rw [z11.f_eq]
  simp only [show ieq (4:Int) 1=false from rfl,show ieq (4:Int) 2=false from rfl,show ieq (4:Int) 3=false from rfl,show ieq (4:Int) 4=true from rfl,br_true,br_false]
  rw [y2,j2.2 c];rfl)
 rw [z0T.f_eq,z2s.f_eq,bnd_some]
 simp only []
 rw [hb,bnd_some,show ieq (4:Int) 1=false from rfl,br_false,show ieq (4:Int) 2=false from rfl,br_false,show ieq (4:Int) 3=false from rfl,br_false,show ieq (4:Int) 4=true from rfl,br_true]
 simp only []
 rw [ht,bnd_some]
 exact rpar_fin k (4,(noT,(0,(noU,(0,(noD,s)))))) hR
end
theorem back_rec (k:Nat) {x:Rec} (sh:ShortR x) (sz:SizR k 100 x) (hk:5000<k) (hk2:k<1000000) (h:z11.f k x=some true):z0T.f k (codeR x)=some (bareR x,0):=by
 have inv:=recright_inv k sz (by omega) hk hk2 h
 have s8:=sz.s8;have sz1:=sz.t;have dt:=sz.dt;have sst:=sz.st;have v1:=sz.v1;have v2:=sz.v2;have dl:=sz.d;have sl:=sz.s
 obtain ⟨sT,sD,sS⟩:=sh
 clear h sz
 obtain ⟨K,t,u,U,b,d,s⟩:=x
 simp only at inv sT sD sS s8 sz1 dt sst v1 v2 dl sl
 rcases inv with ⟨rfl,c⟩ | ⟨rfl,c1,c2,c3⟩ | ⟨rfl,c⟩ | ⟨rfl,c⟩
 ·exact back_r1 k hk hk2 t sT sz1 c
 ·exact back_r2 k hk hk2 u U b c1 c2 c3
 ·exact back_r3 k hk hk2 d sD c dl dt
 ·exact back_r4 k hk hk2 s sS c sl sst s8 v1 v2
end Go.Proofs.YtggcagclpkhlhaaGreatDoor
end
noncomputable section
/- The plain law: the run of RecordBack answers true for every record. -/
namespace Go.Proofs.YtggcagclpkhlhaaGreatDoor
open Pal
theorem bare_is (k:Nat) {x:Rec} (hK:x.1=1∨x.1=2∨x.1=3∨x.1=4):z28.f k x=some (bareR x):=by
 obtain ⟨K,t,u,U,b,d,s⟩:=x
 simp only at hK
 rw [z28.f_eq]
 rcases hK with rfl | rfl | rfl | rfl <;> rfl
theorem bare_siz {k n:Nat} {x:Rec} (sz:SizR k n x) (hk:10<k):SizR k n (bareR x):=by
 obtain ⟨K,t,u,U,b,d,s⟩:=x
 unfold bareR
 simp only
 split
 ·exact .none sz.t
 split
 ·exact .none (noT_siz hk)
 split
 ·exact .of (noT_siz hk) sz.d sz.dt (emptyS_len _) (fun t ht=>by simp [emptyS] at ht) (by simp [emptyS,zarr]) rfl rfl
 ·exact .of (noT_siz hk) (noD_len _) (fun t ht=>by simp [noD] at ht) sz.s sz.st sz.s8 sz.v1 sz.v2
theorem recordBack_at (k:Nat) (hk:5000<k) (hk2:k<1000000) (x:Ty.D tRecord) (fx:Fits tRecord x):z0v.f k x=some true:=by
 have aw:z1q.f k=some true:=awake23 (by omega)
 have bt:bnot true=false:=rfl
 have bf:bnot false=true:=rfl
 have fs:Fits tState x.2.2.2.2.2.2:=fx.2.2.2.2.2.2
 have v1:x.2.2.2.2.2.2.2.2.1.1.length=16:=fs.2.2.1.1.1
 have v2:x.2.2.2.2.2.2.2.2.2.1.1.length=16:=fs.2.2.2.1.1.1
 have h8:x.2.2.2.2.2.2.2.2.2.2.length=8:=fs.2.2.2.2.1
 obtain ⟨c1,g1,i1⟩:=rshortR_is k x h8 (by omega) hk2
 rw [z0v.f_eq,g1,aw,bnd_some]
 cases c1 with
 | false=>rw [bf];rfl
 | true =>
 have sh:=i1 rfl
 have sz:=sh.siz (k:=k) (by omega) h8 v1 v2
 obtain ⟨b,q1,q2⟩:=recright_is k x sz (by omega) hk hk2
 rw [bt,br_false,q2,bnd_some]
 cases b with
 | false=>rw [bf];rfl
 | true =>
 have inv:=recright_inv k sz (by omega) hk hk2 q2
 rw [bt,br_false,reccode_is k sh sz hk hk2 q2,bnd_some,back_rec k sh sz hk hk2 q2,bnd_some]
 simp only []
 rw [show ieq (0:Int) 0=true from rfl,br_true,bare_is k (by
  rcases inv with h | h | h | h
  ·exact .inl h.1
  ·exact .inr (.inl h.1)
  ·exact .inr (.inr (.inl h.1))
  ·exact .inr (.inr (.inr h.1))),bnd_some,rsameR_is k _ (bare_siz sz (by omega)) (by omega) (by omega) hk2,bnd_some,br_true,bnd_some]
theorem recordBack_true (x:Ty.D tRecord) (fx:Fits tRecord x):∃ k,z0v.f k x=some true:=⟨6000,recordBack_at 6000 (by decide) (by decide) x fx⟩
end Go.Proofs.YtggcagclpkhlhaaGreatDoor
end
