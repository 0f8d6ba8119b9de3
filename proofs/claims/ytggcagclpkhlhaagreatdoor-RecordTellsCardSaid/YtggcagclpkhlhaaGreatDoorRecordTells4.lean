/- The functions that the statement reaches, and what they come to. Part 4. -/
import Derived.Lib.DecodeN
import Derived.Test.YtggcagclpkhlhaaGreatDoorFw1
import Derived.Test.YtggcagclpkhlhaaGreatDoorFw2
import Derived.Test.YtggcagclpkhlhaaGreatDoorFw3
import Derived.Test.YtggcagclpkhlhaaGreatDoorRecordTells1
import Derived.Test.YtggcagclpkhlhaaGreatDoorRecordTells2
import Derived.Test.YtggcagclpkhlhaaGreatDoorRecordTells3
set_option linter.unusedVariables false
set_option linter.unusedSimpArgs false
set_option linter.unusedSectionVars false
noncomputable section
/- The document's checks of names, paths, values, operations and transactions answer, of short ones. -/
namespace Go.Proofs.YtggcagclpkhlhaaGreatDoor
open Pal
abbrev Str:=List UInt8
abbrev Val:=Int × (Int × Str)
abbrev Op:=Int × (List Str × (Val × (Int × List (Dot × Int))))
abbrev Txn:=Dot × (Int × (Int × (Bool × List Op)))
noncomputable instance decOp:DecidableEq Op:=fun a b=>Classical.propDecidable (a=b)
noncomputable instance decTxn:DecidableEq Txn:=fun a b=>Classical.propDecidable (a=b)
theorem ilt_lenR {α:Type} (c:Nat) (xs:List α):ilt (c:Int) (ilen xs)=decide (c<xs.length):=by unfold ilt ilen;exact decide_eq_decide.2 ⟨fun h=>by omega,fun h=>by omega⟩
theorem ile_len {α:Type} (c:Nat) (xs:List α):ile (ilen xs) (c:Int)=decide (xs.length≤c):=by unfold ile ilen;exact decide_eq_decide.2 ⟨fun h=>by omega,fun h=>by omega⟩
theorem rchar_is (k:Nat) (s:Str) (hk:10<k) (hs:s.length<4000000):∃ (c n:Int),z1D.f k s=some (c,n)∧0≤n∧n≤(s.length:Int):=by
 rw [z1D.f_eq]
 have e0:ieq (ilen s) 0=decide (s.length=0):=ieq0 s
 rw [e0]
 by_cases h0:s.length=0
 ·rw [decide_eq_true h0];exact ⟨0,0,rfl,by decide,by omega⟩
 rw [decide_eq_false h0]
 have e1:inL 0 s=true:=by
  have:=inL_nat 0 s
  rw [show inL 0 s=decide (0<s.length) from this];exact decide_eq_true (by omega)
 have l2:∀ c:Nat,ilt (ilen s) (c:Int)=decide (s.length<c):=fun c=>by unfold ilt ilen;exact decide_eq_decide.2 ⟨fun h=>by omega,fun h=>by omega⟩
 have key:∀ (N:Nat) (m x:Int),1≤N→N≤s.length→N≤4→∃ (c n:Int),z1D.l17 k k s x (N:Int) m 1=some (c,n)∧0≤n∧n≤(s.length:Int):=by
  intro N m x hN1 hN hN4
  have:∀ n i (x:Int),1≤i→N<n+i→i≤N→∃ (c q:Int),z1D.l17 k n s x (N:Int) m (i:Int)=some (c,q)∧0≤q∧q≤(s.length:Int):=by
   intro n
   induction n with
   | zero =>
    intro i x h1 h2 h3
    omega
   | succ n ih =>
    intro i x h1 h2 h3
    rw [z1D.l17_eq,ilt_nn]
    by_cases hi:i<N
    ·have e2:inL (i:Int) s=true:=by rw [inL_nat];exact decide_eq_true (by omega)
     have e3:iadd .i64 (i:Int) 1=((i+1:Nat):Int):=iadd_nat (by omega)
     rw [decide_eq_true hi,e2,e3]
     simp only [br_true]
     have z:∃ (c q:Int),(some ((0:Int),(0:Int)))=some (c,q)∧0≤q∧q≤(s.length:Int):=⟨0,0,rfl,by decide,by omega⟩
     have y:=ih (i+1) (isub .i64 (iadd .i64 (imul .i64 64 x) (iwrap .i64 (byteAt s (i:Int)))) 128) (by omega) (by omega) (by omega)
     cases ilt (byteAt s (i:Int)) 128 with
     | true=>exact z
     | false =>
      cases ilt 191 (byteAt s (i:Int)) with
      | true=>exact z
      | false=>exact y
    ·rw [decide_eq_false hi]
     simp only [br_false]
     have z:∃ (c q:Int),(some ((0:Int),(0:Int)))=some (c,q)∧0≤q∧q≤(s.length:Int):=⟨0,0,rfl,by decide,by omega⟩
     have y:∃ (c q:Int),(some (x,(N:Int)))=some (c,q)∧0≤q∧q≤(s.length:Int):=⟨x,N,rfl,by omega,by omega⟩
     cases ilt x m with
     | true=>exact z
     | false =>
      cases ilt 1114111 x with
      | true=>exact z
      | false =>
       cases ile 55296 x with
       | false=>exact y
       | true=>cases ile x 57343 with
        | true=>exact z
        | false=>exact y
  exact this k 1 x (by omega) (by omega) (by omega)
 have z:∃ (c q:Int),(some ((0:Int),(0:Int)))=some (c,q)∧0≤q∧q≤(s.length:Int):=⟨0,0,rfl,by decide,by omega⟩
 have kk:∀ (N:Nat) (m x:Int),1≤N→N≤4→∃ (c n:Int),br (ilt (ilen s) (N:Int)) (some ((0:Int),(0:Int))) (z1D.l17 k k s x (N:Int) m 1)=some (c,n)∧0≤n∧n≤(s.length:Int):=by
  intro N m x hN1 hN
  rw [l2]
  by_cases h:s.length<N
  ·rw [decide_eq_true h];exact z
  ·rw [decide_eq_false h];exact key N m x hN1 (by omega) hN
 have k2:=fun m x=>kk 2 m x (by decide) (by decide)
 have k3:=fun m x=>kk 3 m x (by decide) (by decide)
 have k4:=fun m x=>kk 4 m x (by decide) (by decide)
 rw [e1]
 simp only [br_true,br_false]
 generalize iwrap .i64 (byteAt s 0)=b
 cases ilt b 128 with
 | true=>exact ⟨b,1,rfl,by decide,by omega⟩
 | false =>
  cases ile 194 b <;> cases ilt b 224 <;> cases ile 224 b <;> cases ilt b 240 <;> cases ile 240 b <;> cases ilt b 245 <;> simp only [br_true,br_false] <;> first | exact z | exact k2 _ _ | exact k3 _ _ | exact k4 _ _
theorem rrunes_is (k:Nat) (s:Str) (hk:10<k) (hs:s.length<k) (hk2:k<1000000):∃ (l:List Int) (b:Bool),z0D.f k s=some (l,b)∧l.length≤s.length:=by
 rw [z0D.f_eq]
 have:∀ n i (l:List Int),i≤s.length→s.length<n+i→l.length≤i→∃ (l':List Int) (b:Bool),z0D.l3 k n s l (i:Int)=some (l',b)∧l'.length≤s.length:=by
  intro n
  induction n with
  | zero=>intro i l h1 h2;omega
  | succ n ih =>
   intro i l h1 h2 hl
   rw [z0D.l3_eq,ilt_nat]
   by_cases hi:i<s.length
   ·have hin:inS (i:Int) (ilen s) (ilen s)=true:=by
     have h1:(i:Int)≤(s.length:Int):=by omega
     show (decide ((0:Int)≤(i:Int)) && decide ((i:Int)≤(s.length:Int)) && decide ((s.length:Int)≤(s.length:Int)))=true
     rw [decide_eq_true h1,decide_eq_true (show (0:Int)≤(i:Int) by omega),decide_eq_true (Int.le_refl _)];rfl
    have hp:(piece s (i:Int) (ilen s)).length=s.length - i:=by
     unfold piece ilen
     rw [Int.toNat_natCast,Int.toNat_natCast,List.take_length,List.length_drop]
    obtain ⟨c,q,hc,q0,q1⟩:=rchar_is k (piece s (i:Int) (ilen s)) hk (by omega)
    rw [decide_eq_true hi,hin,hc]
    simp only [br_true,bnd_some,ieq_dec]
    rw [hp] at q1
    by_cases hq:q=0
    ·rw [decide_eq_true hq];exact ⟨[],false,rfl,by simp⟩
    ·rw [decide_eq_false hq]
     simp only [br_false]
     have hr:room l (c::[])=true:=room_le (by simp only [List.length_cons,List.length_nil];omega)
     obtain ⟨Q,rfl⟩:∃ Q:Nat,q=(Q:Int):=⟨q.toNat,by omega⟩
     have e3:iadd .i64 (i:Int) (Q:Int)=((i+Q:Nat):Int):=by rw [iadd_s (by omega) (by omega) (by omega) (by omega)];omega
     rw [hr,e3]
     simp only [br_true]
     exact ih (i+Q) _ (by omega) (by omega) (by simp only [app,List.length_append,List.length_cons,List.length_nil];omega)
   ·rw [decide_eq_false hi]
    exact ⟨l,true,rfl,by omega⟩
 exact this k 0 [] (by omega) (by omega) (by simp)
theorem rmay_tot (k:Nat) (c:Int):Tot (z1W.f k c):=by
 rw [z1W.f_eq]
 repeat' first | exact some_tot _ | apply br_tot
theorem rname_tot (k:Nat) (s:Str) (hk:10<k) (hs:s.length<k) (hk2:k<1000000):Tot (z12.f k s):=by
 obtain ⟨l,b,h,hl⟩:=rrunes_is k s hk hs hk2
 rw [z12.f_eq,h]
 simp only [bnd_some]
 refine loop_tot l.length (fun n i=>z12.l3 k n l b (i:Int)) (fun n i hi ih=>?_) (fun n=>?_) k 0 (by omega) (by omega)
 ·have e3:iadd .i64 (i:Int) 1=((i+1:Nat):Int):=iadd_nat (by omega)
  simp only [z12.l3_eq,ilt_nat,inL_nat,hi,decide_true,br_true,e3]
  exact bnd_tot' (rmay_tot k _) fun r=>br_tot (some_tot _) ih
 ·simp only [z12.l3_eq,ilt_nat,Nat.lt_irrefl,decide_false,br_false]
  repeat' first | exact some_tot _ | apply br_tot
def ShortP (p:List Str):Prop:=p.length≤12∧∀ s ∈ p,List.length s≤120
theorem rpath_tot (k:Nat) (p:List Str) (hp:ShortP p) (hk:1000<k) (hk2:k<1000000):Tot (z0B.f k p):=by
 rw [z0B.f_eq]
 refine br_tot (some_tot _) (br_tot (some_tot _) ?_)
 have:=hp.1
 refine loop_tot p.length (fun n i=>z0B.l6 k n p (i:Int)) (fun n i hi ih=>?_) (fun n=>?_) k 0 (by omega) (by omega)
 ·have e3:iadd .i64 (i:Int) 1=((i+1:Nat):Int):=iadd_nat (by omega)
  simp only [z0B.l6_eq,ilt_nat,inL_nat,natOf_nat,hi,decide_true,br_true,e3,rd_at' (e:=.str) hi]
  have:=hp.2 p[i] (List.getElem_mem hi)
  exact bnd_tot' (rname_tot k _ (by omega) (by omega) hk2) fun r=>br_tot (some_tot _) ih
 ·simp only [z0B.l6_eq,ilt_nat,Nat.lt_irrefl,decide_false,br_false]
  exact some_tot _
theorem rval_tot (k:Nat) (v:Val) (hv:v.2.2.length≤200) (hk:1000<k) (hk2:k<1000000):Tot (z0V.f k v):=by
 rw [z0V.f_eq]
 obtain ⟨l,b,h,hl⟩:=rrunes_is k v.2.2 (by omega) (by omega) hk2
 rw [h]
 simp only [bnd_some]
 repeat' first | exact some_tot _ | apply br_tot
theorem rrefs_tot (k:Nat) (l:List (Dot × Int)) (hl:l.length≤300) (hk:1000<k) (hk2:k<1000000):Tot (z19.f k l):=by
 rw [z19.f_eq]
 refine loop_tot l.length (fun n i=>z19.l2 k n l (i:Int)) (fun n i hi ih=>?_) (fun n=>?_) k 0 (by omega) (by omega)
 ·have e3:iadd .i64 (i:Int) 1=((i+1:Nat):Int):=iadd_nat (by omega)
  have e4:ilt 0 (i:Int)=decide (0<i):=ilt_nn 0 i
  simp only [z19.l2_eq,ilt_nat,inL_nat,hi,decide_true,br_true,e3,rright_is,bnd_some,e4]
  refine br_tot (some_tot _) (br_tot (some_tot _) (br_tot (some_tot _) ?_))
  by_cases h0:0<i
  ·have hi1:i - 1<l.length:=by omega
   have e5:isub .i64 (i:Int) 1=((i - 1:Nat):Int):=by rw [isub_s (by omega) (by omega) (by omega) (by omega)];omega
   simp only [h0,decide_true,br_true,e5,inL_nat,hi1,z1j.f_eq,rcmp_is,bnd_some]
   refine bnd_tot' (br_tot (some_tot _) (bnd_tot' ?_ fun r=>some_tot _)) fun r=>br_tot (some_tot _) ih
   rw [z1o.f_eq]
   repeat' first | exact some_tot _ | apply br_tot
  ·simp only [h0,decide_false,br_false];exact ih
 ·simp only [z19.l2_eq,ilt_nat,Nat.lt_irrefl,decide_false,br_false]
  exact some_tot _
structure ShortO (o:Op):Prop where
 path:ShortP o.2.1
 val:o.2.2.1.2.2.length≤200
 seen:o.2.2.2.2.length≤300
theorem rgone_tot (k:Nat) (o:Op):Tot (z1t.f k o):=by
 rw [z1t.f_eq]
 repeat' first | exact some_tot _ | apply br_tot
theorem rop_tot (k:Nat) (o:Op) (ho:ShortO o) (hk:1000<k) (hk2:k<1000000):Tot (z0X.f k o):=by
 rw [z0X.f_eq]
 obtain ⟨r1,h1⟩:=rpath_tot k _ ho.path hk hk2
 obtain ⟨r2,h2⟩:=rval_tot k _ ho.val hk hk2
 obtain ⟨r3,h3⟩:=rrefs_tot k _ ho.seen hk hk2
 rw [h1,h2,h3]
 simp only [bnd_some]
 repeat' first | exact some_tot _ | apply br_tot
structure ShortT (t:Txn):Prop where
 len:t.2.2.2.2.length≤20
 ops:∀ o ∈ t.2.2.2.2,ShortO o
theorem rpathshort_is (k:Nat) (p:List Str) (hk:1000<k) (hk2:k<1000000):∃ b,z14.f k p=some b∧(b=true→ShortP p):=by
 rw [z14.f_eq,show ilt 12 (ilen p)=decide (12<p.length) from ilt_lenR 12 p]
 by_cases h:12<p.length
 ·rw [decide_eq_true h];exact ⟨false,rfl,fun h=>by cases h⟩
 ·rw [decide_eq_false h]
  simp only [br_false]
  obtain ⟨b,hb,hbi⟩:=loop_all' p.length (fun n i=>z14.l4 k n p (i:Int)) (fun j=>∀ s,p[j]? = some s→List.length s≤120) (fun n i hi=>by
   have e3:iadd .i64 (i:Int) 1=((i+1:Nat):Int):=iadd_nat (by omega)
   have e4:ilt 120 (ilen p[i])=decide (120<List.length p[i]):=ilt_lenR 120 p[i]
   simp only [z14.l4_eq,ilt_nat,inL_nat,natOf_nat,hi,decide_true,br_true,e3,rd_at' (e:=.str) hi,e4,br_dec,List.getElem?_eq_getElem hi]
   by_cases hl:120<List.length p[i]
   ·exact .inr ⟨fun hh=>by have:=hh _ rfl;omega,if_pos hl⟩
   ·exact .inl ⟨fun s hs=>by injection hs with hs;subst hs;omega,if_neg hl⟩) (fun n=>by simp only [z14.l4_eq,ilt_nat,Nat.lt_irrefl,decide_false,br_false]) k 0 (by omega) (by omega)
  refine ⟨b,hb,fun hh=>⟨by omega,fun s hs=>?_⟩⟩
  obtain ⟨j,hj,rfl⟩:=List.mem_iff_getElem.1 hs
  exact hbi.1 hh j (by omega) hj _ (List.getElem?_eq_getElem hj)
theorem ropshort_is (k:Nat) (o:Op) (hk:1000<k) (hk2:k<1000000):∃ b,z0L.f k o=some b∧(b=true→ShortO o):=by
 obtain ⟨b,hb,hbi⟩:=rpathshort_is k o.2.1 hk hk2
 rw [z0L.f_eq,hb]
 simp only [bnd_some]
 rw [show ile (ilen o.2.2.1.2.2) 200=decide (o.2.2.1.2.2.length≤200) from ile_len 200 _,show ile (ilen o.2.2.2.2) 300=decide (o.2.2.2.2.length≤300) from ile_len 300 _]
 cases b with
 | false=>exact ⟨false,rfl,fun h=>by cases h⟩
 | true =>
  simp only [br_true,br_dec]
  by_cases h:o.2.2.1.2.2.length≤200
  ·rw [if_pos h];exact ⟨_,rfl,fun hh=>⟨hbi rfl,h,of_decide_eq_true hh⟩⟩
  ·rw [if_neg h];exact ⟨false,rfl,fun h=>by cases h⟩
def shortAt (k:Nat) (t:Txn) (j:Nat):Prop:=∀ o,t.2.2.2.2[j]? = some o→∃ b,z0L.f k o=some b∧b=true
theorem rtxnshort_is (k:Nat) (t:Txn) (hk:1000<k) (hk2:k<1000000):∃ b,z10.f k t=some b∧(b=true→ShortT t):=by
 rw [z10.f_eq,show ilt 20 (ilen t.2.2.2.2)=decide (20<t.2.2.2.2.length) from ilt_lenR 20 _]
 by_cases h:20<t.2.2.2.2.length
 ·rw [decide_eq_true h];exact ⟨false,rfl,fun h=>by cases h⟩
 ·rw [decide_eq_false h]
  simp only [br_false]
  obtain ⟨b,hb,hbi⟩:=loop_all' t.2.2.2.2.length (fun n i=>br (decide True) (z10.l4 k n (i:Int) t) none) (shortAt k t) (fun n i hi=>by
   have e3:iadd .i64 (i:Int) 1=((i+1:Nat):Int):=iadd_nat (by omega)
   obtain ⟨b,hb,_⟩:=ropshort_is k t.2.2.2.2[i] hk hk2
   simp only [decide_true,br_true,z10.l4_eq,ilt_nat,inL_nat,natOf_nat,hi,e3,rd_at' (e:=tOp) hi,hb,bnd_some]
   cases b with
   | false=>exact .inr ⟨fun hh=>(by obtain ⟨c,h1,h2⟩:=hh _ (List.getElem?_eq_getElem hi);rw [hb] at h1;injection h1 with h1;subst h1;cases h2),rfl⟩
   | true=>exact .inl ⟨fun s hs=>(by rw [List.getElem?_eq_getElem hi] at hs;injection hs with hs;subst hs;exact ⟨true,hb,rfl⟩),rfl⟩) (fun n=>by simp only [decide_true,br_true,z10.l4_eq,ilt_nat,Nat.lt_irrefl,decide_false,br_false]) k 0 (by omega) (by omega)
  refine ⟨b,hb,fun hh=>⟨by omega,fun o ho=>?_⟩⟩
  obtain ⟨j,hj,rfl⟩:=List.mem_iff_getElem.1 ho
  obtain ⟨c,h1,h2⟩:=hbi.1 hh j (by omega) hj _ (List.getElem?_eq_getElem hj)
  obtain ⟨d,h3,h4⟩:=ropshort_is k _ hk hk2
  rw [h3] at h1;injection h1 with h1;subst h1
  exact h4 h2
theorem rtxn_is (k:Nat) (t:Txn) (ht:ShortT t) (hk:1000<k) (hk2:k<1000000):∃ e:Int,z0z.f k t=some e∧(e=0→rightD t.1=true):=by
 rw [z0z.f_eq,rright_is]
 simp only [bnd_some]
 cases hd:rightD t.1 with
 | false=>exact ⟨2,rfl,fun h=>by cases h⟩
 | true =>
  have:Tot (z0z.l8 k k 0 t):=by
   have:=ht.len
   refine loop_tot t.2.2.2.2.length (fun n i=>z0z.l8 k n (i:Int) t) (fun n i hi ih=>?_) (fun n=>?_) k 0 (by omega) (by omega)
   ·have e3:iadd .i64 (i:Int) 1=((i+1:Nat):Int):=iadd_nat (by omega)
    obtain ⟨e,he⟩:=rop_tot k t.2.2.2.2[i] (ht.ops _ (List.getElem_mem hi)) hk hk2
    obtain ⟨g,hg⟩:=rgone_tot k t.2.2.2.2[i]
    simp only [z0z.l8_eq,ilt_nat,inL_nat,natOf_nat,hi,decide_true,br_true,e3,rd_at' (e:=tOp) hi,he,hg,bnd_some]
    exact br_tot (br_tot (br_tot (some_tot _) ih) (br_tot (some_tot _) ih)) ih
   ·simp only [z0z.l8_eq,ilt_nat,Nat.lt_irrefl,decide_false,br_false]
    exact some_tot _
  have bt:bnot true=false:=rfl
  rw [bt]
  simp only [br_false]
  have all:Tot (br (ilt t.2.1 0) (some (2:Int)) (br (ilt 7 t.2.1) (some 2) (br (ilt t.2.2.1 1) (some 2) (br (ilt 1099511627776 t.2.2.1) (some 2) (br (ieq (ilen t.2.2.2.2) 0) (some 11) (br (ilt 16 (ilen t.2.2.2.2)) (some 7) (z0z.l8 k k 0 t))))))):=by
   repeat' first | exact some_tot _ | exact this | apply br_tot
  obtain ⟨e,he⟩:=all
  exact ⟨e,he,fun _=>trivial⟩
end Go.Proofs.YtggcagclpkhlhaaGreatDoor
end
noncomputable section
/- The document's characters are the machine's. -/
namespace Go.Proofs.YtggcagclpkhlhaaGreatDoor
open Pal
def finN (x m w:Nat):Nat × Nat:=if x<m∨1114111<x∨(55296≤x∧x≤57343) then (0,0) else (x,w)
def refN (n b0 b1 b2 b3:Nat):Nat × Nat :=
 if b0<128 then (b0,1)
 else if 194≤b0∧b0<224 then (if n<2 then (0,0) else if b1<128∨191<b1 then (0,0) else finN (64 * (b0 - 192)+b1 - 128) 128 2)
 else if 224≤b0∧b0<240 then (if n<3 then (0,0) else if b1<128∨191<b1 then (0,0) else if b2<128∨191<b2 then (0,0) else finN (64 * (64 * (b0 - 224)+b1 - 128)+b2 - 128) 2048 3)
 else if 240≤b0∧b0<245 then (if n<4 then (0,0) else if b1<128∨191<b1 then (0,0) else if b2<128∨191<b2 then (0,0) else if b3<128∨191<b3 then (0,0) else finN (64 * (64 * (64 * (b0 - 240)+b1 - 128)+b2 - 128)+b3 - 128) 65536 4)
 else (0,0)
def charN (n b0 b1 b2 b3:Nat):Nat × Nat:=if (Go.Lib.decodeN n b0 b1 b2 b3).1=65533∧(Go.Lib.decodeN n b0 b1 b2 b3).2≤1 then (0,0) else Go.Lib.decodeN n b0 b1 b2 b3
theorem charN_bad {n b0 b1 b2 b3:Nat} (e:Go.Lib.decodeN n b0 b1 b2 b3=(65533,1)):charN n b0 b1 b2 b3=(0,0):=by
 unfold charN;rw [e];exact if_pos ⟨rfl,Nat.le_refl _⟩
theorem charN_ok {n b0 b1 b2 b3 c w:Nat} (e:Go.Lib.decodeN n b0 b1 b2 b3=(c,w)) (h:¬ (c=65533∧w≤1)):charN n b0 b1 b2 b3=(c,w):=by
 unfold charN;rw [e];exact if_neg h
theorem decN2 {n b0 b1 b2 b3:Nat} (h:194≤b0∧b0<224):Go.Lib.decodeN n b0 b1 b2 b3=if 1<n∧b1 / 64=2 then (b0 % 32 * 64+b1 % 64,2) else (65533,1):=by
 unfold Go.Lib.decodeN
 rw [if_neg (show ¬ b0<128 by omega)]
 by_cases g:1<n∧b1 / 64=2
 ·rw [if_pos (show b0 / 32=6∧(1<n∧b1 / 64=2) from ⟨by omega,g⟩),if_pos g,if_pos (show b0 % 32 * 64+b1 % 64≥128 by omega)]
 ·rw [if_neg (show ¬ (b0 / 32=6∧(1<n∧b1 / 64=2)) from fun h=>g h.2),if_neg g,if_neg (fun hh=>by omega),if_neg (fun hh=>by omega)]
def val3 (b0 b1 b2:Nat):Nat:=b0 % 16 * 4096+b1 % 64 * 64+b2 % 64
def val4 (b0 b1 b2 b3:Nat):Nat:=b0 % 8 * 262144+b1 % 64 * 4096+b2 % 64 * 64+b3 % 64
theorem decN3 {n b0 b1 b2 b3:Nat} (h:224≤b0∧b0<240):Go.Lib.decodeN n b0 b1 b2 b3=if (1<n∧b1 / 64=2)∧(2<n∧b2 / 64=2) then (if val3 b0 b1 b2≥2048∧(val3 b0 b1 b2<55296∨(57344≤val3 b0 b1 b2∧val3 b0 b1 b2≤1114111)) then (val3 b0 b1 b2,3) else (65533,1)) else (65533,1):=by
 unfold Go.Lib.decodeN
 rw [if_neg (show ¬ b0<128 by omega),if_neg (show ¬ (b0 / 32=6∧(1<n∧b1 / 64=2)) from fun hh=>by omega)]
 by_cases g:(1<n∧b1 / 64=2)∧(2<n∧b2 / 64=2)
 ·rw [if_pos (show b0 / 16=14∧(1<n∧b1 / 64=2)∧(2<n∧b2 / 64=2) from ⟨by omega,g⟩),if_pos g];rfl
 ·rw [if_neg (show ¬ (b0 / 16=14∧(1<n∧b1 / 64=2)∧(2<n∧b2 / 64=2)) from fun h=>g h.2),if_neg g,if_neg (fun hh=>by omega)]
theorem decN4 {n b0 b1 b2 b3:Nat} (h:240≤b0∧b0<248):Go.Lib.decodeN n b0 b1 b2 b3=if (1<n∧b1 / 64=2)∧(2<n∧b2 / 64=2)∧(3<n∧b3 / 64=2) then (if val4 b0 b1 b2 b3≥65536∧(val4 b0 b1 b2 b3<55296∨(57344≤val4 b0 b1 b2 b3∧val4 b0 b1 b2 b3≤1114111)) then (val4 b0 b1 b2 b3,4) else (65533,1)) else (65533,1):=by
 unfold Go.Lib.decodeN
 rw [if_neg (show ¬ b0<128 by omega),if_neg (show ¬ (b0 / 32=6∧(1<n∧b1 / 64=2)) from fun hh=>by omega),if_neg (show ¬ (b0 / 16=14∧(1<n∧b1 / 64=2)∧(2<n∧b2 / 64=2)) from fun hh=>by omega)]
 by_cases g:(1<n∧b1 / 64=2)∧(2<n∧b2 / 64=2)∧(3<n∧b3 / 64=2)
 ·rw [if_pos (show b0 / 8=30∧(1<n∧b1 / 64=2)∧(2<n∧b2 / 64=2)∧(3<n∧b3 / 64=2) from ⟨by omega,g⟩),if_pos g];rfl
 ·rw [if_neg (show ¬ (b0 / 8=30∧(1<n∧b1 / 64=2)∧(2<n∧b2 / 64=2)∧(3<n∧b3 / 64=2)) from fun h=>g h.2),if_neg g]
theorem decN0 {n b0 b1 b2 b3:Nat} (h:(128≤b0∧b0<194)∨248≤b0) (hb:b0<256):Go.Lib.decodeN n b0 b1 b2 b3=(65533,1):=by
 unfold Go.Lib.decodeN
 rw [if_neg (show ¬ b0<128 by omega)]
 by_cases g:b0 / 32=6∧(1<n∧b1 / 64=2)
 ·rw [if_pos g,if_neg (show ¬ b0 % 32 * 64+b1 % 64≥128 by omega)]
 ·rw [if_neg g,if_neg (show ¬ (b0 / 16=14∧(1<n∧b1 / 64=2)∧(2<n∧b2 / 64=2)) from fun hh=>by omega),if_neg (show ¬ (b0 / 8=30∧(1<n∧b1 / 64=2)∧(2<n∧b2 / 64=2)∧(3<n∧b3 / 64=2)) from fun hh=>by omega)]
theorem finN_no {x m w:Nat} (h:¬ (x≥m∧(x<55296∨(57344≤x∧x≤1114111)))):finN x m w=(0,0):=if_pos (by omega)
theorem finN_ok {x m w:Nat} (h:x≥m∧(x<55296∨(57344≤x∧x≤1114111))):finN x m w=(x,w):=if_neg (by omega)
theorem refN_eq (n b0 b1 b2 b3:Nat) (hn:1≤n) (h0:b0<256) (h1:b1<256) (h2:b2<256) (h3:b3<256):refN n b0 b1 b2 b3=charN n b0 b1 b2 b3:=by
 unfold refN
 by_cases c0:b0<128
 ·have e:Go.Lib.decodeN n b0 b1 b2 b3=(b0,1):=by unfold Go.Lib.decodeN;rw [if_pos c0]
  rw [if_pos c0,charN_ok e (fun h=>by omega)]
 rw [if_neg c0]
 by_cases c1:194≤b0∧b0<224
 ·rw [if_pos c1]
  have e:=decN2 (n:=n) (b1:=b1) (b2:=b2) (b3:=b3) c1
  by_cases g:1<n∧b1 / 64=2
  ·rw [if_pos g] at e
   rw [charN_ok e (fun h=>by omega),if_neg (show ¬ n<2 by omega),if_neg (show ¬ (b1<128∨191<b1) by omega),show 64 * (b0 - 192)+b1 - 128=b0 % 32 * 64+b1 % 64 by omega]
   exact finN_ok (by omega)
  ·rw [if_neg g] at e
   rw [charN_bad e]
   by_cases g1:n<2
   ·rw [if_pos g1]
   ·rw [if_neg g1,if_pos (show b1<128∨191<b1 by omega)]
 rw [if_neg c1]
 by_cases c2:224≤b0∧b0<240
 ·rw [if_pos c2]
  have e:=decN3 (n:=n) (b1:=b1) (b2:=b2) (b3:=b3) c2
  by_cases g:(1<n∧b1 / 64=2)∧(2<n∧b2 / 64=2)
  ·rw [if_pos g] at e
   rw [if_neg (show ¬ n<3 by omega),if_neg (show ¬ (b1<128∨191<b1) by omega),if_neg (show ¬ (b2<128∨191<b2) by omega),show 64 * (64 * (b0 - 224)+b1 - 128)+b2 - 128=val3 b0 b1 b2 by unfold val3;omega]
   by_cases q:val3 b0 b1 b2≥2048∧(val3 b0 b1 b2<55296∨(57344≤val3 b0 b1 b2∧val3 b0 b1 b2≤1114111))
   ·rw [if_pos q] at e
    rw [charN_ok e (fun h=>by omega),finN_ok q]
   ·rw [if_neg q] at e
    rw [charN_bad e,finN_no q]
  ·rw [if_neg g] at e
   rw [charN_bad e]
   by_cases g1:n<3
   ·rw [if_pos g1]
   ·rw [if_neg g1]
    by_cases g2:b1<128∨191<b1
    ·rw [if_pos g2]
    ·rw [if_neg g2,if_pos (show b2<128∨191<b2 by omega)]
 rw [if_neg c2]
 by_cases c3:240≤b0∧b0<245
 ·rw [if_pos c3]
  have e:=decN4 (n:=n) (b1:=b1) (b2:=b2) (b3:=b3) (show 240≤b0∧b0<248 by omega)
  by_cases g:(1<n∧b1 / 64=2)∧(2<n∧b2 / 64=2)∧(3<n∧b3 / 64=2)
  ·rw [if_pos g] at e
   rw [if_neg (show ¬ n<4 by omega),if_neg (show ¬ (b1<128∨191<b1) by omega),if_neg (show ¬ (b2<128∨191<b2) by omega),if_neg (show ¬ (b3<128∨191<b3) by omega),show 64 * (64 * (64 * (b0 - 240)+b1 - 128)+b2 - 128)+b3 - 128=val4 b0 b1 b2 b3 by unfold val4;omega]
   by_cases q:val4 b0 b1 b2 b3≥65536∧(val4 b0 b1 b2 b3<55296∨(57344≤val4 b0 b1 b2 b3∧val4 b0 b1 b2 b3≤1114111))
   ·rw [if_pos q] at e
    rw [charN_ok e (fun h=>by omega),finN_ok q]
   ·rw [if_neg q] at e
    rw [charN_bad e,finN_no q]
  ·rw [if_neg g] at e
   rw [charN_bad e]
   by_cases g1:n<4
   ·rw [if_pos g1]
   ·rw [if_neg g1]
    by_cases g2:b1<128∨191<b1
    ·rw [if_pos g2]
    ·rw [if_neg g2]
     by_cases g3:b2<128∨191<b2
     ·rw [if_pos g3]
     ·rw [if_neg g3,if_pos (show b3<128∨191<b3 by omega)]
 ·rw [if_neg c3]
  by_cases c4:245≤b0∧b0<248
  ·have e:=decN4 (n:=n) (b1:=b1) (b2:=b2) (b3:=b3) (show 240≤b0∧b0<248 by omega)
   have hv:¬ (val4 b0 b1 b2 b3≥65536∧(val4 b0 b1 b2 b3<55296∨(57344≤val4 b0 b1 b2 b3∧val4 b0 b1 b2 b3≤1114111))):=by unfold val4;omega
   rw [if_neg hv,ite_self] at e
   rw [charN_bad e]
  ·rw [charN_bad (decN0 (by omega) h0)]
def byt (t:Str) (i:Nat):Nat:=(List.getD t i 0).toNat
theorem byt_lt (t:Str) (i:Nat):byt t i<256:=UInt8.toNat_lt _
theorem byt_at (t:Str) (i:Nat):byteAt t (i:Int)=(byt t i:Int):=rfl
theorem l17_end (k n N x m:Nat) (t:Str):z1D.l17 k (n+1) t (x:Int) (N:Int) (m:Int) (N:Int)=some (((finN x m N).1:Int),((finN x m N).2:Int)):=by
 rw [z1D.l17_eq,ilt_nn,decide_eq_false (Nat.lt_irrefl _),br_false,ilt_nn]
 unfold finN
 by_cases h1:x<m
 ·rw [decide_eq_true h1,br_true,if_pos (.inl h1)];rfl
 ·rw [decide_eq_false h1,br_false,show ilt (1114111:Int) (x:Int)=decide (1114111<x) from ilt_nn 1114111 x]
  by_cases h2:1114111<x
  ·rw [decide_eq_true h2,br_true,if_pos (.inr (.inl h2))];rfl
  ·rw [decide_eq_false h2,br_false,show ile (55296:Int) (x:Int)=decide (55296≤x) from decide_eq_decide.2 ⟨fun h=>by omega,fun h=>by omega⟩]
   by_cases h3:55296≤x
   ·rw [decide_eq_true h3,br_true,show ile (x:Int) (57343:Int)=decide (x≤57343) from decide_eq_decide.2 ⟨fun h=>by omega,fun h=>by omega⟩]
    by_cases h4:x≤57343
    ·rw [decide_eq_true h4,br_true,if_pos (.inr (.inr ⟨h3,h4⟩))];rfl
    ·rw [decide_eq_false h4,br_false,if_neg (by omega)]
   ·rw [decide_eq_false h3,br_false,if_neg (by omega)]
theorem l17_step (k n N x m i:Nat) (t:Str) (hi:i<N) (hN:N≤t.length) (hx:x<1000000) (hi4:i<100) :
  z1D.l17 k (n+1) t (x:Int) (N:Int) (m:Int) (i:Int)=if byt t i<128∨191<byt t i then some (0,0) else z1D.l17 k n t ((64 * x+byt t i - 128:Nat):Int) (N:Int) (m:Int) ((i+1:Nat):Int):=by
 have hb:=byt_lt t i
 rw [z1D.l17_eq,ilt_nn,decide_eq_true hi,br_true,inL_nat,decide_eq_true (show i<t.length by omega),br_true,byt_at,show ilt ((byt t i:Nat):Int) 128=decide (byt t i<128) from ilt_nn _ 128,
  show ilt (191:Int) ((byt t i:Nat):Int)=decide (191<byt t i) from ilt_nn 191 _]
 by_cases h1:byt t i<128
 ·rw [decide_eq_true h1,br_true,if_pos (.inl h1)]
 ·rw [decide_eq_false h1,br_false,br_true]
  by_cases h2:191<byt t i
  ·rw [decide_eq_true h2,br_true,if_pos (.inr h2)]
  ·have e1:iwrap .i64 ((byt t i:Nat):Int)=((byt t i:Nat):Int):=by
    show IntKind.wrap .i64 _=_
    rw [IntKind.wrap_i64];omega
   have e2:imul .i64 64 (x:Int)=((64 * x:Nat):Int):=by
    show IntKind.wrap .i64 (64 * (x:Int))=_
    rw [IntKind.wrap_i64];omega
   have e3:iadd .i64 ((64 * x:Nat):Int) ((byt t i:Nat):Int)=((64 * x+byt t i:Nat):Int):=by
    show IntKind.wrap .i64 (((64 * x:Nat):Int)+((byt t i:Nat):Int))=_
    rw [IntKind.wrap_i64];omega
   have e4:isub .i64 ((64 * x+byt t i:Nat):Int) 128=((64 * x+byt t i - 128:Nat):Int):=by
    show IntKind.wrap .i64 (((64 * x+byt t i:Nat):Int) - 128)=_
    rw [IntKind.wrap_i64];omega
   rw [decide_eq_false h2,br_false,br_true,e1,e2,e3,e4,iadd_nat (show i<4611686018427387904 by omega),if_neg (by omega)]
theorem rchar_eq (k:Nat) (t:Str) (hk:10<k) (h0:t ≠ []):z1D.f k t=some (((refN t.length (byt t 0) (byt t 1) (byt t 2) (byt t 3)).1:Int),((refN t.length (byt t 0) (byt t 1) (byt t 2) (byt t 3)).2:Int)):=by
 have hl:0<t.length:=List.length_pos_iff.2 h0
 obtain ⟨q,rfl⟩:∃ q,k=q+5:=⟨k - 5,by omega⟩
 have hb:=byt_lt t 0;have hb1:=byt_lt t 1;have hb2:=byt_lt t 2;have hb3:=byt_lt t 3
 have e0:ieq (ilen t) 0=decide (t.length=0):=ieq0 t
 have e1:inL 0 t=true:=by
  rw [show inL 0 t=decide (0<t.length) from inL_nat 0 t];exact decide_eq_true hl
 have l2:∀ c:Nat,ilt (ilen t) (c:Int)=decide (t.length<c):=fun c=>by unfold ilt ilen;exact decide_eq_decide.2 ⟨fun h=>by omega,fun h=>by omega⟩
 have eb:iwrap .i64 (byteAt t 0)=((byt t 0:Nat):Int):=by
  show IntKind.wrap .i64 ((byt t 0:Nat):Int)=_
  rw [IntKind.wrap_i64];omega
 have m2:∀ x:Nat,x<100→2≤t.length→z1D.l17 (q+5) (q+5) t (x:Int) 2 128 1=some (((if byt t 1<128∨191<byt t 1 then (0,0) else finN (64 * x+byt t 1 - 128) 128 2:Nat × Nat).1:Int),((if byt t 1<128∨191<byt t 1 then (0,0) else finN (64 * x+byt t 1 - 128) 128 2:Nat × Nat).2:Int)):=fun x hx h2=>by
  have s1:=l17_step (q+5) (q+4) 2 x 128 1 t (by omega) h2 (by omega) (by omega)
  have s2:=l17_end (q+5) (q+3) 2 (64 * x+byt t 1 - 128) 128 t
  refine s1.trans ?_
  by_cases h:byt t 1<128∨191<byt t 1
  ·rw [if_pos h,if_pos h];rfl
  ·rw [if_neg h,if_neg h];exact s2
 have m3:∀ x:Nat,x<100→3≤t.length→z1D.l17 (q+5) (q+5) t (x:Int) 3 2048 1=some (((if byt t 1<128∨191<byt t 1 then (0,0) else if byt t 2<128∨191<byt t 2 then (0,0) else finN (64 * (64 * x+byt t 1 - 128)+byt t 2 - 128) 2048 3:Nat × Nat).1:Int),((if byt t 1<128∨191<byt t 1 then (0,0) else if byt t 2<128∨191<byt t 2 then (0,0) else finN (64 * (64 * x+byt t 1 - 128)+byt t 2 - 128) 2048 3:Nat × Nat).2:Int)):=fun x hx h2=>by
  have s1:=l17_step (q+5) (q+4) 3 x 2048 1 t (by omega) h2 (by omega) (by omega)
  have s2:=l17_step (q+5) (q+3) 3 (64 * x+byt t 1 - 128) 2048 2 t (by omega) h2 (by omega) (by omega)
  have s3:=l17_end (q+5) (q+2) 3 (64 * (64 * x+byt t 1 - 128)+byt t 2 - 128) 2048 t
  refine s1.trans ?_
  by_cases h:byt t 1<128∨191<byt t 1
  ·rw [if_pos h,if_pos h];rfl
  ·rw [if_neg h,if_neg h]
   refine s2.trans ?_
   by_cases h':byt t 2<128∨191<byt t 2
   ·rw [if_pos h',if_pos h'];rfl
   ·rw [if_neg h',if_neg h'];exact s3
 have m4:∀ x:Nat,x<100→4≤t.length→z1D.l17 (q+5) (q+5) t (x:Int) 4 65536 1=some (((if byt t 1<128∨191<byt t 1 then (0,0) else if byt t 2<128∨191<byt t 2 then (0,0) else if byt t 3<128∨191<byt t 3 then (0,0) else finN (64 * (64 * (64 * x+byt t 1 - 128)+byt t 2 - 128)+byt t 3 - 128) 65536 4:Nat × Nat).1:Int),((if byt t 1<128∨191<byt t 1 then (0,0) else if byt t 2<128∨191<byt t 2 then (0,0) else if byt t 3<128∨191<byt t 3 then (0,0) else finN (64 * (64 * (64 * x+byt t 1 - 128)+byt t 2 - 128)+byt t 3 - 128) 65536 4:Nat × Nat).2:Int)):=fun x hx h2=>by
  have s1:=l17_step (q+5) (q+4) 4 x 65536 1 t (by omega) h2 (by omega) (by omega)
  have s2:=l17_step (q+5) (q+3) 4 (64 * x+byt t 1 - 128) 65536 2 t (by omega) h2 (by omega) (by omega)
  have s3:=l17_step (q+5) (q+2) 4 (64 * (64 * x+byt t 1 - 128)+byt t 2 - 128) 65536 3 t (by omega) h2 (by omega) (by omega)
  have s4:=l17_end (q+5) (q+1) 4 (64 * (64 * (64 * x+byt t 1 - 128)+byt t 2 - 128)+byt t 3 - 128) 65536 t
  refine s1.trans ?_
  by_cases h:byt t 1<128∨191<byt t 1
  ·rw [if_pos h,if_pos h];rfl
  ·rw [if_neg h,if_neg h]
   refine s2.trans ?_
   by_cases h':byt t 2<128∨191<byt t 2
   ·rw [if_pos h',if_pos h'];rfl
   ·rw [if_neg h',if_neg h']
    refine s3.trans ?_
    by_cases h'':byt t 3<128∨191<byt t 3
    ·rw [if_pos h'',if_pos h''];rfl
    ·rw [if_neg h'',if_neg h''];exact s4
 have bl:∀ c:Nat,ilt ((byt t 0:Nat):Int) (c:Int)=decide (byt t 0<c):=fun c=>ilt_nn _ c
 have bg:∀ c:Nat,ile (c:Int) ((byt t 0:Nat):Int)=decide (c≤byt t 0):=fun c=>decide_eq_decide.2 ⟨fun h=>by omega,fun h=>by omega⟩
 have su:∀ c:Nat,c≤byt t 0→isub .i64 ((byt t 0:Nat):Int) (c:Int)=((byt t 0 - c:Nat):Int):=fun c hc=>by
  show IntKind.wrap .i64 (((byt t 0:Nat):Int) - (c:Int))=_
  rw [IntKind.wrap_i64];omega
 rw [z1D.f_eq,e0,decide_eq_false (by omega),br_false,e1,br_true,eb,show ilt ((byt t 0:Nat):Int) 128=_ from bl 128]
 unfold refN
 by_cases c0:byt t 0<128
 ·rw [decide_eq_true c0,br_true,if_pos c0];rfl
 rw [decide_eq_false c0,br_false,if_neg c0,show ile (194:Int) ((byt t 0:Nat):Int)=_ from bg 194,show ilt ((byt t 0:Nat):Int) 224=_ from bl 224,show ile (224:Int) ((byt t 0:Nat):Int)=_ from bg 224,
  show ilt ((byt t 0:Nat):Int) 240=_ from bl 240,show ile (240:Int) ((byt t 0:Nat):Int)=_ from bg 240,show ilt ((byt t 0:Nat):Int) 245=_ from bl 245,
  show ilt (ilen t) 2=_ from l2 2,show ilt (ilen t) 3=_ from l2 3,show ilt (ilen t) 4=_ from l2 4]
 by_cases c1:194≤byt t 0∧byt t 0<224
 ·rw [decide_eq_true c1.1,br_true,decide_eq_true c1.2,br_true,if_pos c1]
  by_cases g:t.length<2
  ·rw [decide_eq_true g,br_true,if_pos g];rfl
  ·rw [decide_eq_false g,br_false,if_neg g,show isub .i64 ((byt t 0:Nat):Int) 192=_ from su 192 (by omega)]
   exact m2 _ (by omega) (by omega)
 rw [if_neg c1]
 by_cases c2:224≤byt t 0∧byt t 0<240
 ·rw [decide_eq_true (show 194≤byt t 0 by omega),br_true,decide_eq_false (show ¬ byt t 0<224 by omega),br_false,decide_eq_true c2.1,br_true,decide_eq_true c2.2,br_true,if_pos c2]
  by_cases g:t.length<3
  ·rw [decide_eq_true g,br_true,if_pos g];rfl
  ·rw [decide_eq_false g,br_false,if_neg g,show isub .i64 ((byt t 0:Nat):Int) 224=_ from su 224 (by omega)]
   exact m3 _ (by omega) (by omega)
 rw [if_neg c2]
 by_cases c3:240≤byt t 0∧byt t 0<245
 ·rw [decide_eq_true (show 194≤byt t 0 by omega),br_true,decide_eq_false (show ¬ byt t 0<224 by omega),br_false,decide_eq_true (show 224≤byt t 0 by omega),br_true,decide_eq_false (show ¬ byt t 0<240 by omega),br_false,decide_eq_true c3.1,br_true,decide_eq_true c3.2,br_true,if_pos c3]
  by_cases g:t.length<4
  ·rw [decide_eq_true g,br_true,if_pos g];rfl
  ·rw [decide_eq_false g,br_false,if_neg g,show isub .i64 ((byt t 0:Nat):Int) 240=_ from su 240 (by omega)]
   exact m4 _ (by omega) (by omega)
 rw [if_neg c3]
 by_cases d1:194≤byt t 0
 ·have d2:¬ byt t 0<224:=by omega
  have d3:224≤byt t 0:=by omega
  have d4:¬ byt t 0<240:=by omega
  have d5:240≤byt t 0:=by omega
  have d6:¬ byt t 0<245:=by omega
  rw [decide_eq_true d1,br_true,decide_eq_false d2,br_false,decide_eq_true d3,br_true,decide_eq_false d4,br_false,decide_eq_true d5,br_true,decide_eq_false d6,br_false];rfl
 ·have d3:¬ 224≤byt t 0:=by omega
  have d5:¬ 240≤byt t 0:=by omega
  rw [decide_eq_false d1,br_false,decide_eq_false d3,br_false,decide_eq_false d5,br_false];rfl
end Go.Proofs.YtggcagclpkhlhaaGreatDoor
end
noncomputable section
/- Names and values: the program's tests are the document's. -/
namespace Go.Proofs.YtggcagclpkhlhaaGreatDoor
open Pal
theorem bget (s:Str) (j:Nat):((⟨s.toArray⟩:ByteArray).get! j).toNat=byt s j:=by
 unfold byt
 show (s.toArray.getD j default).toNat=_
 rw [Array.getD_eq_getD_getElem?,List.getElem?_toArray,← List.getD_eq_getElem?_getD];rfl
theorem byt_drop (s:Str) (i j:Nat):byt (s.drop i) j=byt s (i+j):=by
 unfold byt
 rw [List.getD_eq_getElem?_getD,List.getD_eq_getElem?_getD,List.getElem?_drop]
theorem piece_drop (s:Str) (i:Nat):piece s (i:Int) (ilen s)=s.drop i:=by
 unfold piece ilen
 rw [Int.toNat_natCast,Int.toNat_natCast,List.take_length]
theorem rchar_at (k:Nat) (s:Str) (i:Nat) (hi:i<s.length) (hk:10<k) :
  z1D.f k (piece s (i:Int) (ilen s))=some (if badAt ⟨s.toArray⟩ i=true then (0,0) else (((Go.Utf8.decode ⟨s.toArray⟩ i).1:Int),((Go.Utf8.decode ⟨s.toArray⟩ i).2:Int))):=by
 have hne:s.drop i ≠ []:=fun h=>by have:=congrArg List.length h;rw [List.length_drop,List.length_nil] at this;omega
 have hd:Go.Utf8.decode ⟨s.toArray⟩ i=Go.Lib.decodeN (s.length - i) (byt s i) (byt s (i+1)) (byt s (i+2)) (byt s (i+3)):=by
  rw [Go.Lib.decode_at,bget,bget,bget,bget];rfl
 rw [piece_drop,rchar_eq k _ hk hne,refN_eq _ _ _ _ _ (by rw [List.length_drop];omega) (byt_lt _ _) (byt_lt _ _) (byt_lt _ _) (byt_lt _ _),List.length_drop,byt_drop,byt_drop,byt_drop,byt_drop,Nat.add_zero]
 unfold charN badAt
 rw [← hd]
 by_cases h:(Go.Utf8.decode ⟨s.toArray⟩ i).1=65533∧(Go.Utf8.decode ⟨s.toArray⟩ i).2≤1
 ·rw [if_pos h,if_pos (by rw [decide_eq_true h.1,decide_eq_true h.2];rfl)];rfl
 ·rw [if_neg h,if_neg (fun hh=>h (by simpa using hh))]
theorem rrunes_l (k:Nat) (s:Str) (hk:10<k) (hs:s.length<1000000):∀ (f n i:Nat) (x:List Int),s.length≤f+i→s.length<n+i→i≤s.length→x.length≤i →
  z0D.l3 k n s x (i:Int)=some (match runesX ⟨s.toArray⟩ f i with | some l=>(x++l,true) | none=>([],false))
 | f,0,i,x,_,h,_,_=>by omega
 | 0,n+1,i,x,h0,h,hi,hx=>by
  have e:i=s.length:=by omega
  subst e
  rw [z0D.l3_eq,ilt_nat,decide_eq_false (Nat.lt_irrefl _),br_false]
  show some (x,true)=some (x++[],true)
  rw [List.append_nil]
 | f+1,n+1,i,x,h0,h,hi,hx=>by
  have hsz:(⟨s.toArray⟩:ByteArray).size=s.length:=by simp [ByteArray.size]
  rw [z0D.l3_eq,ilt_nat]
  by_cases hl:i<s.length
  ·have hin:inS (i:Int) (ilen s) (ilen s)=true:=by
    have h1:(i:Int)≤(s.length:Int):=by omega
    show (decide ((0:Int)≤(i:Int)) && decide ((i:Int)≤(s.length:Int)) && decide ((s.length:Int)≤(s.length:Int)))=true
    rw [decide_eq_true h1,decide_eq_true (show (0:Int)≤(i:Int) by omega),decide_eq_true (Int.le_refl _)];rfl
   have hw:=rwidth_pos ⟨s.toArray⟩ i (by rw [hsz];exact hl)
   obtain ⟨c,q,hc,q0,q1⟩:=rchar_is k (piece s (i:Int) (ilen s)) hk (by rw [piece_drop,List.length_drop];omega)
   rw [piece_drop,List.length_drop] at q1
   have hr:=rchar_at k s i hl hk
   rw [runesX,if_pos (by rw [hsz];exact hl),decide_eq_true hl,br_true,hin,br_true,hr,bnd_some]
   by_cases hb:badAt ⟨s.toArray⟩ i=true
   ·rw [if_pos hb,if_pos hb];rfl
   ·rw [if_neg hb,if_neg hb]
    rw [hr,if_neg hb] at hc
    injection hc with hc
    have hq:((Go.Utf8.decode ⟨s.toArray⟩ i).2:Int)=q:=congrArg Prod.snd hc
    have e0:ieq ((Go.Utf8.decode ⟨s.toArray⟩ i).2:Int) 0=false:=by rw [ieq_dec];exact decide_eq_false (by omega)
    have e3:iadd .i64 (i:Int) ((Go.Utf8.decode ⟨s.toArray⟩ i).2:Int)=((i+(Go.Utf8.decode ⟨s.toArray⟩ i).2:Nat):Int):=by rw [iadd_s (by omega) (by omega) (by omega) (by omega)];omega
    rw [show ieq ((((Go.Utf8.decode ⟨s.toArray⟩ i).1:Int),((Go.Utf8.decode ⟨s.toArray⟩ i).2:Int)):Int × Int).2 0=false from e0,br_false,room1 (show x.length<4000000 by omega),br_true]
    show z0D.l3 k n s _ (iadd .i64 (i:Int) ((Go.Utf8.decode ⟨s.toArray⟩ i).2:Int))=_
    rw [e3,rrunes_l k s hk hs f n _ _ (by omega) (by omega) (by omega) (by simp only [app,List.length_append,List.length_cons,List.length_nil];omega)]
    cases runesX ⟨s.toArray⟩ f (i+(Go.Utf8.decode ⟨s.toArray⟩ i).2) with
    | none=>rfl
    | some l=>simp [app]
  ·have e:i=s.length:=by omega
   subst e
   rw [decide_eq_false hl,br_false,runesX,if_neg (by rw [hsz];omega)]
   show some (x,true)=some (x++[],true)
   rw [List.append_nil]
theorem runes_is (k:Nat) (s:Str) (hk:10<k) (hs:s.length<k) (hk2:k<1000000):z0D.f k s=runesB s:=by
 have h:=rrunes_l k s hk (by omega) s.length k 0 [] (by omega) (by omega) (by omega) (by simp)
 have hz:Nat.ble s.length 1099511627776=true:=Nat.ble_eq_true_of_le (by omega)
 rw [z0D.f_eq]
 refine h.trans ?_
 unfold runesB
 rw [hz,cond_true];rfl
theorem may_is (k:Nat) (c:Int):z2o.f k c=some (mayB c):=by
 rw [z2o.f_eq,show ilt c 32=decide (c<32) from rfl]
 unfold mayB
 by_cases h1:c<32
 ·rw [decide_eq_true h1,br_true,br_true];rfl
 ·rw [decide_eq_false h1,br_false,show ile 127 c=decide (127≤c) from rfl,show ilt c 160=decide (c<160) from rfl,ieq_dec,bnot_dec]
  by_cases h2:127≤c
  ·rw [decide_eq_true h2,br_true]
   by_cases h3:c<160
   ·rw [decide_eq_true h3,br_true];rfl
   ·rw [decide_eq_false h3,br_false];simp
  ·rw [decide_eq_false h2,br_false];simp
theorem rmay_is (k:Nat) (c:Int):z1W.f k c=some (mayB c):=by
 rw [z1W.f_eq,show ile 32 c=decide (32≤c) from rfl,show ilt c 127=decide (c<127) from rfl,show ilt 159 c=decide (159<c) from rfl,ieq_dec,bnot_dec]
 unfold mayB
 by_cases h1:32≤c
 ·rw [decide_eq_true h1,br_true,decide_eq_false (show ¬ c<32 by omega)]
  by_cases h2:c<127
  ·rw [decide_eq_true h2,br_true,decide_eq_false (show ¬ 127≤c by omega)];simp
  ·rw [decide_eq_false h2,br_false,decide_eq_true (show 127≤c by omega)]
   by_cases h3:159<c
   ·rw [decide_eq_true h3,br_true,decide_eq_false (show ¬ c<160 by omega)];simp
   ·rw [decide_eq_false h3,br_false,decide_eq_true (show c<160 by omega)];rfl
 ·rw [decide_eq_false h1,br_false,decide_eq_true (show c<32 by omega)];rfl
theorem all_step {α:Type} {xs:List α} {i:Nat} (h:i<xs.length) (p:α→Bool):(xs.drop i).all p=(p xs[i] && (xs.drop (i+1)).all p):=by
 rw [List.drop_eq_getElem_cons h,List.all_cons]
theorem name_l (k:Nat) (l:List Int) (hl:l.length<1000000):∀ (n i:Nat),i≤l.length→l.length<n+i→z16.l5 k n l (ilen l) (i:Int)=some ((l.drop i).all mayB)
 | 0,i,_,h=>by omega
 | n+1,i,h,h'=>by
  rw [z16.l5_eq,ilt_nat,inL_nat,natOf_nat]
  by_cases hi:i<l.length
  ·rw [decide_eq_true hi,br_true,br_true,rd_at' (e:=.int .i32) hi,may_is,bnd_some,iadd_nat (by omega),all_step hi,name_l k l hl n (i+1) (by omega) (by omega)]
   cases mayB l[i] <;> rfl
  ·rw [decide_eq_false hi,br_false,List.drop_eq_nil_of_le (by omega)];rfl
theorem rname_l (k:Nat) (l:List Int) (b:Bool) (hl:l.length<1000000):∀ (n i:Nat),i≤l.length→l.length<n+i→z12.l3 k n l b (i:Int)=some ((l.drop i).all mayB && (b && (decide (1≤l.length) && decide (l.length≤24))))
 | 0,i,_,h=>by omega
 | n+1,i,h,h'=>by
  rw [z12.l3_eq,ilt_nat,inL_nat,natOf_nat]
  by_cases hi:i<l.length
  ·rw [decide_eq_true hi,br_true,br_true,rd_at' (e:=.int .i64) hi,rmay_is,bnd_some,iadd_nat (by omega),all_step hi,rname_l k l b hl n (i+1) (by omega) (by omega)]
   cases mayB l[i] <;> rfl
  ·have e1:ile 1 (ilen l)=decide (1≤l.length):=decide_eq_decide.2 ⟨fun h=>by unfold ilen at h;omega,fun h=>by unfold ilen;omega⟩
   have e2:ile (ilen l) 24=decide (l.length≤24):=ile_len 24 l
   rw [decide_eq_false hi,br_false,List.drop_eq_nil_of_le (by omega),e1,e2]
   cases b <;> cases decide (1≤l.length) <;> rfl
theorem runesB_len {s:Str} {r:List Int × Bool} (h:runesB s=some r):r.1.length≤s.length∧(r.2=false→r.1=[]):=by
 unfold runesB at h
 cases hz:Nat.ble s.length 1099511627776 with
 | false=>rw [hz] at h;cases h
 | true =>
  rw [hz,cond_true] at h
  injection h with h
  subst h
  have key:∀ (f i:Nat) (l:List Int),runesX ⟨s.toArray⟩ f i=some l→l.length≤f:=by
   intro f
   induction f with
   | zero=>intro i l h;injection h with h;subst h;simp
   | succ f ih =>
    intro i l h
    rw [runesX] at h
    by_cases hp:i<(⟨s.toArray⟩:ByteArray).size
    ·rw [if_pos hp] at h
     by_cases hb:badAt ⟨s.toArray⟩ i=true
     ·rw [if_pos hb] at h;cases h
     ·rw [if_neg hb] at h
      cases hr:runesX ⟨s.toArray⟩ f (i+(Go.Utf8.decode ⟨s.toArray⟩ i).2) with
      | none=>rw [hr] at h;cases h
      | some l' =>
       rw [hr] at h
       have h:some (((Go.Utf8.decode ⟨s.toArray⟩ i).1:Int)::l')=some l:=h
       injection h with h;subst h
       have:=ih _ _ hr
       simp only [List.length_cons];omega
    ·rw [if_neg hp] at h;injection h with h;subst h;simp
  cases hr:runesX ⟨s.toArray⟩ s.length 0 with
  | none=>exact ⟨by simp,fun _=>rfl⟩
  | some l=>exact ⟨key _ _ _ hr,fun h=>by cases h⟩
theorem name_is (k:Nat) (s:Str) (hk:10<k) (hs:s.length<k) (hk2:k<1000000):∃ b,z16.f k s=some b∧z12.f k s=some b:=by
 have hz:Nat.ble s.length 1099511627776=true:=Nat.ble_eq_true_of_le (by omega)
 obtain ⟨r,hr⟩:∃ r,runesB s=some r:=⟨_,by unfold runesB;rw [hz,cond_true]⟩
 obtain ⟨l1,l2⟩:=runesB_len hr
 rw [z12.f_eq,runes_is k s hk hs hk2,hr,bnd_some,z16.f_eq,hr,bnd_some]
 have g2:=rname_l k r.1 r.2 (by omega) k 0 (by omega) (by omega)
 have g1:=name_l k r.1 (by omega) k 0 (by omega) (by omega)
 rw [List.drop_zero] at g1 g2
 refine ⟨_,?_,g2⟩
 cases h2:r.2 with
 | false=>rw [l2 h2];rfl
 | true =>
  have bt:bnot true=false:=rfl
  have e0:ieq (ilen r.1) 0=decide (r.1.length=0):=ieq0 r.1
  rw [bt,br_false,e0,show ilt 24 (ilen r.1)=decide (24<r.1.length) from ilt_lenR 24 r.1]
  by_cases c1:r.1.length=0
  ·rw [decide_eq_true c1,br_true,decide_eq_false (show ¬ 1≤r.1.length by omega)];simp
  ·rw [decide_eq_false c1,br_false,decide_eq_true (show 1≤r.1.length by omega)]
   by_cases c2:24<r.1.length
   ·rw [decide_eq_true c2,br_true,decide_eq_false (show ¬ r.1.length≤24 by omega)];simp
   ·rw [decide_eq_false c2,br_false,decide_eq_true (show r.1.length≤24 by omega)]
    refine g1.trans ?_
    simp
theorem val_is (k:Nat) (v:Val) (hk:10<k) (hs:v.2.2.length<k) (hk2:k<1000000):∃ b,z0I.f k v=some b∧z0V.f k v=some b:=by
 have hz:Nat.ble v.2.2.length 1099511627776=true:=Nat.ble_eq_true_of_le (by omega)
 obtain ⟨r,hr⟩:∃ r,runesB v.2.2=some r:=⟨_,by unfold runesB;rw [hz,cond_true]⟩
 rw [z0I.f_eq,z0V.f_eq,runes_is k v.2.2 hk hs hk2,hr]
 simp only [bnd_some]
 cases ieq v.1 1 with
 | true =>
  simp only [br_true]
  cases seq v.2.2 [] <;> cases ile (-2147483647) v.2.1 <;> exact ⟨_,rfl,rfl⟩
 | false =>
  simp only [br_false]
  cases ieq v.1 2 with
  | true =>
   simp only [br_true]
   cases r.2 <;> cases ieq v.2.1 0 <;> exact ⟨_,rfl,rfl⟩
  | false =>
   simp only [br_false]
   cases ieq v.1 3 with
   | false=>exact ⟨_,rfl,rfl⟩
   | true =>
    simp only [br_true]
    cases seq v.2.2 [] with
    | false=>exact ⟨_,rfl,rfl⟩
    | true =>
     simp only [br_true]
     rw [ieq_dec,show ile 0 v.2.1=decide (0≤v.2.1) from rfl,show ile v.2.1 1=decide (v.2.1≤1) from rfl,ieq_dec]
     by_cases h0:v.2.1=0
     ·rw [decide_eq_true h0,br_true,decide_eq_true (show 0≤v.2.1 by omega),br_true,decide_eq_true (show v.2.1≤1 by omega)];exact ⟨_,rfl,rfl⟩
     ·rw [decide_eq_false h0,br_false]
      by_cases h1:v.2.1=1
      ·rw [decide_eq_true h1,decide_eq_true (show 0≤v.2.1 by omega),br_true,decide_eq_true (show v.2.1≤1 by omega)];exact ⟨_,rfl,rfl⟩
      ·rw [decide_eq_false h1]
       by_cases h2:0≤v.2.1
       ·rw [decide_eq_true h2,br_true,decide_eq_false (show ¬ v.2.1≤1 by omega)];exact ⟨_,rfl,rfl⟩
       ·rw [decide_eq_false h2,br_false];exact ⟨_,rfl,rfl⟩
end Go.Proofs.YtggcagclpkhlhaaGreatDoor
end
noncomputable section
/- Paths, operations, transactions: the program's tests are the document's. -/
namespace Go.Proofs.YtggcagclpkhlhaaGreatDoor
open Pal
theorem path_l (k:Nat) (p:List Str) (hp:∀ s ∈ p,List.length s<k) (hk:10<k) (hk2:k<1000000) (hl:p.length<1000000):∀ (n i:Nat),i≤p.length→p.length<n+i →
  ∃ r:Int,z0c.l2 k n p (ilen p) (i:Int)=some r∧z0B.l6 k n p (i:Int)=some (if 0≤r then 8 else 0)
 | 0,i,_,h=>by omega
 | n+1,i,h,h'=>by
  rw [z0c.l2_eq,z0B.l6_eq,ilt_nat,inL_nat,natOf_nat]
  by_cases hi:i<p.length
  ·obtain ⟨b,g1,g2⟩:=name_is k p[i] hk (hp _ (List.getElem_mem hi)) hk2
   rw [decide_eq_true hi,br_true,br_true,br_true,br_true,rd_at' (e:=.str) hi,z0x.f_eq,g1,g2,bnd_some,bnd_some,bnd_some,iadd_nat (by omega)]
   cases b with
   | false=>exact ⟨(i:Int),rfl,by rw [if_pos (by omega)];rfl⟩
   | true=>exact path_l k p hp hk hk2 hl n (i+1) (by omega) (by omega)
  ·rw [decide_eq_false hi,br_false,br_false];exact ⟨-1,rfl,rfl⟩
theorem path_is (k:Nat) (p:List Str) (hp:∀ s ∈ p,List.length s<k) (hk:10<k) (hk2:k<1000000) (hl:p.length<k):∃ e:Int,z1H.f k p=some e∧z0B.f k p=some e:=by
 rw [z1H.f_eq,z0B.f_eq,z09.f_eq,z0c.f_eq]
 cases ieq (ilen p) 0 with
 | true=>exact ⟨8,rfl,rfl⟩
 | false =>
  cases ilt 8 (ilen p) with
  | true=>exact ⟨9,rfl,rfl⟩
  | false =>
   obtain ⟨r,g1,g2⟩:=path_l k p hp hk hk2 (by omega) k 0 (by omega) (by omega)
   rw [show ((0:Nat):Int)=0 from rfl] at g1 g2
   rw [br_false,br_false,br_false,br_false,g1,g2,bnd_some,bnd_some,show ile 0 r=decide (0≤r) from rfl]
   by_cases h:0≤r
   ·rw [decide_eq_true h,br_true,if_pos h];exact ⟨8,rfl,rfl⟩
   ·rw [decide_eq_false h,br_false,if_neg h];exact ⟨0,rfl,rfl⟩
def cmpR (a b:Dot × Int):Int:=if cmpD a.1 b.1=0 then cmpI a.2 b.2 else cmpD a.1 b.1
theorem cmpI_three (a b:Int):cmpI a b=-1∨cmpI a b=0∨cmpI a b=1:=by unfold cmpI;split <;> (try split) <;> simp
theorem cmpR_three (a b:Dot × Int):cmpR a b=-1∨cmpR a b=0∨cmpR a b=1:=by
 unfold cmpR cmpD
 have h1:=cmpI_three a.1.1 b.1.1;have h2:=cmpI_three a.1.2 b.1.2;have h3:=cmpI_three a.2 b.2
 split <;> (try split) <;> assumption
theorem ref_is (k:Nat) (a b:Dot × Int) (h3:3≤k):z2n.f k a b=some (cmpR a b):=by
 obtain ⟨q,rfl⟩:∃ q,k=q+3:=⟨k - 3,by omega⟩
 rw [z2n.f_eq,cmpD_is,cmpI_is,bnd_some,bnd_some,or2,bnd_some];rfl
theorem ints_is (k:Nat) (a b:Int):z1o.f k a b=some (cmpI a b):=by
 rw [z1o.f_eq]
 unfold cmpI
 by_cases h1:a<b
 ·simp [ilt,h1,br_true]
 ·by_cases h2:b<a <;> simp [ilt,h1,h2,br_true,br_false]
theorem rref_is (k:Nat) (a b:Dot × Int):z1j.f k a b=some (cmpR a b):=by
 rw [z1j.f_eq,rcmp_is,bnd_some,bnd_some,ints_is,bnd_some,ieq_dec,bnot_dec]
 unfold cmpR
 by_cases h:cmpD a.1 b.1=0
 ·rw [decide_eq_false (by simp [h]),br_false,if_pos h]
 ·rw [decide_eq_true h,br_true,if_neg h]
theorem refs_l (k:Nat) (l:List (Dot × Int)) (h3:3≤k) (hl:l.length<1000000):∀ (n i:Nat),i≤l.length→l.length<n+i→∃ b,z2w.l2 k n l l (ilen l) (i:Int)=some b∧z19.l2 k n l (i:Int)=some b
 | 0,i,_,h=>by omega
 | n+1,i,h,h'=>by
  rw [z2w.l2_eq,z19.l2_eq,ilt_nat,inL_nat,natOf_nat]
  by_cases hi:i<l.length
  ·have ih:=refs_l k l h3 hl n (i+1) (by omega) (by omega)
   rw [decide_eq_true hi,rd_at' (e:=tUndo) hi,right_is,rright_is,iadd_nat (by omega)]
   simp only [br_true,bnd_some]
   cases rightD l[i].1 with
   | false=>exact ⟨false,rfl,rfl⟩
   | true =>
    have bt:bnot true=false:=rfl
    simp only [bt,br_false]
    cases ilt l[i].2 0 with
    | true=>exact ⟨false,rfl,rfl⟩
    | false =>
     simp only [br_false]
     rw [show ile 16 l[i].2=decide (16≤l[i].2) from rfl,show ilt 15 l[i].2=decide (16≤l[i].2) from decide_eq_decide.2 ⟨fun h=>by omega,fun h=>by omega⟩]
     by_cases h16:16≤l[i].2
     ·rw [decide_eq_true h16];exact ⟨false,rfl,rfl⟩
     ·rw [decide_eq_false h16]
      simp only [br_false]
      rw [show ilt 0 (i:Int)=decide (0<i) from ilt_nn 0 i]
      by_cases hp:0<i
      ·have hi1:i - 1<l.length:=by omega
       have e3:isub .i64 (i:Int) 1=((i - 1:Nat):Int):=by rw [isub_s (by omega) (by omega) (by omega) (by omega)];omega
       rw [decide_eq_true hp,br_true,br_true,e3,inL_nat,natOf_nat,rd_at' (e:=tUndo) hi1,decide_eq_true hi1,br_true,br_true,ref_is k _ _ h3,rref_is,bnd_some,bnd_some,ieq_dec,bnot_dec,
        show ile 0 (cmpR l[i - 1] l[i])=decide (0≤cmpR l[i - 1] l[i]) from rfl]
       rcases cmpR_three l[i - 1] l[i] with e | e | e
       ·rw [e,decide_eq_false (by decide),decide_eq_false (by decide),br_false,br_false];exact ih
       ·rw [e];exact ⟨false,rfl,rfl⟩
       ·rw [e];exact ⟨false,rfl,rfl⟩
      ·rw [decide_eq_false hp,br_false,br_false];exact ih
  ·rw [decide_eq_false hi,br_false,br_false];exact ⟨true,rfl,rfl⟩
theorem refs_is (k:Nat) (l:List (Dot × Int)) (h3:3≤k) (hl:l.length<k) (hk:k<1000000):∃ b,z2w.f k l=some b∧z19.f k l=some b:=by
 rw [z2w.f_eq,z19.f_eq]
 exact refs_l k l h3 (by omega) k 0 (by omega) (by omega)
theorem ile_bnot (a b:Int):ile a b=bnot (ilt b a):=by
 show decide (a≤b)=!decide (b<a)
 by_cases h:a≤b
 ·rw [decide_eq_true h,decide_eq_false (by omega)];rfl
 ·rw [decide_eq_false h,decide_eq_true (by omega)];rfl
theorem gone_both (k:Nat) (o:Op):z2t.f k o=z1t.f k o:=by rw [z2t.f_eq,z1t.f_eq]
set_option maxHeartbeats 4000000 in
theorem op_is (k:Nat) (o:Op) (hp:∀ s ∈ o.2.1,List.length s<k) (hpl:o.2.1.length<k) (hv:o.2.2.1.2.2.length<k) (hs:o.2.2.2.2.length<k) (hk:10<k) (hk2:k<1000000):∃ e:Int,z2q.f k o=some e∧z0X.f k o=some e:=by
 obtain ⟨e1,p1,p2⟩:=path_is k o.2.1 hp hk hk2 hpl
 obtain ⟨b1,v1,v2⟩:=val_is k o.2.2.1 hk hv hk2
 obtain ⟨b2,r1,r2⟩:=refs_is k o.2.2.2.2 (by omega) hs hk2
 rw [z2q.f_eq,z0X.f_eq,z2c.f_eq,z28.f_eq,p1,p2,v1,v2,r1,r2]
 obtain ⟨K,P,V,A,S⟩:=o
 simp only at *
 have bt:bnot true=false:=rfl
 have bf:bnot false=true:=rfl
 by_cases h1:K<1
 ·rw [show ilt K 1=true from decide_eq_true h1];exact ⟨18,rfl,rfl⟩
 by_cases h5:5<K
 ·rw [show ilt K 1=false from decide_eq_false h1,show ilt 5 K=true from decide_eq_true h5];exact ⟨18,rfl,rfl⟩
 have hK:K=1∨K=2∨K=3∨K=4∨K=5:=by omega
 rw [show ilt K 1=false from decide_eq_false h1,show ilt 5 K=false from decide_eq_false h5]
 clear h1 h5 p1 p2 v1 v2 r1 r2 hp hpl hv hs
 have i1:ile A 2147483647=bnot (ilt 2147483647 A):=ile_bnot _ _
 have i2:ile (-2147483647) A=bnot (ilt A (-2147483647)):=ile_bnot _ _
 rw [i1,i2]
 rcases hK with rfl | rfl | rfl | rfl | rfl
 ·simp only [show ieq (1:Int) 1=true from rfl,show ieq (1:Int) 2=false from rfl,show ieq (1:Int) 3=false from rfl,show ieq (1:Int) 4=false from rfl,show ieq (1:Int) 5=false from rfl,br_true,br_false,bt,bf,bnd_some]
  cases ieq e1 0 <;> cases b1 <;> cases ieq A 0 <;> cases ilt 256 (ilen S) <;> cases b2 <;> exact ⟨_,rfl,rfl⟩
 ·simp only [show ieq (2:Int) 1=false from rfl,show ieq (2:Int) 2=true from rfl,show ieq (2:Int) 3=false from rfl,show ieq (2:Int) 4=false from rfl,show ieq (2:Int) 5=false from rfl,br_true,br_false,bt,bf,bnd_some]
  cases ieq e1 0 <;> cases b1 <;> cases ieq A 0 <;> cases ilt 0 (ilen S) <;> cases ilt 256 (ilen S) <;> cases b2 <;> exact ⟨_,rfl,rfl⟩
 ·simp only [show ieq (3:Int) 1=false from rfl,show ieq (3:Int) 2=false from rfl,show ieq (3:Int) 3=true from rfl,show ieq (3:Int) 4=false from rfl,show ieq (3:Int) 5=false from rfl,br_true,br_false,bt,bf,bnd_some]
  cases ieq e1 0 <;> cases deq tValue V (0,(0,[])) <;> cases ieq A 0 <;> cases ilt 2147483647 A <;> cases ilt A (-2147483647) <;> cases ilt 0 (ilen S) <;> cases ilt 256 (ilen S) <;> cases b2 <;> exact ⟨_,rfl,rfl⟩
 ·simp only [show ieq (4:Int) 1=false from rfl,show ieq (4:Int) 2=false from rfl,show ieq (4:Int) 3=false from rfl,show ieq (4:Int) 4=true from rfl,show ieq (4:Int) 5=false from rfl,br_true,br_false,bt,bf,bnd_some]
  cases ieq e1 0 <;> cases b1 <;> cases ieq A 0 <;> cases ilt 256 (ilen S) <;> cases b2 <;> exact ⟨_,rfl,rfl⟩
 ·simp only [show ieq (5:Int) 1=false from rfl,show ieq (5:Int) 2=false from rfl,show ieq (5:Int) 3=false from rfl,show ieq (5:Int) 4=false from rfl,show ieq (5:Int) 5=true from rfl,br_true,br_false,bt,bf,bnd_some]
  cases ieq e1 0 <;> cases deq tValue V (0,(0,[])) <;> cases ieq A 0 <;> cases ilt 256 (ilen S) <;> cases b2 <;> exact ⟨_,rfl,rfl⟩
end Go.Proofs.YtggcagclpkhlhaaGreatDoor
end
noncomputable section
/- Transactions: the program's test is the document's. -/
namespace Go.Proofs.YtggcagclpkhlhaaGreatDoor
open Pal
theorem gone_tot (k:Nat) (o:Op):∃ g,z2t.f k o=some g∧z1t.f k o=some g:=by
 rw [← gone_both,z2t.f_eq]
 cases ieq o.1 0 with
 | false=>exact ⟨_,rfl,rfl⟩
 | true =>
  cases ieq (ilen o.2.1) 0 with
  | false=>exact ⟨_,rfl,rfl⟩
  | true =>
   cases deq tValue o.2.2.1 (0,(0,[])) with
   | false=>exact ⟨_,rfl,rfl⟩
   | true=>cases ieq o.2.2.2.1 0 <;> exact ⟨_,rfl,rfl⟩
structure SizO (k:Nat) (o:Op):Prop where
 path:∀ s ∈ o.2.1,List.length s<k
 names:o.2.1.length<k
 val:o.2.2.1.2.2.length<k
 seen:o.2.2.2.2.length<k
theorem txn_l (k:Nat) (t:Txn) (ho:∀ o ∈ t.2.2.2.2,SizO k o) (hl:t.2.2.2.2.length<1000000) (hk:10<k) (hk2:k<1000000):∀ (n i:Nat),i≤t.2.2.2.2.length→t.2.2.2.2.length<n+i →
  ∃ e:Int,z1R.l10 k n t.2.2.2.2 (ilen t.2.2.2.2) (i:Int) t=some e∧z0z.l8 k n (i:Int) t=some e
 | 0,i,_,h=>by omega
 | n+1,i,h,h'=>by
  rw [z1R.l10_eq,z0z.l8_eq,ilt_nat,inL_nat,natOf_nat]
  by_cases hi:i<t.2.2.2.2.length
  ·have ih:=txn_l k t ho hl hk hk2 n (i+1) (by omega) (by omega)
   have so:=ho _ (List.getElem_mem hi)
   obtain ⟨e,p1,p2⟩:=op_is k t.2.2.2.2[i] so.path so.names so.val so.seen hk hk2
   obtain ⟨g,q1,q2⟩:=gone_tot k t.2.2.2.2[i]
   rw [decide_eq_true hi,rd_at' (e:=tOp) hi,p1,p2,q1,q2,iadd_nat (by omega)]
   simp only [br_true,bnd_some]
   have bt:bnot true=false:=rfl
   have bf:bnot false=true:=rfl
   cases t.2.2.2.1 with
   | true =>
    simp only [br_true]
    cases g with
    | true =>
     simp only [br_true,bt,br_false]
     cases ieq e 0 <;> exact ih
    | false =>
     simp only [br_false,bf,br_true]
     cases ieq e 0 with
     | true=>exact ih
     | false=>exact ⟨e,rfl,rfl⟩
   | false =>
    simp only [br_false,bf,br_true]
    cases ieq e 0 with
    | true=>exact ih
    | false=>exact ⟨e,rfl,rfl⟩
  ·rw [decide_eq_false hi,br_false,br_false];exact ⟨0,rfl,rfl⟩
theorem txn_is (k:Nat) (t:Txn) (ho:∀ o ∈ t.2.2.2.2,SizO k o) (hl:t.2.2.2.2.length<k) (hk:10<k) (hk2:k<1000000):∃ e:Int,z1R.f k t=some e∧z0z.f k t=some e:=by
 obtain ⟨e,g1,g2⟩:=txn_l k t ho (by omega) hk hk2 k 0 (by omega) (by omega)
 rw [show ((0:Nat):Int)=0 from rfl] at g1 g2
 have bt:bnot true=false:=rfl
 have bf:bnot false=true:=rfl
 rw [z1R.f_eq,z0z.f_eq,right_is,rright_is,g1,g2,show ilt 7 t.2.1=ile 8 t.2.1 from decide_eq_decide.2 ⟨fun h=>by omega,fun h=>by omega⟩]
 simp only [bnd_some]
 cases rightD t.1 with
 | false=>exact ⟨2,rfl,rfl⟩
 | true =>
  simp only [bt,br_false]
  cases ilt t.2.1 0 <;> cases ile 8 t.2.1 <;> cases ilt t.2.2.1 1 <;> cases ilt 1099511627776 t.2.2.1 <;> cases ieq (ilen t.2.2.2.2) 0 <;> cases ilt 16 (ilen t.2.2.2.2) <;> exact ⟨_,rfl,rfl⟩
end Go.Proofs.YtggcagclpkhlhaaGreatDoor
end
noncomputable section
/- Readers: the program's and the document's read the same. -/
namespace Go.Proofs.YtggcagclpkhlhaaGreatDoor
open Pal
theorem wrap64 {n:Int} (h1:-9000000000000000000≤n) (h2:n≤9000000000000000000):IntKind.wrap .i64 n=n:=by
 have e1:((2:Int) ^ 63)=9223372036854775808:=by decide
 exact wrap_i64 (by rw [e1];omega) (by rw [e1];omega)
end Go.Proofs.YtggcagclpkhlhaaGreatDoor
end
noncomputable section
/- Dots, vectors, rows of dots and sets: the program and the document read the same. -/
namespace Go.Proofs.YtggcagclpkhlhaaGreatDoor
open Pal
end Go.Proofs.YtggcagclpkhlhaaGreatDoor
end
noncomputable section
/- Texts, values, paths: the program and the document read the same. -/
namespace Go.Proofs.YtggcagclpkhlhaaGreatDoor
open Pal
theorem inS_nn {a b c:Nat} (h1:a≤b) (h2:b≤c):inS (a:Int) (b:Int) (c:Int)=true:=by
 show (decide ((0:Int)≤(a:Int)) && decide ((a:Int)≤(b:Int)) && decide ((b:Int)≤(c:Int)))=true
 rw [decide_eq_true (show (0:Int)≤(a:Int) by omega),decide_eq_true (show (a:Int)≤(b:Int) by omega),decide_eq_true (show (b:Int)≤(c:Int) by omega)];rfl
end Go.Proofs.YtggcagclpkhlhaaGreatDoor
end
noncomputable section
/- Operations: the end of reading one is the same in the program and the document. -/
namespace Go.Proofs.YtggcagclpkhlhaaGreatDoor
open Pal
end Go.Proofs.YtggcagclpkhlhaaGreatDoor
end
noncomputable section
/- An operation is read: the program and the document do the same. -/
namespace Go.Proofs.YtggcagclpkhlhaaGreatDoor
open Pal
end Go.Proofs.YtggcagclpkhlhaaGreatDoor
end
noncomputable section
/- Counts: rows of dots with numbers, in order; joined, put, looked up. Plain facts. -/
namespace Go.Proofs.YtggcagclpkhlhaaGreatDoor
open Pal
abbrev Undo:=Dot × Int
def rightU (u:Undo):Bool:=rightD u.1 && decide (1≤u.2∧u.2≤64)
theorem rightU_iff (u:Undo):rightU u=true ↔ rightD u.1=true∧1≤u.2∧u.2≤64:=by simp [rightU]
structure CanU (l:List Undo):Prop where
 rt:∀ u ∈ l,rightU u=true
 srt:l.Pairwise (fun a b=>dotLt a.1 b.1=true)
def getU:List Undo→Dot→Int
 | [],_=>0
 | u::r,d=>if u.1=d then u.2 else getU r d
theorem CanU.nil:CanU []:=⟨fun u hu=>by simp at hu,List.Pairwise.nil⟩
theorem CanU.tail {u:Undo} {l:List Undo} (h:CanU (u::l)):CanU l:=⟨fun v hv=>h.rt v (List.mem_cons_of_mem _ hv),(List.pairwise_cons.1 h.srt).2⟩
theorem CanU.head {u:Undo} {l:List Undo} (h:CanU (u::l)):∀ v ∈ l,dotLt u.1 v.1=true:=(List.pairwise_cons.1 h.srt).1
theorem CanU.cons {u:Undo} {l:List Undo} (h:CanU l) (h1:rightU u=true) (h2:∀ v ∈ l,dotLt u.1 v.1=true):CanU (u::l) :=
 ⟨fun v hv=>by rcases List.mem_cons.1 hv with rfl | hv;exact h1;exact h.rt v hv,List.pairwise_cons.2 ⟨h2,h.srt⟩⟩
theorem dotLt_ne {a b:Dot} (h:dotLt a b=true):a ≠ b:=fun e=>by subst e;rw [dotLt_swo.irrefl] at h;cases h
theorem getU_none {l:List Undo} {d:Dot} (h:∀ u ∈ l,u.1 ≠ d):getU l d=0:=by
 induction l with
 | nil=>rfl
 | cons u l ih =>
  rw [getU,if_neg (h u (by simp))]
  exact ih fun v hv=>h v (List.mem_cons_of_mem _ hv)
theorem getU_below {l:List Undo} {d:Dot} (h:∀ u ∈ l,dotLt d u.1=true):getU l d=0:=getU_none fun u hu e=>dotLt_ne (h u hu) e.symm
theorem getU_mem {l:List Undo} {u:Undo} (h:CanU l) (hu:u ∈ l):getU l u.1=u.2:=by
 induction l with
 | nil=>cases hu
 | cons v l ih =>
  rw [getU]
  rcases List.mem_cons.1 hu with e | hu
  ·subst e;rw [if_pos rfl]
  ·rw [if_neg (dotLt_ne (h.head u hu))];exact ih h.tail hu
theorem getU_pos {l:List Undo} {d:Dot} (hp:getU l d ≠ 0):(d,getU l d) ∈ l:=by
 induction l with
 | nil=>exact absurd rfl hp
 | cons v l ih =>
  rw [getU] at hp ⊢
  by_cases e:v.1=d
  ·rw [if_pos e];subst e;simp
  ·rw [if_neg e] at hp ⊢;exact List.mem_cons_of_mem _ (ih hp)
theorem getU_range {l:List Undo} (h:CanU l) (d:Dot):0≤getU l d∧getU l d≤64:=by
 by_cases hp:getU l d=0
 ·omega
 ·have:=(rightU_iff _).1 (h.rt _ (getU_pos hp))
  simp only at this;omega
theorem memU_iff {l:List Undo} (h:CanU l) (u:Undo):u ∈ l ↔ getU l u.1=u.2∧1≤u.2:=by
 constructor
 ·intro hu;exact ⟨getU_mem h hu,((rightU_iff u).1 (h.rt u hu)).2.1⟩
 ·rintro ⟨h1,h2⟩
  have:=getU_pos (l:=l) (d:=u.1) (by omega)
  rwa [h1] at this
def undoLt (a b:Undo):Bool:=dotLt a.1 b.1 || (decide (a.1=b.1) && decide (a.2<b.2))
theorem undoLt_of {a b:Undo} (h:dotLt a.1 b.1=true):undoLt b a=false:=by
 unfold undoLt
 rw [dotLt_asym h]
 have:¬ b.1=a.1:=fun e=>dotLt_ne h e.symm
 simp [this]
theorem undoLt_tot (x y:Undo) (h1:undoLt x y=false) (h2:undoLt y x=false):x=y:=by
 unfold undoLt at h1 h2
 simp only [Bool.or_eq_false_iff,Bool.and_eq_false_iff,decide_eq_false_iff_not] at h1 h2
 have e:=dotLt_tot x.1 y.1 h1.1 h2.1
 refine Prod.ext e ?_
 rcases h1.2 with h | h
 ·exact absurd e h
 ·rcases h2.2 with h' | h'
  ·exact absurd e.symm h'
  ·omega
theorem canU_nodup {l:List Undo} (h:CanU l):l.Nodup:=h.srt.imp fun {a b} hab e=>by subst e;rw [dotLt_swo.irrefl] at hab;cases hab
theorem canU_unique {l m:List Undo} (h1:CanU l) (h2:CanU m) (h:∀ d,getU l d=getU m d):l=m:=by
 refine sorted_unique undoLt_tot ((List.perm_ext_iff_of_nodup (canU_nodup h1) (canU_nodup h2)).2 fun u=>?_) (h1.srt.imp undoLt_of) (h2.srt.imp undoLt_of)
 rw [memU_iff h1,memU_iff h2,h]
def joinU:List Undo→List Undo→List Undo
 | [],b=>b
 | a,[]=>a
 | x::a,y::b=>if dotLt x.1 y.1 then x::joinU a (y::b) else if dotLt y.1 x.1 then y::joinU (x::a) b else (x.1,max x.2 y.2)::joinU a b
termination_by a b=>a.length+b.length
theorem joinU_nil (b:List Undo):joinU [] b=b:=by rw [joinU]
theorem joinU_nil' (a:List Undo):joinU a []=a:=by cases a <;> simp [joinU]
theorem joinU_cons (x:Undo) (a:List Undo) (y:Undo) (b:List Undo):joinU (x::a) (y::b)=if dotLt x.1 y.1 then x::joinU a (y::b) else if dotLt y.1 x.1 then y::joinU (x::a) b else (x.1,max x.2 y.2)::joinU a b:=by rw [joinU]
theorem dotLt_trans {a b c:Dot} (h1:dotLt a b=true) (h2:dotLt b c=true):dotLt a c=true:=dotLt_swo.trans _ _ _ h1 h2
theorem joinU_all:∀ (n:Nat) (a b:List Undo),a.length+b.length≤n→CanU a→CanU b →
  CanU (joinU a b)∧(∀ d,getU (joinU a b) d=max (getU a d) (getU b d))∧(∀ e:Dot,(∀ u ∈ a,dotLt e u.1=true)→(∀ u ∈ b,dotLt e u.1=true)→∀ u ∈ joinU a b,dotLt e u.1=true)∧(joinU a b).length≤a.length+b.length
 | n,[],b,_,ha,hb=>by
  rw [joinU_nil]
  exact ⟨hb,fun d=>by have:=(getU_range hb d).1;show _=max 0 (getU b d);omega,fun e _ h=>h,by simp⟩
 | n,x::a,[],_,ha,hb=>by
  rw [joinU_nil']
  exact ⟨ha,fun d=>by have:=(getU_range ha d).1;show _=max (getU (x::a) d) 0;omega,fun e h _=>h,by simp⟩
 | 0,x::a,y::b,h,_,_=>by simp at h
 | n+1,x::a,y::b,h,ha,hb=>by
  simp only [List.length_cons] at h
  rw [joinU_cons]
  have hx:=ha.rt x (by simp)
  have hy:=hb.rt y (by simp)
  by_cases h1:dotLt x.1 y.1=true
  ·obtain ⟨c1,c2,c3,c4⟩:=joinU_all n a (y::b) (by simp only [List.length_cons];omega) ha.tail hb
   have hb':∀ u ∈ y::b,dotLt x.1 u.1=true:=fun u hu=>by
    rcases List.mem_cons.1 hu with rfl | hu
    ·exact h1
    ·exact dotLt_trans h1 (hb.head u hu)
   rw [if_pos h1]
   refine ⟨c1.cons hx (c3 x.1 ha.head hb'),fun d=>?_,fun e h2 h3 u hu=>?_,by simp only [List.length_cons] at c4 ⊢;omega⟩
   ·rw [getU,getU]
    by_cases e:x.1=d
    ·rw [if_pos e,if_pos e]
     subst e
     rw [getU_below hb']
     have:=((rightU_iff x).1 hx).2.1;omega
    ·rw [if_neg e,if_neg e];exact c2 d
   ·rcases List.mem_cons.1 hu with rfl | hu
    ·exact h2 _ (by simp)
    ·exact c3 e (fun v hv=>h2 v (List.mem_cons_of_mem _ hv)) h3 u hu
  ·rw [if_neg h1]
   by_cases h2:dotLt y.1 x.1=true
   ·obtain ⟨c1,c2,c3,c4⟩:=joinU_all n (x::a) b (by simp only [List.length_cons];omega) ha hb.tail
    have ha':∀ u ∈ x::a,dotLt y.1 u.1=true:=fun u hu=>by
     rcases List.mem_cons.1 hu with rfl | hu
     ·exact h2
     ·exact dotLt_trans h2 (ha.head u hu)
    rw [if_pos h2]
    refine ⟨c1.cons hy (c3 y.1 ha' hb.head),fun d=>?_,fun e h3 h4 u hu=>?_,by simp only [List.length_cons] at c4 ⊢;omega⟩
    ·rw [getU]
     by_cases e:y.1=d
     ·rw [if_pos e]
      subst e
      rw [getU_below ha']
      rw [show getU (y::b) y.1=y.2 by rw [getU,if_pos rfl]]
      have:=((rightU_iff y).1 hy).2.1;omega
     ·rw [if_neg e,c2 d,show getU (y::b) d=getU b d by rw [getU,if_neg e]]
    ·rcases List.mem_cons.1 hu with rfl | hu
     ·exact h4 _ (by simp)
     ·exact c3 e h3 (fun v hv=>h4 v (List.mem_cons_of_mem _ hv)) u hu
   ·have hxy:x.1=y.1:=dotLt_tot _ _ (by simpa using h1) (by simpa using h2)
    obtain ⟨c1,c2,c3,c4⟩:=joinU_all n a b (by omega) ha.tail hb.tail
    rw [if_neg h2]
    refine ⟨c1.cons ?_ (c3 x.1 ha.head (by rw [hxy];exact hb.head)),fun d=>?_,fun e h3 h4 u hu=>?_,by simp only [List.length_cons] at c4 ⊢;omega⟩
    ·rw [rightU_iff] at hx hy ⊢
     exact ⟨hx.1,by show 1≤max x.2 y.2;omega,by show max x.2 y.2≤64;omega⟩
    ·rw [getU,getU,getU,← hxy]
     by_cases e:x.1=d
     ·rw [if_pos e,if_pos e,if_pos e]
     ·rw [if_neg e,if_neg e,if_neg e];exact c2 d
    ·rcases List.mem_cons.1 hu with rfl | hu
     ·exact h3 x (by simp)
     ·exact c3 e (fun v hv=>h3 v (List.mem_cons_of_mem _ hv)) (fun v hv=>h4 v (List.mem_cons_of_mem _ hv)) u hu
theorem joinU_can {a b:List Undo} (ha:CanU a) (hb:CanU b):CanU (joinU a b):=(joinU_all _ a b (Nat.le_refl _) ha hb).1
theorem joinU_get {a b:List Undo} (ha:CanU a) (hb:CanU b) (d:Dot):getU (joinU a b) d=max (getU a d) (getU b d):=(joinU_all _ a b (Nat.le_refl _) ha hb).2.1 d
theorem joinU_len {a b:List Undo} (ha:CanU a) (hb:CanU b):(joinU a b).length≤a.length+b.length:=(joinU_all _ a b (Nat.le_refl _) ha hb).2.2.2
def putF (u:Undo):List Undo→List Undo
 | []=>[u]
 | x::r=>if cmpD u.1 x.1≤0 then u::(x::r).filter (fun y=>decide (y.1 ≠ u.1)) else x::putF u r
theorem cmpD_le (a b:Dot):cmpD a b≤0 ↔ dotLt b a=false:=by
 rw [← Bool.not_eq_true,dotLt_iff]
 unfold cmpD
 by_cases h:a.1=b.1
 ·rw [if_pos ((cmpI_eq _ _).2 h)]
  unfold cmpI;split <;> (try split) <;> omega
 ·rw [if_neg (fun e=>h ((cmpI_eq _ _).1 e))]
  unfold cmpI;split <;> (try split) <;> omega
theorem cmpD_eq (a b:Dot):cmpD a b=0 ↔ a=b:=by
 unfold cmpD
 by_cases h:a.1=b.1
 ·rw [if_pos ((cmpI_eq _ _).2 h),cmpI_eq]
  exact ⟨fun e=>Prod.ext h e,fun e=>by rw [e]⟩
 ·rw [if_neg (fun e=>h ((cmpI_eq _ _).1 e)),cmpI_eq]
  exact ⟨fun e=>absurd e h,fun e=>by rw [e]⟩
theorem filter_can {l:List Undo} (h:CanU l) (p:Undo→Bool):CanU (l.filter p):=⟨fun u hu=>h.rt u (List.mem_filter.1 hu).1,h.srt.filter _⟩
theorem filter_get {l:List Undo} {d e:Dot} (h:d ≠ e):getU (l.filter (fun y=>decide (y.1 ≠ e))) d=getU l d:=by
 induction l with
 | nil=>rfl
 | cons u l ih =>
  rw [getU]
  by_cases hu:u.1=e
  ·rw [List.filter_cons_of_neg (by simp [hu]),if_neg (by rw [hu];exact h.symm)];exact ih
  ·rw [List.filter_cons_of_pos (by simp [hu]),getU,ih]
theorem putF_all {u:Undo} (hu:rightU u=true):∀ (l:List Undo),CanU l→CanU (putF u l)∧(∀ d,getU (putF u l) d=if d=u.1 then u.2 else getU l d)∧(∀ e:Dot,dotLt e u.1=true→(∀ v ∈ l,dotLt e v.1=true)→∀ v ∈ putF u l,dotLt e v.1=true)∧(putF u l).length≤l.length+1
 | [],_=>by
  refine ⟨CanU.nil.cons hu fun v hv=>by simp at hv,fun d=>?_,fun e h _ v hv=>?_,by simp [putF]⟩
  ·show (if u.1=d then u.2 else (0:Int))=if d=u.1 then u.2 else 0
   by_cases e:u.1=d
   ·rw [if_pos e,if_pos e.symm]
   ·rw [if_neg e,if_neg (fun h=>e h.symm)]
  ·simp [putF] at hv;subst hv;exact h
 | x::r,h=>by
  rw [putF]
  by_cases hc:cmpD u.1 x.1≤0
  ·rw [if_pos hc]
   have hf:∀ v ∈ (x::r).filter (fun y=>decide (y.1 ≠ u.1)),dotLt u.1 v.1=true:=fun v hv=>by
    obtain ⟨hv,hne⟩:=List.mem_filter.1 hv
    have hne:v.1 ≠ u.1:=by simpa using hne
    have hx:=(cmpD_le _ _).1 hc
    rcases List.mem_cons.1 hv with rfl | hv
    ·cases hl:dotLt u.1 v.1 with
     | true=>rfl
     | false=>exact absurd (dotLt_tot _ _ hx hl) hne
    ·have h1:=h.head v hv
     cases hl:dotLt u.1 x.1 with
     | true=>exact dotLt_trans hl h1
     | false=>rw [dotLt_tot _ _ hl hx];exact h1
   refine ⟨(filter_can h _).cons hu hf,fun d=>?_,fun e h1 h2 v hv=>?_,by have:=List.length_filter_le (fun y:Undo=>decide (y.1 ≠ u.1)) (x::r);simp only [List.length_cons] at this ⊢;omega⟩
   ·rw [getU]
    by_cases e:u.1=d
    ·rw [if_pos e,if_pos e.symm]
    ·rw [if_neg e,if_neg (fun h=>e h.symm),filter_get (Ne.symm e)]
   ·rcases List.mem_cons.1 hv with rfl | hv
    ·exact h1
    ·exact h2 v (List.mem_filter.1 hv).1
  ·rw [if_neg hc]
   have hx:dotLt x.1 u.1=true:=by
    cases hl:dotLt x.1 u.1 with
    | true=>rfl
    | false=>exact absurd ((cmpD_le _ _).2 hl) hc
   obtain ⟨c1,c2,c3,c4⟩:=putF_all hu r h.tail
   refine ⟨c1.cons (h.rt x (by simp)) (c3 x.1 hx h.head),fun d=>?_,fun e h1 h2 v hv=>?_,by simp only [List.length_cons];omega⟩
   ·rw [getU,getU,c2]
    by_cases e:x.1=d
    ·rw [if_pos e,if_pos e,if_neg];rw [← e];exact dotLt_ne hx
    ·rw [if_neg e,if_neg e]
   ·rcases List.mem_cons.1 hv with rfl | hv
    ·exact h2 _ (by simp)
    ·exact c3 e h1 (fun v hv=>h2 v (List.mem_cons_of_mem _ hv)) v hv
def putU (l:List Undo) (u:Undo):List Undo:=if rightU u=true∧getU l u.1<u.2 then putF u l else l
theorem putU_can {l:List Undo} (h:CanU l) (u:Undo):CanU (putU l u)∧(rightU u=true→∀ d,getU (putU l u) d=if d=u.1 then max (getU l d) u.2 else getU l d)∧(putU l u).length≤l.length+1:=by
 unfold putU
 by_cases hu:rightU u=true∧getU l u.1<u.2
 ·rw [if_pos hu]
  obtain ⟨c1,c2,_,c4⟩:=putF_all hu.1 l h
  refine ⟨c1,fun _ d=>?_,c4⟩
  rw [c2]
  by_cases e:d=u.1
  ·rw [if_pos e,if_pos e,e];omega
  ·rw [if_neg e,if_neg e]
 ·rw [if_neg hu]
  refine ⟨h,fun hr d=>?_,by omega⟩
  by_cases e:d=u.1
  ·rw [if_pos e,e]
   have:¬ getU l u.1<u.2:=fun hh=>hu ⟨hr,hh⟩
   omega
  ·rw [if_neg e]
theorem putUs_can:∀ (m l:List Undo),CanU l→(∀ u ∈ m,rightU u=true)→m.Pairwise (fun a b=>dotLt a.1 b.1=true)→CanU (m.foldl putU l)∧(∀ d,getU (m.foldl putU l) d=max (getU l d) (getU m d))∧(m.foldl putU l).length≤l.length+m.length
 | [],l,h,_,_=>⟨h,fun d=>by have:=(getU_range h d).1;show getU l d=max (getU l d) 0;omega,by simp⟩
 | u::m,l,h,hr,hs=>by
  obtain ⟨a,b,c⟩:=putU_can h u
  have hu:=hr u (by simp)
  have hm:=List.pairwise_cons.1 hs
  obtain ⟨p,q,r⟩:=putUs_can m (putU l u) a (fun v hv=>hr v (List.mem_cons_of_mem _ hv)) hm.2
  simp only [List.foldl_cons,List.length_cons]
  refine ⟨p,fun d=>?_,by omega⟩
  rw [q,b hu,getU]
  by_cases e:u.1=d
  ·have h0:getU m d=0:=by rw [← e];exact getU_below hm.1
   have h1:=((rightU_iff u).1 hu).2.1
   have h2:=(getU_range h d).1
   rw [if_pos e,if_pos e.symm,h0];omega
  ·rw [if_neg e,if_neg (fun h=>e h.symm)]
theorem rjoin_eq {a b:List Undo} (ha:CanU a) (hb:CanU b):b.foldl putU a=joinU a b:=by
 obtain ⟨p,q,_⟩:=putUs_can b a ha hb.rt hb.srt
 exact canU_unique p (joinU_can ha hb) fun d=>by rw [q,joinU_get ha hb]
end Go.Proofs.YtggcagclpkhlhaaGreatDoor
end
noncomputable section
/- Transactions in order, and states: plain facts. -/
namespace Go.Proofs.YtggcagclpkhlhaaGreatDoor
open Pal
abbrev Sta:=List Txn × (List (Dot × Int) × (DSet × (DSet × List (List Dot))))
abbrev Dlt:=List Txn × (List (Dot × Int) × List Dot)
def findT:List Txn→Dot→Option Txn
 | [],_=>none
 | t::r,d=>if t.1=d then some t else findT r d
structure CanT (l:List Txn):Prop where
 rt:∀ t ∈ l,rightD t.1=true
 srt:l.Pairwise (fun a b=>dotLt a.1 b.1=true)
theorem CanT.nil:CanT []:=⟨fun u hu=>by simp at hu,List.Pairwise.nil⟩
theorem CanT.tail {u:Txn} {l:List Txn} (h:CanT (u::l)):CanT l:=⟨fun v hv=>h.rt v (List.mem_cons_of_mem _ hv),(List.pairwise_cons.1 h.srt).2⟩
theorem CanT.head {u:Txn} {l:List Txn} (h:CanT (u::l)):∀ v ∈ l,dotLt u.1 v.1=true:=(List.pairwise_cons.1 h.srt).1
theorem CanT.cons {u:Txn} {l:List Txn} (h:CanT l) (h1:rightD u.1=true) (h2:∀ v ∈ l,dotLt u.1 v.1=true):CanT (u::l) :=
 ⟨fun v hv=>by rcases List.mem_cons.1 hv with rfl | hv;exact h1;exact h.rt v hv,List.pairwise_cons.2 ⟨h2,h.srt⟩⟩
theorem findT_none {l:List Txn} {d:Dot}:findT l d=none ↔ ∀ t ∈ l,t.1 ≠ d:=by
 induction l with
 | nil=>simp [findT]
 | cons u l ih =>
  rw [findT]
  by_cases e:u.1=d
  ·rw [if_pos e];simp [e]
  ·rw [if_neg e,ih];simp [e]
theorem findT_some {l:List Txn} {d:Dot} {t:Txn} (h:findT l d=some t):t ∈ l∧t.1=d:=by
 induction l with
 | nil=>cases h
 | cons u l ih =>
  rw [findT] at h
  by_cases e:u.1=d
  ·rw [if_pos e] at h;injection h with h;subst h;exact ⟨by simp,e⟩
  ·rw [if_neg e] at h;exact ⟨List.mem_cons_of_mem _ (ih h).1,(ih h).2⟩
theorem findT_mem {l:List Txn} {t:Txn} (h:CanT l) (ht:t ∈ l):findT l t.1=some t:=by
 induction l with
 | nil=>cases ht
 | cons v l ih =>
  rw [findT]
  rcases List.mem_cons.1 ht with e | ht
  ·subst e;rw [if_pos rfl]
  ·rw [if_neg (dotLt_ne (h.head t ht))];exact ih h.tail ht
theorem findT_is {l:List Txn} {d:Dot}:(findT l d).isSome=true ↔ ∃ t ∈ l,t.1=d:=by
 cases h:findT l d with
 | none=>exact ⟨fun h=>(by cases h),fun ⟨t,ht,hd⟩=>absurd hd (findT_none.1 h t ht)⟩
 | some t=>exact ⟨fun _=>⟨t,(findT_some h).1,(findT_some h).2⟩,fun _=>rfl⟩
def insT (t:Txn):List Txn→List Txn
 | []=>[t]
 | x::r=>if dotLt x.1 t.1 then x::insT t r else t::x::r
theorem insT_all {t:Txn} (ht:rightD t.1=true):∀ (l:List Txn),CanT l→(∀ x ∈ l,x.1 ≠ t.1)→CanT (insT t l)∧(∀ d,findT (insT t l) d=if d=t.1 then some t else findT l d)∧(∀ e:Dot,dotLt e t.1=true→(∀ v ∈ l,dotLt e v.1=true)→∀ v ∈ insT t l,dotLt e v.1=true)∧(insT t l).length=l.length+1
 | [],_,_=>by
  refine ⟨CanT.nil.cons ht fun v hv=>by simp at hv,fun d=>?_,fun e h _ v hv=>?_,rfl⟩
  ·show (if t.1=d then some t else none)=if d=t.1 then some t else none
   by_cases e:t.1=d
   ·rw [if_pos e,if_pos e.symm]
   ·rw [if_neg e,if_neg (fun h=>e h.symm)]
  ·simp [insT] at hv;subst hv;exact h
 | x::r,h,hn=>by
  rw [insT]
  by_cases hc:dotLt x.1 t.1=true
  ·rw [if_pos hc]
   obtain ⟨c1,c2,c3,c4⟩:=insT_all ht r h.tail (fun y hy=>hn y (List.mem_cons_of_mem _ hy))
   refine ⟨c1.cons (h.rt x (by simp)) (c3 x.1 hc h.head),fun d=>?_,fun e h1 h2 v hv=>?_,by simp [c4]⟩
   ·rw [findT,findT,c2]
    by_cases e:x.1=d
    ·rw [if_pos e,if_pos e,if_neg (fun e2=>hn x (by simp) (e.trans e2))]
    ·rw [if_neg e,if_neg e]
   ·rcases List.mem_cons.1 hv with rfl | hv
    ·exact h2 _ (by simp)
    ·exact c3 e h1 (fun v hv=>h2 v (List.mem_cons_of_mem _ hv)) v hv
  ·rw [if_neg hc]
   have hx:dotLt t.1 x.1=true:=by
    cases hl:dotLt t.1 x.1 with
    | true=>rfl
    | false=>exact absurd (dotLt_tot _ _ (by simpa using hc) hl) (hn x (by simp))
   refine ⟨h.cons ht fun v hv=>?_,fun d=>?_,fun e h1 h2 v hv=>?_,rfl⟩
   ·rcases List.mem_cons.1 hv with rfl | hv
    ·exact hx
    ·exact dotLt_trans hx (h.head v hv)
   ·rw [findT]
    by_cases e:t.1=d
    ·rw [if_pos e,if_pos e.symm]
    ·rw [if_neg e,if_neg (fun h=>e h.symm)]
   ·rcases List.mem_cons.1 hv with rfl | hv
    ·exact h1
    ·exact h2 v hv
theorem insAt_insT {l:List Txn} {t:Txn} {p:Nat} (hl:CanT l) (ht:rightD t.1=true) (hn:∀ x ∈ l,x.1 ≠ t.1) (hp:p≤l.length) (h1:∀ i (h:i<l.length),i<p→dotLt l[i].1 t.1=true) (h2:∀ i (h:i<l.length),p≤i→dotLt l[i].1 t.1=false):insAt l (p:Int) (t::[])=insT t l:=by
 show l.take p++(t::l.drop p)=insT t l
 have key:∀ (l:List Txn) (p:Nat),p≤l.length→(∀ i (h:i<l.length),i<p→dotLt l[i].1 t.1=true)→(∀ i (h:i<l.length),p≤i→dotLt l[i].1 t.1=false)→l.take p++(t::l.drop p)=insT t l:=by
  intro l
  induction l with
  | nil=>intro p hp _ _;simp [insT]
  | cons x r ih =>
   intro p hp h1 h2
   cases p with
   | zero =>
    have:=h2 0 (by simp) (Nat.le_refl _)
    simp only [List.getElem_cons_zero] at this
    simp [insT,this]
   | succ p =>
    have:=h1 0 (by simp) (by omega)
    simp only [List.getElem_cons_zero] at this
    have ih':=ih p (by simpa using hp) (fun i hi hip=>by have:=h1 (i+1) (by simpa using hi) (by omega);simpa using this) (fun i hi hip=>by have:=h2 (i+1) (by simpa using hi) (by omega);simpa using this)
    simp only [List.take_succ_cons,List.drop_succ_cons,List.cons_append,insT,this,if_true]
    rw [ih']
 exact key l p hp h1 h2
structure CanS (s:Sta):Prop where
 tx:CanT s.1
 un:CanU s.2.1
 kn:Can s.2.2.1
 se:Can s.2.2.2.1
 know:∀ x,Mem s.2.2.1 x ↔ ∃ t ∈ s.1,t.1=x
structure LenS (n:Nat) (s:Sta):Prop where
 tx:s.1.length≤n
 un:s.2.1.length≤n
 kn:s.2.2.1.2.length≤n
 se:s.2.2.2.1.2.length≤n
 re:∀ l ∈ s.2.2.2.2,l.length≤n
theorem LenS.mono {n m:Nat} {s:Sta} (h:LenS n s) (hnm:n≤m):LenS m s :=
 ⟨Nat.le_trans h.tx hnm,Nat.le_trans h.un hnm,Nat.le_trans h.kn hnm,Nat.le_trans h.se hnm,fun l hl=>Nat.le_trans (h.re l hl) hnm⟩
def putS (s:Sta) (t:Txn):Sta:=if (findT s.1 t.1).isSome then s else (insT t s.1,(s.2.1,(putD s.2.2.1 t.1,s.2.2.2)))
theorem putS_all {s:Sta} {t:Txn} (hs:CanS s) (ht:rightD t.1=true):CanS (putS s t)∧(∀ d,findT (putS s t).1 d=(findT s.1 d).or (if d=t.1 then some t else none))∧(putS s t).2.1=s.2.1∧(putS s t).2.2.2=s.2.2.2∧(putS s t).1.length≤s.1.length+1∧(putS s t).2.2.1.2.length≤s.2.2.1.2.length+1:=by
 unfold putS
 by_cases hf:(findT s.1 t.1).isSome=true
 ·rw [if_pos hf]
  refine ⟨hs,fun d=>?_,rfl,rfl,by omega,by omega⟩
  by_cases e:d=t.1
  ·rw [if_pos e];subst e
   cases h:findT s.1 t.1 with
   | none=>rw [h] at hf;cases hf
   | some x=>rfl
  ·rw [if_neg e];cases findT s.1 d <;> rfl
 ·rw [if_neg hf]
  have hn:findT s.1 t.1=none:=by cases h:findT s.1 t.1 with
   | none=>rfl
   | some x=>rw [h] at hf;exact absurd rfl hf
  obtain ⟨c1,c2,_,c4⟩:=insT_all ht s.1 hs.tx (findT_none.1 hn)
  obtain ⟨d1,d2,d3⟩:=putD_can hs.kn t.1
  refine ⟨⟨c1,hs.un,d1,hs.se,fun x=>?_⟩,fun d=>?_,rfl,rfl,by show (insT t s.1).length≤_;omega,d3⟩
  ·show Mem (putD s.2.2.1 t.1) x ↔ ∃ y ∈ insT t s.1,y.1=x
   rw [d2,hs.know,← findT_is,← findT_is,c2]
   by_cases e:x=t.1
   ·rw [if_pos e];simp [e,ht]
   ·rw [if_neg e];simp [e]
  ·show findT (insT t s.1) d=_
   rw [c2]
   by_cases e:d=t.1
   ·rw [if_pos e,if_pos e,e,hn];rfl
   ·rw [if_neg e,if_neg e];cases findT s.1 d <;> rfl
theorem puts_all:∀ (m:List Txn) (s:Sta),CanS s→(∀ t ∈ m,rightD t.1=true)→CanS (m.foldl putS s)∧(∀ d,findT (m.foldl putS s).1 d=(findT s.1 d).or (findT m d))∧(m.foldl putS s).2.1=s.2.1∧(m.foldl putS s).2.2.2=s.2.2.2∧(m.foldl putS s).1.length≤s.1.length+m.length∧(m.foldl putS s).2.2.1.2.length≤s.2.2.1.2.length+m.length
 | [],s,hs,_=>⟨hs,fun d=>by show findT s.1 d=(findT s.1 d).or none;cases findT s.1 d <;> rfl,rfl,rfl,by simp,by simp⟩
 | t::m,s,hs,hr=>by
  obtain ⟨a1,a2,a3,a4,a5,a6⟩:=putS_all hs (hr t (by simp))
  obtain ⟨b1,b2,b3,b4,b5,b6⟩:=puts_all m (putS s t) a1 (fun x hx=>hr x (List.mem_cons_of_mem _ hx))
  simp only [List.foldl_cons,List.length_cons]
  refine ⟨b1,fun d=>?_,b3.trans a3,b4.trans a4,by omega,by omega⟩
  rw [b2,a2,findT]
  by_cases e:t.1=d
  ·rw [if_pos e,if_pos e.symm];cases findT s.1 d <;> rfl
  ·rw [if_neg e,if_neg (fun h=>e h.symm)];cases findT s.1 d <;> rfl
structure CanDl (d:Dlt):Prop where
 tx:CanT d.1
 un:CanU d.2.1
 se:∀ x ∈ d.2.2,rightD x=true
structure LenD (n:Nat) (d:Dlt):Prop where
 tx:d.1.length≤n
 un:d.2.1.length≤n
 se:d.2.2.length≤n
def raiseS (s:Sta) (l:List (Dot × Int)):Sta:=(s.1,(joinU s.2.1 l,s.2.2))
def sealS (s:Sta) (l:List Dot):Sta:=(s.1,(s.2.1,(s.2.2.1,(unionD s.2.2.2.1 (ofD l),s.2.2.2.2))))
def mergedS (s:Sta) (d:Dlt):Sta:=sealS (raiseS (d.1.foldl putS s) d.2.1) d.2.2
theorem raiseS_can {s:Sta} {l:List (Dot × Int)} (hs:CanS s) (hl:CanU l):CanS (raiseS s l):=⟨hs.tx,joinU_can hs.un hl,hs.kn,hs.se,hs.know⟩
theorem sealS_can {s:Sta} {l:List Dot} (hs:CanS s):CanS (sealS s l):=⟨hs.tx,hs.un,hs.kn,(unionD_can hs.se (ofD_can l).1).1,hs.know⟩
end Go.Proofs.YtggcagclpkhlhaaGreatDoor
end
noncomputable section
/- What the program's tally, and the document's, come to. -/
namespace Go.Proofs.YtggcagclpkhlhaaGreatDoor
open Pal
theorem cmp_gt0 (a b:Dot):ilt 0 (cmpD a b)=dotLt b a:=by
 rw [Bool.eq_iff_iff]
 show decide (0<cmpD a b)=true ↔ _
 rw [decide_eq_true_iff]
 have:=cmpD_le a b
 constructor
 ·intro h;cases hl:dotLt b a with
  | true=>rfl
  | false=>have:=this.2 hl;omega
 ·intro h
  by_cases h1:0<cmpD a b
  ·exact h1
  ·have:=this.1 (by omega);rw [h] at this;cases this
theorem rone_is (k:Nat) (u:Undo):z23.f k u=some (rightU u):=by
 rw [z23.f_eq,rright_is]
 simp only [bnd_some]
 unfold rightU
 cases rightD u.1 with
 | false=>rfl
 | true =>
  simp only [br_true,ile_dec,br_dec,Bool.true_and]
  by_cases h:1≤u.2
  ·rw [if_pos h];simp [h]
  ·rw [if_neg h];simp [h]
theorem deqU (a b:Undo):deq tUndo a b=decide (a=b):=deq_dec (τ:=tUndo) rfl a b
theorem canU_iff {l:List Undo}:CanU l ↔ ∀ j (h:j<l.length),rightU l[j]=true∧∀ h0:0<j,dotLt (l[j - 1]'(by omega)).1 l[j].1=true:=by
 constructor
 ·intro h j hj
  exact ⟨h.rt _ (List.getElem_mem hj),fun h0=>List.pairwise_iff_getElem.1 h.srt (j - 1) j (by omega) hj (by omega)⟩
 ·intro h
  refine ⟨fun u hu=>?_,List.pairwise_iff_getElem.2 fun i j hi hj hij=>?_⟩
  ·obtain ⟨j,hj,rfl⟩:=List.mem_iff_getElem.1 hu
   exact (h j hj).1
  ·have key:∀ d j (hj:j<l.length) (hd:d+1≤j),dotLt (l[j - (d+1)]'(by omega)).1 l[j].1=true:=by
    intro d
    induction d with
    | zero=>intro j hj hd;exact (h j hj).2 (by omega)
    | succ d ih =>
     intro j hj hd
     have h1:=ih j hj (by omega)
     have h2:=(h (j - (d+1)) (by omega)).2 (by omega)
     have e:j - (d+1) - 1=j - (d+1+1):=by omega
     simp only [e] at h2
     exact dotLt_trans h2 h1
   have:=key (j - i - 1) j hj (by omega)
   have e:j - (j - i - 1+1)=i:=by omega
   simpa only [e] using this
def okU (l:List Undo) (j:Nat):Prop:=∀ h:j<l.length,rightU l[j]=true∧∀ h0:0<j,dotLt (l[j - 1]'(by omega)).1 l[j].1=true
theorem rrightU_is (k:Nat) (l:List Undo) (hl:l.length<k) (hk:k<1000000):∃ b,z0Y.f k l=some b∧(b=true ↔ CanU l):=by
 obtain ⟨b,hb,hbi⟩:=loop_all' l.length (fun n i=>z0Y.l2 k n l (i:Int)) (okU l) (fun n i hi=>by
  simp only [z0Y.l2_eq,ilt_nat,inL_nat,natOf_nat,hi,decide_true,br_true,rd_at' (e:=tUndo) hi,rone_is,bnd_some]
  cases hu:rightU l[i] with
  | false=>exact .inr ⟨fun h=>(by have:=(h hi).1;rw [hu] at this;cases this),rfl⟩
  | true =>
   have e1:bnot true=false:=rfl
   have e2:ilt 0 (i:Int)=decide (0<i):=ilt_nn 0 i
   rw [e1,e2,iadd_nat (by omega)]
   simp only [br_false]
   by_cases h0:0<i
   ·have hi1:i - 1<l.length:=by omega
    have e3:isub .i64 (i:Int) 1=((i - 1:Nat):Int):=by rw [isub_s (by omega) (by omega) (by omega) (by omega)];omega
    rw [e3,inL_nat,natOf_nat,rd_at' (e:=tUndo) hi1,rcmp_is]
    simp only [h0,hi1,decide_true,br_true,bnd_some,cmp_m1]
    cases hd:dotLt l[i - 1].1 l[i].1 with
    | true=>exact .inl ⟨fun _=>⟨hu,fun _=>hd⟩,rfl⟩
    | false=>exact .inr ⟨fun h=>(by have:=(h hi).2 h0;rw [hd] at this;cases this),rfl⟩
   ·simp only [h0,decide_false,br_false]
    exact .inl ⟨fun _=>⟨hu,fun h=>absurd h h0⟩,trivial⟩) (fun n=>by
  simp only [z0Y.l2_eq,ilt_nat,Nat.lt_irrefl,decide_false,br_false]) k 0 (by omega) (by omega)
 rw [z0Y.f_eq]
 refine ⟨b,hb,hbi.trans ?_⟩
 rw [canU_iff]
 exact ⟨fun h j hj=>h j (by omega) hj hj,fun h j _ _ hj=>h j hj⟩
theorem rget_is (k:Nat) (l:List Undo) (d:Dot) (hl:l.length<k) (hk:k<1000000):z2b.f k l d=some (getU l d):=by
 rw [z2b.f_eq]
 have key:∀ n i,i≤l.length→l.length<n+i→z2b.l2 k n l (i:Int) d=some (getU (l.drop i) d):=by
  intro n
  induction n with
  | zero=>intro i h h';omega
  | succ n ih =>
   intro i h h'
   rw [z2b.l2_eq,ilt_nat,inL_nat,natOf_nat]
   by_cases hi:i<l.length
   ·rw [rd_at' (e:=tUndo) hi,List.drop_eq_getElem_cons hi,getU,iadd_nat (by omega),deqD]
    simp only [hi,decide_true,br_true,br_dec]
    by_cases e:l[i].1=d
    ·rw [if_pos e,if_pos e]
    ·rw [if_neg e,if_neg e];exact ih (i+1) (by omega) (by omega)
   ·rw [List.drop_of_length_le (by omega)]
    simp only [hi,decide_false,br_false];rfl
 exact key k 0 (by omega) (by omega)
theorem tcmp_is (k:Nat) (u v:Undo) (h3:3≤k):z0m.f k u v=some (cmpD u.1 v.1):=by
 obtain ⟨q,rfl⟩:∃ q,k=q+3:=⟨k - 3,by omega⟩
 rw [z0m.f_eq,cmpD_is];rfl
theorem tjoin_l (k:Nat) (h3:3≤k):∀ (n:Nat) (a b x:List Undo),a.length+b.length<n→x.length+a.length+b.length<4000000→z1B.l2 k n a b x=some (x++joinU a b)
 | 0,a,b,x,h,_=>by omega
 | n+1,[],[],x,h,hx=>by
  rw [z1B.l2_eq,joinU_nil]
  simp only [ilt0,List.length_nil,Nat.lt_irrefl,decide_false,br_false,List.append_nil]
 | n+1,[],y::b,x,h,hx=>by
  simp only [List.length_nil,List.length_cons,Nat.zero_add] at h hx
  have hr:room x (y::[])=true:=room_le (by simp only [List.length_cons,List.length_nil];omega)
  rw [z1B.l2_eq]
  simp only [ilt0,ieq0,List.length_nil,Nat.lt_irrefl,decide_false,br_false,List.length_cons,Nat.zero_lt_succ,decide_true,br_true,inL0,rd0 (e:=tUndo),hr,inS_tail,piece_tail]
  rw [tjoin_l k h3 n [] b _ (by simp only [List.length_nil];omega) (by simp only [app,List.length_append,List.length_cons,List.length_nil];omega),joinU_nil,joinU_nil]
  simp [app]
 | n+1,y::a,[],x,h,hx=>by
  simp only [List.length_nil,List.length_cons,Nat.add_zero] at h hx
  have hr:room x (y::[])=true:=room_le (by simp only [List.length_cons,List.length_nil];omega)
  have e0:(a.length+1=0)=False:=by simp
  rw [z1B.l2_eq]
  simp only [ilt0,ieq0,e0,List.length_nil,Nat.lt_irrefl,decide_false,br_false,List.length_cons,Nat.zero_lt_succ,decide_true,br_true,inL0,rd0 (e:=tUndo),hr,inS_tail,piece_tail]
  rw [tjoin_l k h3 n a [] _ (by simp only [List.length_nil];omega) (by simp only [app,List.length_append,List.length_cons,List.length_nil];omega),joinU_nil',joinU_nil']
  simp [app]
 | n+1,u::a,v::b,x,h,hx=>by
  simp only [List.length_cons] at h hx
  have hr:∀ y:Undo,room x (y::[])=true:=fun y=>room_le (by simp only [List.length_cons,List.length_nil];omega)
  have e0:(a.length+1=0)=False:=by simp
  have e1:(b.length+1=0)=False:=by simp
  rw [z1B.l2_eq,joinU_cons]
  simp only [ilt0,ieq0,e0,e1,decide_false,br_false,List.length_cons,Nat.zero_lt_succ,decide_true,br_true,inL0,rd0 (e:=tUndo),hr,inS_tail,piece_tail,tcmp_is k _ _ h3,bnd_some,cmp_lt0,cmp_gt0,imax_is]
  cases h1:dotLt u.1 v.1 with
  | true =>
   simp only [br_true,if_true]
   rw [tjoin_l k h3 n a (v::b) _ (by simp only [List.length_cons];omega) (by simp only [app,List.length_append,List.length_cons,List.length_nil];omega)]
   simp [app]
  | false =>
   cases h2:dotLt v.1 u.1 with
   | true =>
    simp only [br_true,br_false,if_true]
    rw [tjoin_l k h3 n (u::a) b _ (by simp only [List.length_cons];omega) (by simp only [app,List.length_append,List.length_cons,List.length_nil];omega)]
    simp [app]
   | false =>
    simp only [br_false]
    rw [tjoin_l k h3 n a b _ (by omega) (by simp only [app,List.length_append,List.length_cons,List.length_nil];omega)]
    simp [app]
theorem tjoin_is (k:Nat) (a b:List Undo) (h3:3≤k) (hl:a.length+b.length<k) (hk:k<1000000):z1B.f k a b=some (joinU a b):=by
 rw [z1B.f_eq,tjoin_l k h3 k a b [] hl (by simp only [List.length_nil];omega)];rfl
theorem rputU_l (k : Nat) (l : List Undo) (u : Undo) (hl : l.length < 1000000) : ∀ (n i : Nat) (x : List Undo) (b : Bool), i ≤ l.length → l.length < n + i → x.length ≤ i + b.toNat →
    z1T.l6 k n l x b (i : Int) u = some (x ++ if b then (l.drop i).filter (fun y => decide (y.1 ≠ u.1)) else putF u (l.drop i))
  | 0, i, _, _, h, h', _ => by omega
  | n + 1, i, x, b, h, h', hx => by
    rw [z1T.l6_eq, ilt_nat, inL_nat, natOf_nat]
    have hb : b.toNat ≤ 1 := by cases b <;> decide
    have t1 : true.toNat = 1 := rfl
    have t0 : false.toNat = 0 := rfl
    have hr : ∀ y : Undo, room x (y :: []) = true := fun y => room_le (by simp only [List.length_cons, List.length_nil]; omega)
    have hr2 : ∀ y z : Undo, room (app x (y :: [])) (z :: []) = true := fun y z => room_le (by simp only [app, List.length_append, List.length_cons, List.length_nil]; omega)
    by_cases hi : i < l.length
    · rw [rd_at' (e := tUndo) hi, rcmp_is, List.drop_eq_getElem_cons hi, iadd_nat (by omega)]
      simp only [hi, decide_true, br_true, bnd_some, hr, hr2, ieq_dec, cmpD_eq, bnot_dec, ile_dec]
      have hlen : ∀ y : Undo, (app x (y :: [])).length = x.length + 1 := fun y => by simp [app]
      cases b with
      | true =>
        have e : bnot true = false := rfl
        simp only [e, br_false, if_true, br_dec]
        by_cases he : u.1 = l[i].1
        · rw [if_neg (by simpa using he), rputU_l k l u hl n (i + 1) x true (by omega) (by omega) (by simp only [t1] at hx ⊢; omega), List.filter_cons_of_neg (by simp [he])]
          rfl
        · rw [if_pos he, rputU_l k l u hl n (i + 1) _ true (by omega) (by omega) (by rw [hlen]; simp only [t0, t1] at hx ⊢; omega), List.filter_cons_of_pos (by simpa using fun h => he h.symm)]
          simp [app]
      | false =>
        have e : bnot false = true := rfl
        simp only [e, br_true, br_dec]
        rw [putF]
        by_cases hc : cmpD u.1 l[i].1 ≤ 0
        · rw [if_pos hc, if_pos hc]
          by_cases he : u.1 = l[i].1
          · rw [if_neg (by simpa using he), rputU_l k l u hl n (i + 1) _ true (by omega) (by omega) (by rw [hlen]; simp only [t0, t1] at hx ⊢; omega), List.filter_cons_of_neg (by simp [he])]
            simp [app]
          · rw [if_pos he, rputU_l k l u hl n (i + 1) _ true (by omega) (by omega) (by simp only [app, List.length_append, List.length_cons, List.length_nil, t0, t1] at hx ⊢; omega), List.filter_cons_of_pos (by simpa using fun h => he h.symm)]
            simp [app]
        · have he : ¬ u.1 = l[i].1 := fun e => hc (by rw [(cmpD_eq _ _).2 e]; omega)
          rw [if_neg hc, if_neg hc, if_pos he, rputU_l k l u hl n (i + 1) _ false (by omega) (by omega) (by rw [hlen]; simp only [t0, t1] at hx ⊢; omega)]
          simp [app]
    · rw [List.drop_of_length_le (by omega)]
      simp only [hi, decide_false, br_false, hr]
      cases b with
      | true => have e : bnot true = false := rfl
                simp [e, br_false]
      | false => have e : bnot false = true := rfl
                 simp [e, br_true, app, putF]
theorem rputU_is (k:Nat) (l:List Undo) (u:Undo) (hl:l.length<k) (hk:k<1000000):z1T.f k l u=some (putU l u):=by
 rw [z1T.f_eq,rone_is]
 simp only [bnd_some]
 unfold putU
 cases hu:rightU u with
 | false=>simp [bnot,br_true]
 | true =>
  have e:bnot true=false:=rfl
  rw [e,rget_is k l _ hl hk]
  simp only [br_false,bnd_some,ile_dec,br_dec,true_and]
  by_cases h:u.2≤getU l u.1
  ·rw [if_pos h,if_neg (by omega)]
  ·rw [if_neg h,if_pos (by omega)]
   have:=rputU_l k l u (by omega) k 0 [] false (by omega) (by omega) (by simp)
   simpa using this
theorem rjoinU_is (k:Nat) (a b:List Undo) (ha:CanU a) (hl:a.length+b.length<k) (hk:k<1000000):z1a.f k a b=some (b.foldl putU a):=by
 rw [z1a.f_eq]
 have key:∀ n i (x:List Undo),i≤b.length→b.length<n+i→CanU x→x.length+(b.length - i)<k→z1a.l3 k n b x (i:Int)=some ((b.drop i).foldl putU x):=by
  intro n
  induction n with
  | zero=>intro i x h h';omega
  | succ n ih =>
   intro i x h h' hx hxl
   rw [z1a.l3_eq,ilt_nat,inL_nat,natOf_nat]
   by_cases hi:i<b.length
   ·rw [rd_at' (e:=tUndo) hi,rputU_is k x _ (by omega) hk,List.drop_eq_getElem_cons hi,iadd_nat (by omega)]
    simp only [hi,decide_true,br_true,bnd_some,List.foldl_cons]
    obtain ⟨c1,_,c3⟩:=putU_can hx b[i]
    exact ih (i+1) _ (by omega) (by omega) c1 (by omega)
   ·rw [List.drop_of_length_le (by omega)]
    simp only [hi,decide_false,br_false,List.foldl_nil]
 exact key k 0 a (by omega) (by omega) ha (by omega)
theorem rsameU_is (k:Nat) (a b:List Undo) (hl:a.length<k) (hk:k<1000000):z1f.f k a b=some (decide (a=b)):=by
 rw [z1f.f_eq,ieq_len,bnot_dec]
 by_cases h:a.length=b.length
 ·simp only [h,not_true,decide_false,br_false]
  exact loop_same a b h (fun n i=>z1f.l4 k n a b (i:Int)) (fun n i hi hi'=>by
   simp only [z1f.l4_eq,ilt_nat,inL_nat,natOf_nat,hi,hi',decide_true,br_true,rd_at' (e:=tUndo) hi,rd_at' (e:=tUndo) hi',deqU,bnot_dec,br_dec,iadd_nat (show i<4611686018427387904 by omega)]
   by_cases e:a[i]=b[i] <;> simp [e]) (fun n=>by simp only [z1f.l4_eq,ilt_nat,Nat.lt_irrefl,decide_false,br_false]) k (by omega)
 ·have:a ≠ b:=fun e=>h (by rw [e])
  simp only [h,this,not_false_eq_true,decide_true,decide_false,br_true]
end Go.Proofs.YtggcagclpkhlhaaGreatDoor
end
noncomputable section
/- States: what the program's functions, and the document's, come to. -/
namespace Go.Proofs.YtggcagclpkhlhaaGreatDoor
open Pal
theorem cmpD_eq0 (a b:Dot):ieq (cmpD a b) 0=decide (a=b):=by
 rw [ieq_dec];exact decide_eq_decide.2 (cmpD_eq a b)
def FoundT (l:List Txn) (d:Dot) (p:Nat) (b:Bool):Prop :=
 p≤l.length∧(∀ t (h:t<l.length),t<p→dotLt l[t].1 d=true)∧(∀ t (h:t<l.length),p≤t→dotLt l[t].1 d=false)∧b=(findT l d).isSome
theorem bsT_find (k:Nat) (l:List Txn) (d:Dot) (h3:3≤k) (hl:l.length<k) (hk:k<1000000) (hs:CanT l):∃ p b,FoundT l d p b∧z01.f k l d=some ((p:Int),b):=by
 obtain ⟨q,rfl⟩:∃ q,k=q+3:=⟨k - 3,by omega⟩
 rw [z01.f_eq]
 obtain ⟨p,h1,h2,h4,h5⟩:=bs_gen l (fun t=>dotLt t.1 d) (hs.srt.imp fun {a b} hab hb=>dotLt_trans hab hb) (fun n i j=>z01.l3 (q+3) n l (ilen l) (i:Int) (j:Int) d) (fun p=>some ((p:Int),match l[p]? with | some t=>decide (t.1=d) | none=>false)) (fun n i j hij hj hm=>by
  have e1:ilt (i:Int) (j:Int)=decide (i<j):=ilt_nn i j
  have e3:iadd .i64 (((i+j) / 2:Nat):Int) 1=(((i+j) / 2+1:Nat):Int):=iadd_nat (by omega)
  simp only [z01.l3_eq,e1,mid_is (show i+j<1000000000 by omega),hij,decide_true,br_true,inL_nat,natOf_nat,hm,rd_at' (e:=tTxn) hm,z1y.f_eq,cmpD_is,bnd_some,cmp_lt0,e3]
  cases dotLt l[(i+j) / 2].1 d <;> rfl) (fun n i hi=>by
  have e1:ilt (i:Int) (i:Int)=false:=decide_eq_false (by omega)
  simp only [z01.l3_eq,e1,br_false,ilt_nat,inL_nat,natOf_nat]
  by_cases h:i<l.length
  ·simp only [h,decide_true,br_true,rd_at' (e:=tTxn) h,z1y.f_eq,cmpD_is,bnd_some,cmpD_eq0,List.getElem?_eq_getElem h]
  ·simp only [h,decide_false,br_false,List.getElem?_eq_none (show l.length≤i by omega)]) (q+3) 0 l.length (by omega) (Nat.le_refl _) (by omega) (fun t _ h=>by omega) (fun t h h'=>by omega)
 refine ⟨p,_,⟨h1,h2,h4,?_⟩,h5⟩
 rw [Bool.eq_iff_iff,findT_is]
 constructor
 ·intro h
  split at h
  ·rename_i t ht
   exact ⟨t,List.mem_of_getElem? ht,of_decide_eq_true h⟩
  ·cases h
 ·rintro ⟨t,ht,hd⟩
  obtain ⟨j,hj,rfl⟩:=List.mem_iff_getElem.1 ht
  have hpj:¬ j<p:=fun hh=>by have:=h2 j hj hh;rw [hd,dotLt_swo.irrefl] at this;cases this
  have hjp:¬ p<j:=fun hh=>by
   have hlt:=List.pairwise_iff_getElem.1 hs.srt p j (by omega) hj hh
   rw [hd] at hlt
   have:=h4 p (by omega) (Nat.le_refl _)
   rw [hlt] at this;cases this
  have:j=p:=by omega
  subst this
  rw [List.getElem?_eq_getElem hj];exact decide_eq_true hd
theorem bsT_put (k:Nat) (l:List Txn) (d:Dot) (h3:3≤k) (hl:l.length<k) (hk:k<1000000) (hs:CanT l):∃ p b,FoundT l d p b∧z02.f k l d=some ((p:Int),b):=by
 obtain ⟨q,rfl⟩:∃ q,k=q+3:=⟨k - 3,by omega⟩
 rw [z02.f_eq]
 obtain ⟨p,h1,h2,h4,h5⟩:=bs_gen l (fun t=>dotLt t.1 d) (hs.srt.imp fun {a b} hab hb=>dotLt_trans hab hb) (fun n i j=>z02.l3 (q+3) n l (ilen l) (i:Int) (j:Int) d) (fun p=>some ((p:Int),match l[p]? with | some t=>decide (t.1=d) | none=>false)) (fun n i j hij hj hm=>by
  have e1:ilt (i:Int) (j:Int)=decide (i<j):=ilt_nn i j
  have e3:iadd .i64 (((i+j) / 2:Nat):Int) 1=(((i+j) / 2+1:Nat):Int):=iadd_nat (by omega)
  simp only [z02.l3_eq,e1,mid_is (show i+j<1000000000 by omega),hij,decide_true,br_true,inL_nat,natOf_nat,hm,rd_at' (e:=tTxn) hm,z1Q.f_eq,cmpD_is,bnd_some,cmp_lt0,e3]
  cases dotLt l[(i+j) / 2].1 d <;> rfl) (fun n i hi=>by
  have e1:ilt (i:Int) (i:Int)=false:=decide_eq_false (by omega)
  simp only [z02.l3_eq,e1,br_false,ilt_nat,inL_nat,natOf_nat]
  by_cases h:i<l.length
  ·simp only [h,decide_true,br_true,rd_at' (e:=tTxn) h,z1Q.f_eq,cmpD_is,bnd_some,cmpD_eq0,List.getElem?_eq_getElem h]
  ·simp only [h,decide_false,br_false,List.getElem?_eq_none (show l.length≤i by omega)]) (q+3) 0 l.length (by omega) (Nat.le_refl _) (by omega) (fun t _ h=>by omega) (fun t h h'=>by omega)
 refine ⟨p,_,⟨h1,h2,h4,?_⟩,h5⟩
 rw [Bool.eq_iff_iff,findT_is]
 constructor
 ·intro h
  split at h
  ·rename_i t ht
   exact ⟨t,List.mem_of_getElem? ht,of_decide_eq_true h⟩
  ·cases h
 ·rintro ⟨t,ht,hd⟩
  obtain ⟨j,hj,rfl⟩:=List.mem_iff_getElem.1 ht
  have hpj:¬ j<p:=fun hh=>by have:=h2 j hj hh;rw [hd,dotLt_swo.irrefl] at this;cases this
  have hjp:¬ p<j:=fun hh=>by
   have hlt:=List.pairwise_iff_getElem.1 hs.srt p j (by omega) hj hh
   rw [hd] at hlt
   have:=h4 p (by omega) (Nat.le_refl _)
   rw [hlt] at this;cases this
  have:j=p:=by omega
  subst this
  rw [List.getElem?_eq_getElem hj];exact decide_eq_true hd
theorem find_is (k:Nat) (l:List Txn) (d:Dot) (h3:3≤k) (hl:l.length<k) (hk:k<1000000) (hs:CanT l):∃ r:Int,z2h.f k l d=some r∧(0≤r ↔ (findT l d).isSome=true):=by
 obtain ⟨p,b,hf,h⟩:=bsT_find k l d h3 hl hk hs
 rw [z2h.f_eq,h]
 simp only [bnd_some]
 have hb:=hf.2.2.2
 cases b with
 | true=>exact ⟨(p:Int),rfl,⟨fun _=>hb.symm,fun _=>by omega⟩⟩
 | false=>exact ⟨-1,rfl,⟨fun h=>by omega,fun h=>by rw [← hb] at h;cases h⟩⟩
theorem tput_is (k:Nat) (l:List Txn) (t:Txn) (h3:3≤k) (hl:l.length+1<k) (hk:k<1000000) (hs:CanT l) (ht:rightD t.1=true):z2v.f k l t=some (if (findT l t.1).isSome then l else insT t l):=by
 obtain ⟨p,b,hf,h⟩:=bsT_put k l t.1 h3 (by omega) hk hs
 rw [z2v.f_eq,h]
 simp only [bnd_some]
 have hb:=hf.2.2.2
 rw [← hb]
 cases b with
 | true=>rfl
 | false =>
  have hn:∀ x ∈ l,x.1 ≠ t.1:=findT_none.1 (by cases hq:findT l t.1 with
   | none=>rfl
   | some x=>rw [hq] at hb;cases hb)
  have r1:room ([]:List Int) l=true:=room_le (by simp only [List.length_nil];omega)
  have r2:room l (t::[])=true:=room_le (by simp only [List.length_cons,List.length_nil];omega)
  have hin:inS 0 (p:Int) (ilen l)=true:=by
   have h1:(p:Int)≤(l.length:Int):=by have:=hf.1;omega
   show (decide ((0:Int)≤0) && decide ((0:Int)≤(p:Int)) && decide ((p:Int)≤(l.length:Int)))=true
   rw [decide_eq_true h1,decide_eq_true (show (0:Int)≤(p:Int) by omega)];rfl
  rw [r1,r2,hin]
  simp only [br_true,br_false]
  rw [insAt_insT hs ht hn hf.1 hf.2.1 hf.2.2.1];rfl
theorem sput_is (k:Nat) (s:Sta) (t:Txn) {n:Nat} (h3:3≤k) (ls:LenS n s) (hl:n+1<k) (hk:k<1000000) (hs:CanS s) (ht:rightD t.1=true):z29.f k s t=some (putS s t):=by
 have:=ls.tx;have:=ls.kn
 obtain ⟨r,hr,hri⟩:=find_is k s.1 t.1 h3 (by omega) hk hs.tx
 rw [z29.f_eq,hr]
 simp only [bnd_some]
 unfold putS
 by_cases hf:(findT s.1 t.1).isSome=true
 ·rw [if_pos hf]
  have e:ile 0 r=true:=decide_eq_true (hri.2 hf)
  rw [e];rfl
 ·rw [if_neg hf]
  have e:ile 0 r=false:=decide_eq_false (fun h=>hf (hri.1 h))
  rw [e,tput_is k s.1 t h3 (by omega) hk hs.tx ht,put_is k s.2.2.1 t.1 h3 (by omega) hk hs.kn,if_neg hf]
  rfl
theorem sraise_is (k:Nat) (s:Sta) (l:List (Dot × Int)) {n m:Nat} (h3:3≤k) (ls:LenS n s) (hl:l.length≤m) (hnm:n+m<k) (hk:k<1000000):z0F.f k s l=some (raiseS s l):=by
 have:=ls.un
 rw [z0F.f_eq,tjoin_is k s.2.1 l h3 (by omega) hk];rfl
theorem puts_len {s:Sta} {n:Nat}:∀ (m:List Txn),CanS s→LenS n s→(∀ t ∈ m,rightD t.1=true)→LenS (n+m.length) (m.foldl putS s):=by
 intro m hs ls hr
 obtain ⟨b1,b2,b3,b4,b5,b6⟩:=puts_all m s hs hr
 refine ⟨?_,?_,?_,?_,?_⟩
 ·have:=ls.tx;omega
 ·rw [b3];have:=ls.un;omega
 ·have:=ls.kn;omega
 ·rw [b4];have:=ls.se;omega
 ·rw [b4];intro l hl;have:=ls.re l hl;omega
theorem merged_is (k:Nat) (s:Sta) (d:Dlt) {n m:Nat} (h17:17<k) (hs:CanS s) (hd:CanDl d) (ls:LenS n s) (ld:LenD m d) (hnm:n+m+m<k) (hk:k<1000000):z0q.f k s d=some (mergedS s d):=by
 have:=ld.tx;have:=ld.un;have:=ld.se
 rw [z0q.f_eq]
 have key:∀ n' i (x:Sta),i≤d.1.length→d.1.length<n'+i→CanS x→LenS (n+i) x→z0q.l2 k n' d.1 (ilen d.1) (i:Int) x d [] [] (zarr 16 0) [] (zarr 16 0) [] (zarr 8 [])=some (sealS (raiseS ((d.1.drop i).foldl putS x) d.2.1) d.2.2):=by
  intro n'
  induction n' with
  | zero=>intro i x h h';omega
  | succ n' ih =>
   intro i x h h' hx hxl
   rw [z0q.l2_eq,ilt_nat,inL_nat,natOf_nat]
   by_cases hi:i<d.1.length
   ·have hrt:=hd.tx.rt _ (List.getElem_mem hi)
    have e3:iadd .i64 (i:Int) 1=((i+1:Nat):Int):=iadd_nat (by omega)
    rw [rd_at' (e:=tTxn) hi,sput_is k x _ (by omega) hxl (by omega) hk hx hrt,e3,List.drop_eq_getElem_cons hi]
    simp only [hi,decide_true,br_true,bnd_some,List.foldl_cons]
    refine ih (i+1) _ (by omega) (by omega) (putS_all hx hrt).1 ?_
    have:=puts_len (s:=x) (n:=n+i) [d.1[i]] hx hxl (fun t ht=>by simp at ht;subst ht;exact hrt)
    simpa [Nat.add_assoc] using this
   ·rw [List.drop_of_length_le (by omega)]
    simp only [hi,decide_false,br_false,List.foldl_nil]
    rw [sraise_is k x d.2.1 (m:=m) (by omega) hxl (by omega) (by omega) hk]
    simp only [bnd_some]
    have hr:=raiseS_can hx hd.un
    have hrl:LenS (n+i+m) (raiseS x d.2.1):=⟨by show x.1.length≤_;have:=hxl.tx;omega,by show (joinU x.2.1 d.2.1).length≤_;have:=joinU_len hx.un hd.un;have:=hxl.un;omega,by show x.2.2.1.2.length≤_;have:=hxl.kn;omega,by show x.2.2.2.1.2.length≤_;have:=hxl.se;omega,fun l hl=>by have:=hxl.re l hl;omega⟩
    obtain ⟨c1,_,c3⟩:=ofD_can d.2.2
    have:=hxl.se
    rw [z1I.f_eq,of_is k d.2.2 (by omega) hk]
    simp only [bnd_some]
    rw [union_is k _ (ofD d.2.2) hr.se c1 (by show x.2.2.2.1.2.length+(ofD d.2.2).2.length<k;omega) h17 hk];rfl
 exact key k 0 s (by omega) (by omega) hs (by simpa using ls)
theorem deqVal (a b:Val):deq tValue a b=decide (a=b):=deq_dec (τ:=tValue) rfl a b
theorem rsameStr_is (k:Nat) (a b:List Str) (hl:a.length<k) (hk:k<1000000):z1G.f k a b=some (decide (a=b)):=by
 rw [z1G.f_eq,ieq_len,bnot_dec]
 by_cases h:a.length=b.length
 ·simp only [h,not_true,decide_false,br_false]
  exact loop_same a b h (fun n i=>z1G.l4 k n a b (i:Int)) (fun n i hi hi'=>by
   simp only [z1G.l4_eq,ilt_nat,inL_nat,natOf_nat,hi,hi',decide_true,br_true,rd_at' (e:=.str) hi,rd_at' (e:=.str) hi',seq_dec,bnot_dec,br_dec,iadd_nat (show i<4611686018427387904 by omega)]
   by_cases e:a[i]=b[i] <;> simp [e]) (fun n=>by simp only [z1G.l4_eq,ilt_nat,Nat.lt_irrefl,decide_false,br_false]) k (by omega)
 ·have:a ≠ b:=fun e=>h (by rw [e])
  simp only [h,this,not_false_eq_true,decide_true,decide_false,br_true]
theorem op_eq (a b:Op):a=b ↔ a.1=b.1∧a.2.2.1=b.2.2.1∧a.2.2.2.1=b.2.2.2.1∧a.2.1=b.2.1∧a.2.2.2.2=b.2.2.2.2:=by
 obtain ⟨a1,a2,a3,a4,a5⟩:=a;obtain ⟨b1,b2,b3,b4,b5⟩:=b
 simp only [Prod.mk.injEq]
 exact ⟨fun ⟨h1,h2,h3,h4,h5⟩=>⟨h1,h3,h4,h2,h5⟩,fun ⟨h1,h3,h4,h2,h5⟩=>⟨h1,h2,h3,h4,h5⟩⟩
structure LenO (n:Nat) (o:Op):Prop where
 path:o.2.1.length<n
 seen:o.2.2.2.2.length<n
theorem rsameOp_is (k:Nat) (a b:Op) (hl:LenO k a) (hk:k<1000000):z1v.f k a b=some (decide (a=b)):=by
 have:=hl.seen
 rw [z1v.f_eq,rsameStr_is k a.2.1 b.2.1 hl.path hk]
 simp only [ieq_dec,deqVal,bnot_dec,bnd_some,br_dec,ilen,Int.natCast_inj]
 rw [show decide (a=b)=decide (a.1=b.1∧a.2.2.1=b.2.2.1∧a.2.2.2.1=b.2.2.2.1∧a.2.1=b.2.1∧a.2.2.2.2=b.2.2.2.2) from decide_eq_decide.2 (op_eq a b)]
 by_cases h1:a.1=b.1
 ·by_cases h2:a.2.2.1=b.2.2.1
  ·by_cases h3:a.2.2.2.1=b.2.2.2.1
   ·by_cases h4:a.2.1=b.2.1
    ·by_cases h5:a.2.2.2.2.length=b.2.2.2.2.length
     ·simp only [h1,h2,h3,h4,h5,not_true,if_false,true_and]
      exact loop_same a.2.2.2.2 b.2.2.2.2 h5 (fun n i=>z1v.l4 k n (i:Int) a b) (fun n i hi hi'=>by
       simp only [z1v.l4_eq,ilt_nat,inL_nat,natOf_nat,hi,hi',decide_true,br_true,rd_at' (e:=tUndo) hi,rd_at' (e:=tUndo) hi',deqU,bnot_dec,br_dec,iadd_nat (show i<4611686018427387904 by omega)]
       by_cases e:a.2.2.2.2[i]=b.2.2.2.2[i] <;> simp [e]) (fun n=>by simp only [z1v.l4_eq,ilt_nat,Nat.lt_irrefl,decide_false,br_false]) k (by omega)
     ·have:a.2.2.2.2 ≠ b.2.2.2.2:=fun e=>h5 (by rw [e])
      simp [h1,h2,h3,h4,h5,this]
    ·simp [h1,h2,h3,h4]
   ·simp [h1,h2,h3]
  ·simp [h1,h2]
 ·simp [h1]
theorem deqDot (a b:Dot):deq tDot a b=decide (a=b):=deqD a b
theorem deqBool (a b:Bool):deq .bool a b=decide (a=b):=by cases a <;> cases b <;> rfl
theorem txn_eq (a b:Txn):a=b ↔ a.1=b.1∧a.2.1=b.2.1∧a.2.2.1=b.2.2.1∧a.2.2.2.1=b.2.2.2.1∧a.2.2.2.2=b.2.2.2.2:=by
 obtain ⟨a1,a2,a3,a4,a5⟩:=a;obtain ⟨b1,b2,b3,b4,b5⟩:=b
 simp only [Prod.mk.injEq]
structure LenT (n:Nat) (t:Txn):Prop where
 ops:t.2.2.2.2.length<n
 each:∀ o ∈ t.2.2.2.2,LenO n o
theorem rsameTxn_is (k:Nat) (a b:Txn) (hl:LenT k a) (hk:k<1000000):z1n.f k a b=some (decide (a=b)):=by
 have:=hl.ops
 rw [z1n.f_eq]
 simp only [ieq_dec,deqDot,deqBool,bnot_dec,bnd_some,br_dec,ilen,Int.natCast_inj]
 rw [show decide (a=b)=decide (a.1=b.1∧a.2.1=b.2.1∧a.2.2.1=b.2.2.1∧a.2.2.2.1=b.2.2.2.1∧a.2.2.2.2=b.2.2.2.2) from decide_eq_decide.2 (txn_eq a b)]
 by_cases h1:a.1=b.1
 ·by_cases h2:a.2.1=b.2.1
  ·by_cases h3:a.2.2.1=b.2.2.1
   ·by_cases h4:a.2.2.2.1=b.2.2.2.1
    ·by_cases h5:a.2.2.2.2.length=b.2.2.2.2.length
     ·simp only [h1,h2,h3,h4,h5,not_true,if_false,true_and]
      exact loop_same a.2.2.2.2 b.2.2.2.2 h5 (fun n i=>z1n.l4 k n (i:Int) a b) (fun n i hi hi'=>by
       simp only [z1n.l4_eq,ilt_nat,inL_nat,natOf_nat,hi,hi',decide_true,br_true,rd_at' (e:=tOp) hi,rd_at' (e:=tOp) hi',rsameOp_is k _ _ (hl.each _ (List.getElem_mem hi)) hk,bnd_some,bnot_dec,br_dec,iadd_nat (show i<4611686018427387904 by omega)]
       by_cases e:a.2.2.2.2[i]=b.2.2.2.2[i] <;> simp [e]) (fun n=>by simp only [z1n.l4_eq,ilt_nat,Nat.lt_irrefl,decide_false,br_false]) k (by omega)
     ·have:a.2.2.2.2 ≠ b.2.2.2.2:=fun e=>h5 (by rw [e])
      simp [h1,h2,h3,h4,h5,this]
    ·simp [h1,h2,h3,h4]
   ·simp [h1,h2,h3]
  ·simp [h1,h2]
 ·simp [h1]
theorem rallTxn_is (k:Nat) (a b:List Txn) (hl:a.length<k) (he:∀ t ∈ a,LenT k t) (hk:k<1000000):z26.f k a b=some (decide (a=b)):=by
 rw [z26.f_eq,ieq_len,bnot_dec]
 by_cases h:a.length=b.length
 ·simp only [h,not_true,decide_false,br_false]
  exact loop_same a b h (fun n i=>z26.l4 k n a b (i:Int)) (fun n i hi hi'=>by
   simp only [z26.l4_eq,ilt_nat,inL_nat,natOf_nat,hi,hi',decide_true,br_true,rd_at' (e:=tTxn) hi,rd_at' (e:=tTxn) hi',rsameTxn_is k _ _ (he _ (List.getElem_mem hi)) hk,bnd_some,bnot_dec,br_dec,iadd_nat (show i<4611686018427387904 by omega)]
   by_cases e:a[i]=b[i] <;> simp [e]) (fun n=>by simp only [z26.l4_eq,ilt_nat,Nat.lt_irrefl,decide_false,br_false]) k (by omega)
 ·have:a ≠ b:=fun e=>h (by rw [e])
  simp only [h,this,not_false_eq_true,decide_true,decide_false,br_true]
theorem sta_ext (s u:Sta) (hs:s.2.2.2.2.length=8) (hu:u.2.2.2.2.length=8):s=u ↔ (∀ i,0≤i→i<8→s.2.2.2.2[i]? = u.2.2.2.2[i]?)∧s.1=u.1∧s.2.1=u.2.1∧s.2.2.1=u.2.2.1∧s.2.2.2.1=u.2.2.2.1:=by
 obtain ⟨a1,a2,a3,a4,a5⟩:=s;obtain ⟨b1,b2,b3,b4,b5⟩:=u
 simp only at hs hu ⊢
 constructor
 ·intro h;injection h with h1 h;injection h with h2 h;injection h with h3 h;injection h with h4 h5
  exact ⟨fun i _ _=>by rw [h5],h1,h2,h3,h4⟩
 ·rintro ⟨h5,h1,h2,h3,h4⟩
  have:a5=b5:=List.ext_getElem? fun i=>by
   by_cases hi:i<8
   ·exact h5 i (by omega) hi
   ·rw [List.getElem?_eq_none (by omega),List.getElem?_eq_none (by omega)]
  rw [h1,h2,h3,h4,this]
theorem rsameS_is (k:Nat) (s u:Sta) {n:Nat} (ls:LenS n s) (he:∀ t ∈ s.1,LenT k t) (hs:s.2.2.2.2.length=8) (hu:u.2.2.2.2.length=8) (hn:n<k) (h17:17<k) (hk:k<1000000):∃ b,z1i.f k s u=some b∧(b=true ↔ s=u):=by
 have:=ls.tx;have:=ls.un;have:=ls.kn;have:=ls.se
 rw [z1i.f_eq]
 obtain ⟨b,hb,hbi⟩:=loop_all 8 (fun n i=>z1i.l2 k n (i:Int) s u) (fun i=>s.2.2.2.2[i]? = u.2.2.2.2[i]?) (fun n' i hi=>by
  have e1:ilt (i:Int) 8=decide (i<8):=ilt_nn i 8
  have e2:inB (i:Int) 8=decide (i<8):=inB_nat i 8
  have hi1:i<s.2.2.2.2.length:=by omega
  have hi2:i<u.2.2.2.2.length:=by omega
  have hlen:=ls.re _ (List.getElem_mem hi1)
  have e3:iadd .i64 (i:Int) 1=((i+1:Nat):Int):=iadd_nat (by omega)
  simp only [z1i.l2_eq,e1,e2,hi,decide_true,br_true,natOf_nat,rd_at' (e:=.slc tDot) hi1,rd_at' (e:=.slc tDot) hi2,reqD k _ _ (show (s.2.2.2.2[i]).length<k by omega) hk,bnd_some,bnot_dec,br_dec,e3]
  by_cases h:s.2.2.2.2[i]=u.2.2.2.2[i]
  ·exact .inl ⟨by rw [List.getElem?_eq_getElem hi1,List.getElem?_eq_getElem hi2,h],if_neg (by simpa using h)⟩
  ·exact .inr ⟨fun hh=>by rw [List.getElem?_eq_getElem hi1,List.getElem?_eq_getElem hi2] at hh;exact h (Option.some.inj hh),if_pos h⟩)
  (some (decide (s.1=u.1∧s.2.1=u.2.1∧s.2.2.1=u.2.2.1∧s.2.2.2.1=u.2.2.2.1))) (s.1=u.1∧s.2.1=u.2.1∧s.2.2.1=u.2.2.1∧s.2.2.2.1=u.2.2.2.1) ⟨_,rfl,by simp⟩ (fun n'=>by
  have e1:ilt ((8:Nat):Int) 8=false:=rfl
  simp only [z1i.l2_eq,e1,br_false,rallTxn_is k s.1 u.1 (by omega) he hk,rsameU_is k s.2.1 u.2.1 (by omega) hk,rsame_is k s.2.2.1 u.2.2.1 (by omega) hk,rsame_is k s.2.2.2.1 u.2.2.2.1 (by omega) hk,bnd_some,br_dec]
  by_cases h1:s.1=u.1 <;> by_cases h2:s.2.1=u.2.1 <;> by_cases h3:s.2.2.1=u.2.2.1 <;> simp [h1,h2,h3]) k 0 (by omega) (by omega)
 exact ⟨b,hb,hbi.trans (sta_ext s u hs hu).symm⟩
end Go.Proofs.YtggcagclpkhlhaaGreatDoor
end
noncomputable section
/- Which states and deltas the document calls good: what is known of them. -/
namespace Go.Proofs.YtggcagclpkhlhaaGreatDoor
open Pal
def risAt (l:List Txn) (j:Nat):Prop:=∀ h:j+1<l.length,dotLt (l[j]'(by omega)).1 l[j+1].1=true
theorem ris_iff {l:List Txn}:l.Pairwise (fun a b=>dotLt a.1 b.1=true) ↔ ∀ j,0≤j→j<l.length - 1→risAt l j:=by
 constructor
 ·intro h j h1 h2 hj
  exact List.pairwise_iff_getElem.1 h j (j+1) (by omega) hj (by omega)
 ·intro h
  refine List.pairwise_iff_getElem.2 fun i j hi hj hij=>?_
  have key:∀ d i (hd:i+d+1<l.length),dotLt (l[i]'(by omega)).1 l[i+d+1].1=true:=by
   intro d
   induction d with
   | zero=>intro i hd;exact h i (by omega) (by omega) hd
   | succ d ih =>
    intro i hd
    exact dotLt_trans (ih i (by omega)) (h (i+d+1) (by omega) (by omega) (by omega))
  have:=key (j - i - 1) i (by omega)
  have e:i+(j - i - 1)+1=j:=by omega
  simpa only [e] using this
theorem rrises_is (k:Nat) (l:List Txn) (hl:l.length<k) (hk:k<1000000):∃ b,z0T.f k l=some b∧(b=true ↔ l.Pairwise (fun a b=>dotLt a.1 b.1=true)):=by
 rw [z0T.f_eq]
 obtain ⟨b,hb,hbi⟩:=loop_all' (l.length - 1) (fun n i=>z0T.l2 k n l ((i+1:Nat):Int)) (risAt l) (fun n i hi=>by
  have hi0:i<l.length:=by omega
  have hi1:i+1<l.length:=by omega
  have e3:isub .i64 ((i+1:Nat):Int) 1=(i:Int):=by rw [isub_s (by omega) (by omega) (by omega) (by omega)];omega
  have e4:iadd .i64 ((i+1:Nat):Int) 1=((i+1+1:Nat):Int):=iadd_nat (by omega)
  simp only [z0T.l2_eq,ilt_nat,e3,inL_nat,natOf_nat,hi0,hi1,decide_true,br_true,rd_at' (e:=tTxn) hi0,rd_at' (e:=tTxn) hi1,rcmp_is,bnd_some,cmp_m1,e4]
  cases hd:dotLt l[i].1 l[i+1].1 with
  | true=>exact .inl ⟨fun _=>hd,rfl⟩
  | false=>exact .inr ⟨fun h=>(by have:=h hi1;rw [hd] at this;cases this),rfl⟩) (fun n=>by
  simp only [z0T.l2_eq,ilt_nat,show ¬ l.length - 1+1<l.length by omega,decide_false,br_false]) k 0 (by omega) (by omega)
 exact ⟨b,hb,hbi.trans ris_iff.symm⟩
def emptyD:DSet:=(zarr 16 0,[])
theorem empty_can:Can emptyD:=(ofD_can []).1
theorem empty_mem (x:Dot):¬ Mem emptyD x:=fun h=>by
 have:=((ofD_can []).2.1 x).1 h
 simp at this
def dotsOf (l:List Txn):List Dot:=l.map (·.1)
theorem known_isG (k:Nat) (l:List Txn) (hl:l.length+1<k) (hk:k<1000000):z0y.f k l=some ((dotsOf l).foldl putD emptyD):=by
 rw [z0y.f_eq]
 have key:∀ n i (s:DSet),i≤l.length→l.length<n+i→Can s→s.2.length≤i→z0y.l3 k n l (i:Int) (zarr 16 0) [] s=some ((dotsOf (l.drop i)).foldl putD s):=by
  intro n
  induction n with
  | zero=>intro i s h h';omega
  | succ n ih =>
   intro i s h h' hs hsl
   rw [z0y.l3_eq,ilt_nat,inL_nat,natOf_nat]
   by_cases hi:i<l.length
   ·have e3:iadd .i64 (i:Int) 1=((i+1:Nat):Int):=iadd_nat (by omega)
    rw [rd_at' (e:=tTxn) hi,rput_is k s l[i].1 (by omega) hk hs,e3,List.drop_eq_getElem_cons hi]
    simp only [hi,decide_true,br_true,bnd_some,dotsOf,List.map_cons,List.foldl_cons]
    obtain ⟨a,_,c⟩:=putD_can hs l[i].1
    exact ih (i+1) _ (by omega) (by omega) a (by omega)
   ·rw [List.drop_of_length_le (by omega)]
    simp only [hi,decide_false,br_false,dotsOf,List.map_nil,List.foldl_nil]
 exact key k 0 emptyD (by omega) (by omega) empty_can (by simp [emptyD])
theorem known_is (k:Nat) (l:List Txn) (hl:l.length+1<k) (hk:k<1000000) (hr:∀ t ∈ l,rightD t.1=true):z0y.f k l=some ((dotsOf l).foldl putD emptyD):=known_isG k l hl hk
theorem known_mem {l:List Txn} (hr:∀ t ∈ l,rightD t.1=true):Can ((dotsOf l).foldl putD emptyD)∧(∀ x,Mem ((dotsOf l).foldl putD emptyD) x ↔ ∃ t ∈ l,t.1=x)∧((dotsOf l).foldl putD emptyD).2.length≤l.length:=by
 obtain ⟨p,q,r⟩:=puts_can (dotsOf l) emptyD empty_can (fun d hd=>by
  obtain ⟨t,ht,rfl⟩:=List.mem_map.1 hd;exact hr t ht)
 refine ⟨p,fun x=>?_,?_⟩
 ·rw [q]
  constructor
  ·rintro (h | h)
   ·exact absurd h (empty_mem x)
   ·obtain ⟨t,ht,rfl⟩:=List.mem_map.1 h;exact ⟨t,ht,rfl⟩
  ·rintro ⟨t,ht,rfl⟩;exact .inr (List.mem_map.2 ⟨t,ht,rfl⟩)
 ·have:(dotsOf l).length=l.length:=by simp [dotsOf]
  have e0:emptyD.2.length=0:=rfl
  omega
structure RightS (k:Nat) (s:Sta):Prop where
 many:s.1.length≤1000
 ris:s.1.Pairwise (fun a b=>dotLt a.1 b.1=true)
 un:CanU s.2.1
 se:Can s.2.2.2.1∧s.2.2.2.1.2.length≤4096
 chk:∀ t ∈ s.1,z0z.f k t=some 0
 redo:∀ l ∈ s.2.2.2.2,l.length≤1000∧∀ d ∈ l,rightD d=true
 kn:Can s.2.2.1∧s.2.2.1.2.length≤4096
 know:s.2.2.1=(dotsOf s.1).foldl putD emptyD
def chkAt (k:Nat) (l:List Txn) (j:Nat):Prop:=∀ h:j<l.length,z0z.f k l[j]=some 0
def redoAt (r:List (List Dot)) (j:Nat):Prop:=∀ h:j<r.length,r[j].length≤1000∧∀ d ∈ r[j],rightD d=true
def rdAt (l:List Dot) (j:Nat):Prop:=∀ h:j<l.length,rightD l[j]=true
theorem rdAt_all {l:List Dot}:(∀ j,0≤j→j<l.length→rdAt l j) ↔ ∀ d ∈ l,rightD d=true:=by
 constructor
 ·intro h d hd
  obtain ⟨j,hj,rfl⟩:=List.mem_iff_getElem.1 hd
  exact h j (by omega) hj hj
 ·intro h j _ hj _;exact h _ (List.getElem_mem hj)
theorem rrightS_isG (k:Nat) (s:Sta) (hv1:s.2.2.1.1.length=16) (hv2:s.2.2.2.1.1.length=16) (hr8:s.2.2.2.2.length=8) (hsh:∀ t ∈ s.1,∃ e:Int,z0z.f k t=some e∧(e=0→rightD t.1=true)) (hrl:∀ l ∈ s.2.2.2.2,l.length<k) (hul:s.2.1.length<k) (hk:5000<k) (hk2:k<1000000) :
  ∃ b,z0C.f k s=some b∧(b=true ↔ RightS k s):=by
 rw [z0C.f_eq,show ilt 1000 (ilen s.1)=decide (1000<s.1.length) from ilt_lenR 1000 s.1]
 by_cases hm:1000<s.1.length
 ·rw [decide_eq_true hm];exact ⟨false,rfl,⟨fun h=>(by cases h),fun h=>by have:=h.many;omega⟩⟩
 rw [decide_eq_false hm]
 obtain ⟨b1,g1,i1⟩:=rrises_is k s.1 (by omega) hk2
 obtain ⟨b2,g2,i2⟩:=rrightU_is k s.2.1 hul hk2
 obtain ⟨b3,g3,i3⟩:=rr_is k s.2.2.2.1 hv2 hk hk2
 obtain ⟨b4,g4,i4⟩:=rr_is k s.2.2.1 hv1 hk hk2
 rw [g1]
 simp only [br_false,bnd_some]
 cases b1 with
 | false=>exact ⟨false,rfl,⟨fun h=>(by cases h),fun h=>i1.2 h.ris⟩⟩
 | true =>
 have bt:bnot true=false:=rfl
 have bf:bnot false=true:=rfl
 rw [bt,g2]
 simp only [br_false,bnd_some]
 cases b2 with
 | false=>exact ⟨false,rfl,⟨fun h=>(by cases h),fun h=>i2.2 h.un⟩⟩
 | true =>
 rw [bt,g3]
 simp only [br_false,bnd_some]
 cases b3 with
 | false=>exact ⟨false,rfl,⟨fun h=>(by cases h),fun h=>i3.2 h.se⟩⟩
 | true =>
 rw [bt]
 simp only [br_false]
 have tail:(∀ t ∈ s.1,rightD t.1=true)→∃ b,(bnd (z0A.f k s.2.2.1) fun r0=>br r0 (bnd (z0y.f k s.1) fun r1=>bnd (z18.f k s.2.2.1 r1) fun r2=>some r2) (some false))=some b∧(b=true ↔ (Can s.2.2.1∧s.2.2.1.2.length≤4096)∧s.2.2.1=(dotsOf s.1).foldl putD emptyD):=by
  intro hrt
  rw [g4]
  simp only [bnd_some]
  cases b4 with
  | false=>exact ⟨false,rfl,⟨fun h=>(by cases h),fun h=>i4.2 h.1⟩⟩
  | true =>
   have h4:=i4.1 rfl
   simp only [br_true]
   rw [known_is k s.1 (by omega) hk2 hrt]
   simp only [bnd_some]
   rw [rsame_is k _ _ (by omega) hk2]
   exact ⟨_,rfl,by rw [decide_eq_true_iff];exact ⟨fun h=>⟨h4,h⟩,fun h=>h.2⟩⟩
 have rows:(∀ t ∈ s.1,rightD t.1=true)→∃ b,z0C.l9 k k 0 s=some b∧(b=true ↔ (∀ j,0≤j→j<8→redoAt s.2.2.2.2 j)∧((Can s.2.2.1∧s.2.2.1.2.length≤4096)∧s.2.2.1=(dotsOf s.1).foldl putD emptyD)):=by
  intro hrt
  refine loop_all 8 (fun n i=>z0C.l9 k n (i:Int) s) (redoAt s.2.2.2.2) (fun n i hi=>?_) _ _ (tail hrt) (fun n=>?_) k 0 (by omega) (by omega)
  ·have e1:ilt (i:Int) 8=decide (i<8):=ilt_nn i 8
   have e2:inB (i:Int) 8=decide (i<8):=inB_nat i 8
   have hi1:i<s.2.2.2.2.length:=by omega
   have hll:=hrl _ (List.getElem_mem hi1)
   have e4:ilt 1000 (ilen s.2.2.2.2[i])=decide (1000<s.2.2.2.2[i].length):=ilt_lenR 1000 s.2.2.2.2[i]
   simp only [z0C.l9_eq,e1,e2,hi,decide_true,br_true,natOf_nat,rd_at' (e:=.slc tDot) hi1,e4]
   by_cases hl:1000<s.2.2.2.2[i].length
   ·rw [decide_eq_true hl]
    exact .inr ⟨fun h=>by have:=(h hi1).1;omega,rfl⟩
   ·rw [decide_eq_false hl]
    simp only [br_false]
    have inner:∀ q j,j≤s.2.2.2.2[i].length→s.2.2.2.2[i].length<q+j→((∀ p,j≤p→p<s.2.2.2.2[i].length→rdAt s.2.2.2.2[i] p)∧z0C.l14 k n q (i:Int) (j:Int) s=z0C.l9 k n ((i+1:Nat):Int) s)∨(¬ (∀ p,j≤p→p<s.2.2.2.2[i].length→rdAt s.2.2.2.2[i] p)∧z0C.l14 k n q (i:Int) (j:Int) s=some false):=by
     intro q
     induction q with
     | zero=>intro j h1 h2;omega
     | succ q ih =>
      intro j h1 h2
      have e3:iadd .i64 (j:Int) 1=((j+1:Nat):Int):=iadd_nat (by omega)
      have e5:iadd .i64 (i:Int) 1=((i+1:Nat):Int):=iadd_nat (by omega)
      by_cases hj:j<s.2.2.2.2[i].length
      ·simp only [z0C.l14_eq,e2,hi,decide_true,br_true,natOf_nat,rd_at' (e:=.slc tDot) hi1,ilt_nat,inL_nat,hj,rd_at' (e:=tDot) hj,rright_is,bnd_some,e3]
       cases hd:rightD s.2.2.2.2[i][j] with
       | false=>exact .inr ⟨fun h=>(by have:=h j (Nat.le_refl _) hj hj;rw [hd] at this;cases this),rfl⟩
       | true =>
        rcases ih (j+1) (by omega) (by omega) with ⟨h3,h4⟩ | ⟨h3,h4⟩
        ·refine .inl ⟨fun p hp1 hp2=>?_,h4⟩
         by_cases e:p=j
         ·subst e;exact fun _=>hd
         ·exact h3 p (by omega) hp2
        ·exact .inr ⟨fun h=>h3 fun p hp1 hp2=>h p (by omega) hp2,h4⟩
      ·refine .inl ⟨fun p hp1 hp2=>by omega,?_⟩
       simp only [z0C.l14_eq,e2,hi,decide_true,br_true,natOf_nat,rd_at' (e:=.slc tDot) hi1,ilt_nat,hj,decide_false,br_false,e5]
    rcases inner k 0 (by omega) (by omega) with ⟨h3,h4⟩ | ⟨h3,h4⟩
    ·exact .inl ⟨fun _=>⟨by omega,rdAt_all.1 h3⟩,h4⟩
    ·exact .inr ⟨fun h=>h3 (rdAt_all.2 (h hi1).2),h4⟩
  ·have e1:ilt ((8:Nat):Int) 8=false:=rfl
   simp only [z0C.l9_eq,e1,br_false]
 have hdot:(∀ j,0≤j→j<s.1.length→chkAt k s.1 j)→∀ t ∈ s.1,rightD t.1=true:=by
  intro h t ht
  obtain ⟨j,hj,rfl⟩:=List.mem_iff_getElem.1 ht
  obtain ⟨e,he,hei⟩:=hsh _ ht
  rw [h j (by omega) hj hj] at he
  injection he with he
  exact hei he.symm
 have txs:∃ b,z0C.l4 k k 0 s=some b∧(b=true ↔ (∀ j,0≤j→j<s.1.length→chkAt k s.1 j)∧((∀ j,0≤j→j<8→redoAt s.2.2.2.2 j)∧((Can s.2.2.1∧s.2.2.1.2.length≤4096)∧s.2.2.1=(dotsOf s.1).foldl putD emptyD))):=by
  by_cases hall:∀ j,0≤j→j<s.1.length→chkAt k s.1 j
  ·refine loop_all s.1.length (fun n i=>z0C.l4 k n (i:Int) s) (chkAt k s.1) (fun n i hi=>?_) _ _ (rows (hdot hall)) (fun n=>?_) k 0 (by omega) (by omega)
   ·have e3:iadd .i64 (i:Int) 1=((i+1:Nat):Int):=iadd_nat (by omega)
    have hc:=hall i (by omega) hi hi
    have ez:ieq (0:Int) 0=true:=rfl
    simp only [z0C.l4_eq,ilt_nat,inL_nat,natOf_nat,hi,decide_true,br_true,rd_at' (e:=tTxn) hi,hc,bnd_some,e3,ez,bt,br_false]
    exact .inl ⟨hall i (by omega) hi,trivial⟩
   ·simp only [z0C.l4_eq,ilt_nat,Nat.lt_irrefl,decide_false,br_false]
  ·-- it falls at the first that is wrong
   have fall:∀ n i,i≤s.1.length→s.1.length<n+i→(¬ ∀ j,i≤j→j<s.1.length→chkAt k s.1 j)→z0C.l4 k n (i:Int) s=some false:=by
    intro n
    induction n with
    | zero=>intro i h1 h2;omega
    | succ n ih =>
     intro i h1 h2 hne
     have hi:i<s.1.length:=Nat.lt_of_not_le fun hle=>hne fun j hj1 hj2=>by omega
     have e3:iadd .i64 (i:Int) 1=((i+1:Nat):Int):=iadd_nat (by omega)
     obtain ⟨e,he,_⟩:=hsh _ (List.getElem_mem hi)
     rw [z0C.l4_eq,ilt_nat,inL_nat,natOf_nat,rd_at' (e:=tTxn) hi,he,e3]
     simp only [hi,decide_true,br_true,bnd_some,ieq_dec,bnot_dec,br_dec]
     by_cases hz:e=0
     ·rw [if_neg (by simpa using hz)]
      refine ih (i+1) (by omega) (by omega) fun hh=>hne fun j hj1 hj2=>?_
      by_cases ej:j=i
      ·subst ej;exact fun _=>by rw [he,hz]
      ·exact hh j (by omega) hj2
     ·rw [if_pos hz]
   exact ⟨false,fall k 0 (by omega) (by omega) hall,⟨fun h=>(by cases h),fun h=>absurd h.1 hall⟩⟩
 obtain ⟨b,hb,hbi⟩:=txs
 refine ⟨b,hb,hbi.trans ⟨fun ⟨h1,h2,h3,h4⟩=>?_,fun h=>⟨fun j _ hj _=>h.chk _ (List.getElem_mem hj),fun j _ hj hj8=>h.redo _ (List.getElem_mem hj8),h.kn,h.know⟩⟩⟩
 refine ⟨by omega,i1.1 rfl,i2.1 rfl,i3.1 rfl,fun t ht=>?_,fun l hl=>?_,h3,h4⟩
 ·obtain ⟨j,hj,rfl⟩:=List.mem_iff_getElem.1 ht
  exact h1 j (by omega) hj hj
 ·obtain ⟨j,hj,rfl⟩:=List.mem_iff_getElem.1 hl
  exact h2 j (by omega) (by omega) hj
theorem rrightS_is (k:Nat) (s:Sta) (hv1:s.2.2.1.1.length=16) (hv2:s.2.2.2.1.1.length=16) (hr8:s.2.2.2.2.length=8) (hsh:∀ t ∈ s.1,ShortT t) (hrl:∀ l ∈ s.2.2.2.2,l.length<k) (hul:s.2.1.length<k) (hk:5000<k) (hk2:k<1000000) :
  ∃ b,z0C.f k s=some b∧(b=true ↔ RightS k s) :=
 rrightS_isG k s hv1 hv2 hr8 (fun t ht=>rtxn_is k t (hsh t ht) (by omega) hk2) hrl hul hk hk2
theorem RightS.can {k:Nat} {s:Sta} (h:RightS k s) (hsh:∀ t ∈ s.1,ShortT t) (hk:1000<k) (hk2:k<1000000):CanS s:=by
 have hrt:∀ t ∈ s.1,rightD t.1=true:=fun t ht=>by
  obtain ⟨e,he,hei⟩:=rtxn_is k t (hsh t ht) hk hk2
  rw [h.chk t ht] at he;injection he with he;exact hei he.symm
 exact ⟨⟨hrt,h.ris⟩,h.un,h.kn.1,h.se.1,fun x=>by rw [h.know];exact (known_mem hrt).2.1 x⟩
structure ShortS (s:Sta):Prop where
 tx:s.1.length≤20
 un:s.2.1.length≤100
 kn:s.2.2.1.2.length≤100
 se:s.2.2.2.1.2.length≤100
 each:∀ t ∈ s.1,ShortT t
 redo:∀ l ∈ s.2.2.2.2,l.length≤40
theorem ShortS.len {s:Sta} (h:ShortS s):LenS 100 s:=⟨Nat.le_trans h.tx (by decide),h.un,h.kn,h.se,fun l hl=>Nat.le_trans (h.redo l hl) (by decide)⟩
def shtAt (k:Nat) (l:List Txn) (j:Nat):Prop:=∀ h:j<l.length,z10.f k l[j]=some true
def s40At (r:List (List Dot)) (j:Nat):Prop:=∀ h:j<r.length,r[j].length≤40
theorem shtAt_all {k:Nat} {l:List Txn} (hk:1000<k) (hk2:k<1000000) (h:∀ j,0≤j→j<l.length→shtAt k l j):∀ t ∈ l,ShortT t:=by
 intro t ht
 obtain ⟨j,hj,rfl⟩:=List.mem_iff_getElem.1 ht
 obtain ⟨b,hb,hbi⟩:=rtxnshort_is k l[j] hk hk2
 rw [h j (by omega) hj hj] at hb
 injection hb with hb;exact hbi hb.symm
theorem sht_step (k:Nat) (t:Txn) (hk:1000<k) (hk2:k<1000000):∃ b,z10.f k t=some b:=by
 obtain ⟨b,hb,_⟩:=rtxnshort_is k t hk hk2
 exact ⟨b,hb⟩
theorem rshortS_is (k:Nat) (s:Sta) (hr8:s.2.2.2.2.length=8) (hk:1000<k) (hk2:k<1000000):∃ b,z0Z.f k s=some b∧(b=true→ShortS s):=by
 rw [z0Z.f_eq,show ilt 20 (ilen s.1)=decide (20<s.1.length) from ilt_lenR 20 _,show ilt 100 (ilen s.2.1)=decide (100<s.2.1.length) from ilt_lenR 100 _,show ilt 100 (ilen s.2.2.1.2)=decide (100<s.2.2.1.2.length) from ilt_lenR 100 _,show ilt 100 (ilen s.2.2.2.1.2)=decide (100<s.2.2.2.1.2.length) from ilt_lenR 100 _]
 simp only [br_dec]
 by_cases h1:20<s.1.length
 ·rw [if_pos h1];exact ⟨false,rfl,fun h=>by cases h⟩
 by_cases h2:100<s.2.1.length
 ·rw [if_neg h1,if_pos h2];exact ⟨false,rfl,fun h=>by cases h⟩
 by_cases h3:100<s.2.2.1.2.length
 ·rw [if_neg h1,if_neg h2,if_pos h3];exact ⟨false,rfl,fun h=>by cases h⟩
 by_cases h4:100<s.2.2.2.1.2.length
 ·rw [if_neg h1,if_neg h2,if_neg h3,if_pos h4];exact ⟨false,rfl,fun h=>by cases h⟩
 rw [if_neg h1,if_neg h2,if_neg h3,if_neg h4]
 have rows:∃ b,z0Z.l9 k k 0 s=some b∧(b=true ↔ ∀ j,0≤j→j<8→s40At s.2.2.2.2 j):=by
  refine loop_all' 8 (fun n i=>z0Z.l9 k n (i:Int) s) (s40At s.2.2.2.2) (fun n i hi=>?_) (fun n=>?_) k 0 (by omega) (by omega)
  ·have e1:ilt (i:Int) 8=decide (i<8):=ilt_nn i 8
   have e2:inB (i:Int) 8=decide (i<8):=inB_nat i 8
   have hi1:i<s.2.2.2.2.length:=by omega
   have e3:iadd .i64 (i:Int) 1=((i+1:Nat):Int):=iadd_nat (by omega)
   have e4:ilt 40 (ilen s.2.2.2.2[i])=decide (40<s.2.2.2.2[i].length):=ilt_lenR 40 s.2.2.2.2[i]
   simp only [z0Z.l9_eq,e1,e2,hi,decide_true,br_true,natOf_nat,rd_at' (e:=.slc tDot) hi1,e4,e3,br_dec]
   by_cases hl:40<s.2.2.2.2[i].length
   ·exact .inr ⟨fun h=>by have:=h hi1;omega,if_pos hl⟩
   ·exact .inl ⟨fun _=>by omega,if_neg hl⟩
  ·have e1:ilt ((8:Nat):Int) 8=false:=rfl
   simp only [z0Z.l9_eq,e1,br_false]
 obtain ⟨b,hb,hbi⟩:=loop_all s.1.length (fun n i=>z0Z.l4 k n (i:Int) s) (shtAt k s.1) (fun n i hi=>by
  have e3:iadd .i64 (i:Int) 1=((i+1:Nat):Int):=iadd_nat (by omega)
  obtain ⟨c,hc⟩:=sht_step k s.1[i] hk hk2
  simp only [z0Z.l4_eq,ilt_nat,inL_nat,natOf_nat,hi,decide_true,br_true,rd_at' (e:=tTxn) hi,hc,bnd_some,e3]
  cases c with
  | false=>exact .inr ⟨fun h=>(by have:=h hi;rw [hc] at this;cases this),rfl⟩
  | true=>exact .inl ⟨fun _=>hc,rfl⟩) _ _ rows (fun n=>by simp only [z0Z.l4_eq,ilt_nat,Nat.lt_irrefl,decide_false,br_false]) k 0 (by omega) (by omega)
 refine ⟨b,hb,fun h=>?_⟩
 obtain ⟨q1,q2⟩:=hbi.1 h
 refine ⟨by omega,by omega,by omega,by omega,shtAt_all hk hk2 q1,fun l hl=>?_⟩
 obtain ⟨j,hj,rfl⟩:=List.mem_iff_getElem.1 hl
 exact q2 j (by omega) (by omega) hj
theorem goodS_is (k:Nat) (s:Ty.D tState) (fs:Fits tState s) (hk:5000<k) (hk2:k<1000000):∃ b,z15.f k s=some b∧(b=true→CanS s∧ShortS s∧RightS k s):=by
 have f1:s.2.2.1.1.length=16:=fs.2.2.1.1.1
 have f2:s.2.2.2.1.1.length=16:=fs.2.2.2.1.1.1
 have f3:s.2.2.2.2.length=8:=fs.2.2.2.2.1
 obtain ⟨b,hb,hbi⟩:=rshortS_is k s f3 (by omega) hk2
 rw [z15.f_eq,hb]
 simp only [bnd_some]
 cases b with
 | false=>exact ⟨false,rfl,fun h=>by cases h⟩
 | true =>
  have sh:=hbi rfl
  have:=sh.un
  obtain ⟨c,hc,hci⟩:=rrightS_is k s f1 f2 f3 sh.each (fun l hl=>by have:=sh.redo l hl;omega) (by omega) hk hk2
  simp only [br_true,hc,bnd_some]
  exact ⟨c,rfl,fun h=>⟨(hci.1 h).can sh.each (by omega) hk2,sh,hci.1 h⟩⟩
theorem ShortT.lenT {t:Txn} (h:ShortT t) {k:Nat} (hk:1000<k):LenT k t:=⟨by have:=h.len;omega,fun o ho=>⟨by have:=(h.ops o ho).path.1;omega,by have:=(h.ops o ho).seen;omega⟩⟩
structure ShortD (d:Dlt):Prop where
 tx:d.1.length≤20
 un:d.2.1.length≤100
 se:d.2.2.length≤100
 each:∀ t ∈ d.1,ShortT t
theorem ShortD.len {d:Dlt} (h:ShortD d):LenD 100 d:=⟨Nat.le_trans h.tx (by decide),h.un,h.se⟩
theorem rshortDl_is (k:Nat) (d:Dlt) (hk:1000<k) (hk2:k<1000000):∃ b,z0h.f k d=some b∧(b=true→ShortD d):=by
 rw [z0h.f_eq,show ilt 20 (ilen d.1)=decide (20<d.1.length) from ilt_lenR 20 _,show ilt 100 (ilen d.2.1)=decide (100<d.2.1.length) from ilt_lenR 100 _,show ilt 100 (ilen d.2.2)=decide (100<d.2.2.length) from ilt_lenR 100 _]
 simp only [br_dec]
 by_cases h1:20<d.1.length
 ·rw [if_pos h1];exact ⟨false,rfl,fun h=>by cases h⟩
 by_cases h2:100<d.2.1.length
 ·rw [if_neg h1,if_pos h2];exact ⟨false,rfl,fun h=>by cases h⟩
 by_cases h3:100<d.2.2.length
 ·rw [if_neg h1,if_neg h2,if_pos h3];exact ⟨false,rfl,fun h=>by cases h⟩
 rw [if_neg h1,if_neg h2,if_neg h3]
 obtain ⟨b,hb,hbi⟩:=loop_all' d.1.length (fun n i=>z0h.l4 k n (i:Int) d) (shtAt k d.1) (fun n i hi=>by
  have e3:iadd .i64 (i:Int) 1=((i+1:Nat):Int):=iadd_nat (by omega)
  obtain ⟨c,hc⟩:=sht_step k d.1[i] hk hk2
  simp only [z0h.l4_eq,ilt_nat,inL_nat,natOf_nat,hi,decide_true,br_true,rd_at' (e:=tTxn) hi,hc,bnd_some,e3]
  cases c with
  | false=>exact .inr ⟨fun h=>(by have:=h hi;rw [hc] at this;cases this),rfl⟩
  | true=>exact .inl ⟨fun _=>hc,rfl⟩) (fun n=>by simp only [z0h.l4_eq,ilt_nat,Nat.lt_irrefl,decide_false,br_false]) k 0 (by omega) (by omega)
 exact ⟨b,hb,fun h=>⟨by omega,by omega,by omega,shtAt_all hk hk2 (hbi.1 h)⟩⟩
structure RightDl (k:Nat) (d:Dlt):Prop where
 many:d.1.length≤1000
 ris:d.1.Pairwise (fun a b=>dotLt a.1 b.1=true)
 un:CanU d.2.1
 chk:∀ t ∈ d.1,z0z.f k t=some 0
 se:∀ x ∈ d.2.2,rightD x=true
theorem rrightDl_isG (k:Nat) (d:Dlt) (hsh:∀ t ∈ d.1,∃ e:Int,z0z.f k t=some e∧(e=0→rightD t.1=true)) (hul:d.2.1.length<k) (hsl:d.2.2.length<k) (hk:5000<k) (hk2:k<1000000):∃ b,z0i.f k d=some b∧(b=true ↔ RightDl k d):=by
 rw [z0i.f_eq,show ilt 1000 (ilen d.1)=decide (1000<d.1.length) from ilt_lenR 1000 d.1]
 by_cases hm:1000<d.1.length
 ·rw [decide_eq_true hm];exact ⟨false,rfl,⟨fun h=>(by cases h),fun h=>by have:=h.many;omega⟩⟩
 rw [decide_eq_false hm]
 obtain ⟨b1,g1,i1⟩:=rrises_is k d.1 (by omega) hk2
 obtain ⟨b2,g2,i2⟩:=rrightU_is k d.2.1 hul hk2
 rw [g1]
 simp only [br_false,bnd_some]
 cases b1 with
 | false=>exact ⟨false,rfl,⟨fun h=>(by cases h),fun h=>i1.2 h.ris⟩⟩
 | true =>
 have bt:bnot true=false:=rfl
 rw [bt,g2]
 simp only [br_false,bnd_some]
 cases b2 with
 | false=>exact ⟨false,rfl,⟨fun h=>(by cases h),fun h=>i2.2 h.un⟩⟩
 | true =>
 rw [bt]
 simp only [br_false]
 have seals:∃ b,z0i.l9 k k 0 d=some b∧(b=true ↔ ∀ j,0≤j→j<d.2.2.length→rdAt d.2.2 j):=by
  refine loop_all' d.2.2.length (fun n i=>z0i.l9 k n (i:Int) d) (rdAt d.2.2) (fun n i hi=>?_) (fun n=>?_) k 0 (by omega) (by omega)
  ·have e3:iadd .i64 (i:Int) 1=((i+1:Nat):Int):=iadd_nat (by omega)
   simp only [z0i.l9_eq,ilt_nat,inL_nat,natOf_nat,hi,decide_true,br_true,rd_at' (e:=tDot) hi,rright_is,bnd_some,e3]
   cases hd:rightD d.2.2[i] with
   | false=>exact .inr ⟨fun h=>(by have:=h hi;rw [hd] at this;cases this),rfl⟩
   | true=>exact .inl ⟨fun _=>hd,rfl⟩
  ·simp only [z0i.l9_eq,ilt_nat,Nat.lt_irrefl,decide_false,br_false]
 obtain ⟨b,hb,hbi⟩:=loop_all d.1.length (fun n i=>z0i.l4 k n (i:Int) d) (chkAt k d.1) (fun n i hi=>by
  have e3:iadd .i64 (i:Int) 1=((i+1:Nat):Int):=iadd_nat (by omega)
  obtain ⟨e,he,_⟩:=hsh _ (List.getElem_mem hi)
  simp only [z0i.l4_eq,ilt_nat,inL_nat,natOf_nat,hi,decide_true,br_true,rd_at' (e:=tTxn) hi,he,bnd_some,e3,ieq_dec,bnot_dec,br_dec]
  by_cases hz:e=0
  ·exact .inl ⟨fun _=>by rw [he,hz],if_neg (by simpa using hz)⟩
  ·exact .inr ⟨fun h=>by rw [h hi] at he;injection he with he;exact hz he.symm,if_pos hz⟩) _ _ seals (fun n=>by simp only [z0i.l4_eq,ilt_nat,Nat.lt_irrefl,decide_false,br_false]) k 0 (by omega) (by omega)
 refine ⟨b,hb,hbi.trans ⟨fun ⟨h1,h2⟩=>⟨by omega,i1.1 rfl,i2.1 rfl,fun t ht=>?_,rdAt_all.1 h2⟩,fun h=>⟨fun j _ hj _=>h.chk _ (List.getElem_mem hj),rdAt_all.2 h.se⟩⟩⟩
 obtain ⟨j,hj,rfl⟩:=List.mem_iff_getElem.1 ht
 exact h1 j (by omega) hj hj
theorem RightDl.can {k:Nat} {d:Dlt} (h:RightDl k d) (hsh:∀ t ∈ d.1,ShortT t) (hk:1000<k) (hk2:k<1000000):CanDl d :=
 ⟨⟨fun t ht=>by
  obtain ⟨e,he,hei⟩:=rtxn_is k t (hsh t ht) hk hk2
  rw [h.chk t ht] at he;injection he with he;exact hei he.symm,h.ris⟩,h.un,h.se⟩
end Go.Proofs.YtggcagclpkhlhaaGreatDoor
end
noncomputable section
/- States with more of each: they may be, and the order does not matter. -/
namespace Go.Proofs.YtggcagclpkhlhaaGreatDoor
open Pal
theorem puts_memG:∀ (l:List Dot) (s:DSet),Can s→Can (l.foldl putD s)∧(∀ x,Mem (l.foldl putD s) x ↔ Mem s x∨(rightD x=true∧x ∈ l))∧(l.foldl putD s).2.length≤s.2.length+l.length
 | [],s,h=>⟨h,fun x=>by simp,by simp⟩
 | d::l,s,h=>by
  obtain ⟨a,b,c⟩:=putD_can h d
  obtain ⟨p,q,r⟩:=puts_memG l _ a
  refine ⟨p,fun x=>?_,by simp only [List.foldl_cons,List.length_cons];omega⟩
  show Mem (l.foldl putD (putD s d)) x ↔ _
  rw [q,b]
  constructor
  ·rintro ((h1 | ⟨h1,rfl⟩) | ⟨h1,h2⟩)
   ·exact .inl h1
   ·exact .inr ⟨h1,by simp⟩
   ·exact .inr ⟨h1,List.mem_cons_of_mem _ h2⟩
  ·rintro (h1 | ⟨h1,h2⟩)
   ·exact .inl (.inl h1)
   ·rcases List.mem_cons.1 h2 with rfl | h2
    ·exact .inl (.inr ⟨h1,rfl⟩)
    ·exact .inr ⟨h1,h2⟩
theorem puts_union {s:DSet} (hs:Can s) (l:List Dot):l.foldl putD s=unionD s (ofD l):=by
 obtain ⟨p,q,_⟩:=puts_memG l s hs
 obtain ⟨u,v,_⟩:=unionD_can hs (ofD_can l).1
 exact can_unique p u fun x=>by rw [q,v,(ofD_can l).2.1]
theorem putS_mem {s:Sta} {t:Txn} (hs:CanS s) (ht:rightD t.1=true):∀ x ∈ (putS s t).1,x ∈ s.1∨x=t:=by
 intro x hx
 obtain ⟨a1,a2,_⟩:=putS_all hs ht
 have h:=findT_mem a1.tx hx
 rw [a2] at h
 cases hf:findT s.1 x.1 with
 | some y =>
  rw [hf] at h
  have h:some y=some x:=h
  injection h with h;subst h
  exact .inl (findT_some hf).1
 | none =>
  rw [hf] at h
  have h:(if x.1=t.1 then some t else none)=some x:=h
  by_cases e:x.1=t.1
  ·rw [if_pos e] at h;injection h with h;exact .inr h.symm
  ·rw [if_neg e] at h;cases h
theorem right_of {k:Nat} {s:Sta} (hs:CanS s) (h1:s.1.length≤1000) (h2:s.2.2.2.1.2.length≤4096) (h3:s.2.2.1.2.length≤4096) (hc:∀ t ∈ s.1,z0z.f k t=some 0) (hr:∀ l ∈ s.2.2.2.2,l.length≤1000∧∀ d ∈ l,rightD d=true):RightS k s :=
 ⟨h1,hs.tx.srt,hs.un,⟨hs.se,h2⟩,hc,hr,⟨hs.kn,h3⟩,by
  obtain ⟨p,q,_⟩:=known_mem hs.tx.rt
  exact can_unique hs.kn p fun x=>by rw [hs.know,q]⟩
theorem right_put {k:Nat} {s:Sta} {t:Txn} {n:Nat} (hs:CanS s) (ls:LenS n s) (hn:n<1000) (hr:RightS k s) (ht:rightD t.1=true) (hc:z0z.f k t=some 0):RightS k (putS s t):=by
 obtain ⟨a1,a2,a3,a4,a5,a6⟩:=putS_all hs ht
 have l1:=ls.tx;have l2:=ls.kn;have l3:=ls.se
 refine right_of a1 (by omega) (by rw [a4];omega) (by omega) (fun x hx=>?_) (by rw [a4];exact hr.redo)
 rcases putS_mem hs ht x hx with h | rfl
 ·exact hr.chk x h
 ·exact hc
theorem right_raise {k:Nat} {s:Sta} {u:List (Dot × Int)} {n:Nat} (hs:CanS s) (ls:LenS n s) (hn:n<1000) (hr:RightS k s) (hu:CanU u):RightS k (raiseS s u):=by
 have l1:=ls.tx;have l2:=ls.kn;have l3:=ls.se
 exact right_of (raiseS_can hs hu) (by show s.1.length≤1000;omega) (by show s.2.2.2.1.2.length≤4096;omega) (by show s.2.2.1.2.length≤4096;omega) hr.chk hr.redo
theorem right_seal {k:Nat} {s:Sta} {l:List Dot} {n:Nat} (hs:CanS s) (ls:LenS n s) (hn:n<1000) (hr:RightS k s) (hl:l.length≤1000):RightS k (sealS s l):=by
 have l1:=ls.tx;have l2:=ls.kn;have l3:=ls.se
 refine right_of (sealS_can hs) (by show s.1.length≤1000;omega) ?_ (by show s.2.2.1.2.length≤4096;omega) hr.chk hr.redo
 show (unionD s.2.2.2.1 (ofD l)).2.length≤4096
 have:=(unionD_can hs.se (ofD_can l).1).2.2
 have:=(ofD_can l).2.2
 omega
theorem putS_len {s:Sta} {t:Txn} {n:Nat} (hs:CanS s) (ls:LenS n s) (ht:rightD t.1=true):LenS (n+1) (putS s t):=by
 obtain ⟨a1,a2,a3,a4,a5,a6⟩:=putS_all hs ht
 have l1:=ls.tx;have l2:=ls.kn;have l3:=ls.se;have l4:=ls.un
 exact ⟨by omega,by rw [a3];omega,by omega,by rw [a4];omega,fun l hl=>by rw [a4] at hl;have:=ls.re l hl;omega⟩
theorem raiseS_len {s:Sta} {u:List (Dot × Int)} {n m:Nat} (hs:CanS s) (ls:LenS n s) (hu:CanU u) (hm:u.length≤m):LenS (n+m) (raiseS s u):=by
 have l1:=ls.tx;have l2:=ls.kn;have l3:=ls.se;have l4:=ls.un
 refine ⟨by show s.1.length≤_;omega,?_,by show s.2.2.1.2.length≤_;omega,by show s.2.2.2.1.2.length≤_;omega,fun l hl=>by have:=ls.re l hl;omega⟩
 show (joinU s.2.1 u).length≤_
 have:=joinU_len hs.un hu;omega
theorem sealS_len {s:Sta} {l:List Dot} {n m:Nat} (hs:CanS s) (ls:LenS n s) (hm:l.length≤m):LenS (n+m) (sealS s l):=by
 have l1:=ls.tx;have l2:=ls.kn;have l3:=ls.se;have l4:=ls.un
 refine ⟨by show s.1.length≤_;omega,by show s.2.1.length≤_;omega,by show s.2.2.1.2.length≤_;omega,?_,fun l hl=>by have:=ls.re l hl;omega⟩
 show (unionD s.2.2.2.1 (ofD l)).2.length≤_
 have:=(unionD_can hs.se (ofD_can l).1).2.2
 have:=(ofD_can l).2.2
 omega
end Go.Proofs.YtggcagclpkhlhaaGreatDoor
end
noncomputable section
/- What is known: joined, the same, within. -/
namespace Go.Proofs.YtggcagclpkhlhaaGreatDoor
open Pal
end Go.Proofs.YtggcagclpkhlhaaGreatDoor
end
noncomputable section
/- Counts that may be: the program's test. -/
namespace Go.Proofs.YtggcagclpkhlhaaGreatDoor
open Pal
theorem trightU2_is (k:Nat) (l:List Undo) (h3:3≤k) (hl:l.length<k) (hk:k<1000000):∃ b,z0O.f k l=some b∧(b=true ↔ CanU l):=by
 obtain ⟨b,hb,hbi⟩:=loop_all' l.length (fun n i=>z0O.l2 k n l l (ilen l) (i:Int)) (okU l) (fun n i hi=>by
  have e4:iadd .i64 (i:Int) 1=((i+1:Nat):Int):=iadd_nat (by omega)
  simp only [z0O.l2_eq,ilt_nat,inL_nat,natOf_nat,hi,decide_true,br_true,rd_at' (e:=tUndo) hi,right_is,bnd_some,e4]
  have key:∀ hr:rightU l[i]=false,¬ okU l i:=fun hr h=>by have:=(h hi).1;rw [hr] at this;cases this
  have bt:bnot true=false:=rfl
  have bf:bnot false=true:=rfl
  cases hd:rightD l[i].1 with
  | false=>exact .inr ⟨key (by unfold rightU;rw [hd];rfl),by rw [bf];rfl⟩
  | true =>
   rw [bt]
   simp only [br_false,ilt_dec,br_dec]
   by_cases h1:l[i].2<1
   ·exact .inr ⟨key (by unfold rightU;rw [hd,decide_eq_false (by omega)];rfl),if_pos h1⟩
   ·rw [if_neg h1]
    by_cases h2:64<l[i].2
    ·exact .inr ⟨key (by unfold rightU;rw [hd,decide_eq_false (by omega)];rfl),if_pos h2⟩
    ·rw [if_neg h2]
     have hu:rightU l[i]=true:=by unfold rightU;rw [hd,decide_eq_true (by omega)];rfl
     by_cases h0:0<i
     ·have hi1:i - 1<l.length:=by omega
      have e3:isub .i64 (i:Int) 1=((i - 1:Nat):Int):=by rw [isub_s (by omega) (by omega) (by omega) (by omega)];omega
      have e5:(0:Int)<(i:Int):=by omega
      rw [if_pos e5,e3,inL_nat,natOf_nat,rd_at' (e:=tUndo) hi1,tcmp_is k _ _ h3]
      simp only [hi1,decide_true,br_true,bnd_some,ile_dec,br_dec]
      have hcc:cmpD l[i - 1].1 l[i].1<0 ↔ dotLt l[i - 1].1 l[i].1=true:=by rw [← cmp_lt0];exact decide_eq_true_iff.symm
      by_cases hc:0≤cmpD l[i - 1].1 l[i].1
      ·exact .inr ⟨fun h=>by have:=hcc.2 ((h hi).2 h0);omega,if_pos hc⟩
      ·exact .inl ⟨fun _=>⟨hu,fun _=>hcc.1 (by omega)⟩,if_neg hc⟩
     ·have e5:¬ (0:Int)<(i:Int):=by omega
      exact .inl ⟨fun _=>⟨hu,fun h=>absurd h h0⟩,if_neg e5⟩) (fun n=>by
  simp only [z0O.l2_eq,ilt_nat,Nat.lt_irrefl,decide_false,br_false]) k 0 (by omega) (by omega)
 rw [z0O.f_eq]
 refine ⟨b,hb,hbi.trans ?_⟩
 rw [canU_iff]
 exact ⟨fun h j hj=>h j (by omega) hj hj,fun h j _ _ hj=>h j hj⟩
end Go.Proofs.YtggcagclpkhlhaaGreatDoor
end
noncomputable section
/- Whether a state may be: the program's word is the document's. -/
namespace Go.Proofs.YtggcagclpkhlhaaGreatDoor
open Pal
def risB (l:List Txn) (j:Nat):Prop:=∀ h:j<l.length,∀ h0:0<j,dotLt (l[j - 1]'(by omega)).1 l[j].1=true
theorem risB_iff {l:List Txn}:l.Pairwise (fun a b=>dotLt a.1 b.1=true) ↔ ∀ j,0≤j→j<l.length→risB l j:=by
 rw [ris_iff]
 constructor
 ·intro h j _ hj hj' h0
  have:=h (j - 1) (by omega) (by omega) (by omega)
  have e:j - 1+1=j:=by omega
  simpa only [e] using this
 ·intro h j _ hj hj'
  have:=h (j+1) (by omega) (by omega) hj' (by omega)
  simpa using this
theorem trises_is (k:Nat) (l:List Txn) (h3:3≤k) (hl:l.length<k) (hk:k<1000000):∃ b,z2f.f k l=some b∧(b=true ↔ l.Pairwise (fun a b=>dotLt a.1 b.1=true)):=by
 rw [z2f.f_eq]
 obtain ⟨b,hb,hbi⟩:=loop_all' l.length (fun n i=>z2f.l2 k n l l (ilen l) (i:Int)) (risB l) (fun n i hi=>by
  have e4:iadd .i64 (i:Int) 1=((i+1:Nat):Int):=iadd_nat (by omega)
  simp only [z2f.l2_eq,ilt_nat,inL_nat,natOf_nat,hi,decide_true,br_true,rd_at' (e:=tTxn) hi,e4]
  rw [show ilt 0 (i:Int)=decide (0<i) from ilt_nn 0 i]
  by_cases h0:0<i
  ·have hi1:i - 1<l.length:=by omega
   have e3:isub .i64 (i:Int) 1=((i - 1:Nat):Int):=by rw [isub_s (by omega) (by omega) (by omega) (by omega)];omega
   obtain ⟨q,rfl⟩:∃ q,k=q+3:=⟨k - 3,by omega⟩
   rw [decide_eq_true h0,br_true,e3,inL_nat,natOf_nat,rd_at' (e:=tTxn) hi1,decide_eq_true hi1,br_true,cmpD_is,bnd_some,show ile 0 (cmpD l[i - 1].1 l[i].1)=decide (0≤cmpD l[i - 1].1 l[i].1) from rfl]
   have hcc:cmpD l[i - 1].1 l[i].1<0 ↔ dotLt l[i - 1].1 l[i].1=true:=by rw [← cmp_lt0];exact decide_eq_true_iff.symm
   by_cases hc:0≤cmpD l[i - 1].1 l[i].1
   ·exact .inr ⟨fun h=>by have:=hcc.2 (h hi h0);omega,by rw [decide_eq_true hc,br_true]⟩
   ·exact .inl ⟨fun _ _=>hcc.1 (by omega),by rw [decide_eq_false hc,br_false]⟩
  ·exact .inl ⟨fun _ h=>absurd h h0,by rw [decide_eq_false h0,br_false]⟩) (fun n=>by
  simp only [z2f.l2_eq,ilt_nat,Nat.lt_irrefl,decide_false,br_false]) k 0 (by omega) (by omega)
 exact ⟨b,hb,hbi.trans risB_iff.symm⟩
theorem names_l (k:Nat) (l:List Txn) (hl:l.length<1000000):∀ (n i:Nat) (x:List Dot),i≤l.length→l.length<n+i→x.length=i→z0E.l3 k n x l (ilen l) (i:Int)=some (x++dotsOf (l.drop i))
 | 0,i,_,h,h',_=>by omega
 | n+1,i,x,h,h',hx=>by
  rw [z0E.l3_eq,ilt_nat,inL_nat,natOf_nat]
  by_cases hi:i<l.length
  ·rw [decide_eq_true hi,br_true,br_true,rd_at' (e:=tTxn) hi,room1 (by omega),br_true,iadd_nat (by omega),names_l k l hl n (i+1) _ (by omega) (by omega) (by simp [app,hx])]
   unfold app dotsOf
   rw [List.drop_eq_getElem_cons hi,List.map_cons,List.append_assoc];rfl
  ·rw [decide_eq_false hi,br_false,List.drop_eq_nil_of_le (by omega)];simp [dotsOf]
theorem names_is (k:Nat) (l:List Txn) (hl:l.length<k) (hk:k<1000000):z0E.f k l=some (dotsOf l):=by
 rw [z0E.f_eq]
 have h:=names_l k l (by omega) k 0 [] (by omega) (by omega) rfl
 rw [show ((0:Nat):Int)=0 from rfl,List.drop_zero,List.nil_append] at h
 exact h
theorem chks_l (k:Nat) (l:List Txn) (ho:∀ t ∈ l,t.2.2.2.2.length<k∧∀ o ∈ t.2.2.2.2,SizO k o) (hl:l.length<1000000) (hk:10<k) (hk2:k<1000000):∀ (n i:Nat),i≤l.length→l.length<n+i →
  ∃ r:Int,z0a.l2 k n l (ilen l) (i:Int)=some r∧(0≤r ↔ ¬ ∀ t ∈ l.drop i,z0z.f k t=some 0)
 | 0,i,_,h=>by omega
 | n+1,i,h,h'=>by
  rw [z0a.l2_eq,ilt_nat,inL_nat,natOf_nat]
  by_cases hi:i<l.length
  ·obtain ⟨o1,o2⟩:=ho _ (List.getElem_mem hi)
   obtain ⟨e,g1,g2⟩:=txn_is k l[i] o2 o1 hk hk2
   rw [decide_eq_true hi,br_true,br_true,rd_at' (e:=tTxn) hi,z0n.f_eq,g1,bnd_some,bnd_some,iadd_nat (by omega),ieq_dec,bnot_dec,List.drop_eq_getElem_cons hi]
   by_cases h0:e=0
   ·subst h0
    rw [decide_eq_false (by simp),br_false]
    obtain ⟨r,q1,q2⟩:=chks_l k l ho hl hk hk2 n (i+1) (by omega) (by omega)
    refine ⟨r,q1,q2.trans (not_congr ⟨fun h t ht=>?_,fun h t ht=>h t (List.mem_cons_of_mem _ ht)⟩)⟩
    rcases List.mem_cons.1 ht with rfl | ht
    ·exact g2
    ·exact h t ht
   ·rw [decide_eq_true h0,br_true]
    refine ⟨(i:Int),rfl,⟨fun _ h=>h0 ?_,fun _=>by omega⟩⟩
    have:=h l[i] List.mem_cons_self
    rw [g2] at this;injection this
  ·rw [decide_eq_false hi,br_false,List.drop_eq_nil_of_le (by omega)]
   exact ⟨-1,rfl,⟨fun h=>by omega,fun h=>absurd (fun t ht=>by simp at ht) h⟩⟩
theorem rds_l (k:Nat) (l:List Dot) (hl:l.length<1000000):∀ (n i:Nat),i≤l.length→l.length<n+i →
  ∃ r:Int,z0b.l2 k n l (ilen l) (i:Int)=some r∧(0≤r ↔ ¬ ∀ d ∈ l.drop i,rightD d=true)
 | 0,i,_,h=>by omega
 | n+1,i,h,h'=>by
  rw [z0b.l2_eq,ilt_nat,inL_nat,natOf_nat]
  by_cases hi:i<l.length
  ·rw [decide_eq_true hi,br_true,br_true,rd_at' (e:=tDot) hi,z0r.f_eq,right_is,bnd_some,bnd_some,iadd_nat (by omega),List.drop_eq_getElem_cons hi]
   cases hr:rightD l[i] with
   | true =>
    obtain ⟨r,q1,q2⟩:=rds_l k l hl n (i+1) (by omega) (by omega)
    refine ⟨r,q1,q2.trans (not_congr ⟨fun h t ht=>?_,fun h t ht=>h t (List.mem_cons_of_mem _ ht)⟩)⟩
    rcases List.mem_cons.1 ht with rfl | ht
    ·exact hr
    ·exact h t ht
   | false =>
    refine ⟨(i:Int),rfl,⟨fun _ h=>?_,fun _=>by omega⟩⟩
    have:=h l[i] List.mem_cons_self
    rw [hr] at this;cases this
  ·rw [decide_eq_false hi,br_false,List.drop_eq_nil_of_le (by omega)]
   exact ⟨-1,rfl,⟨fun h=>by omega,fun h=>absurd (fun t ht=>by simp at ht) h⟩⟩
theorem known_ofD (l:List Dot):l.foldl putD emptyD=ofD l:=by
 obtain ⟨p,q,_⟩:=puts_memG l emptyD empty_can
 refine can_unique p (ofD_can l).1 fun x=>?_
 rw [q,(ofD_can l).2.1]
 constructor
 ·rintro (h | h)
  ·exact absurd h (empty_mem x)
  ·exact h
 ·exact .inr
def redoOK (l:List Dot):Prop:=l.length≤1000∧∀ d ∈ l,rightD d=true
theorem right_l6 (k:Nat) (s:Sta) (h8:s.2.2.2.2.length=8) (hl:∀ l ∈ s.2.2.2.2,l.length<k) (b1 b2:Bool) (g1:z1m.f k s.2.2.1=some b1) (g2:z1m.f k s.2.2.2.1=some b2) (hk2:k<1000000):∀ (n i:Nat),i≤8→8<n+i →
  ∃ b,z0K.l6 k n s.2.2.2.2 (i:Int) s=some b∧(b=true ↔ (∀ l ∈ s.2.2.2.2.drop i,redoOK l)∧b1=true∧b2=true)
 | 0,i,_,h=>by omega
 | n+1,i,h,h'=>by
  rw [z0K.l6_eq,show ilt (i:Int) 8=decide (i<8) from ilt_nn i 8,inB_nat,natOf_nat]
  by_cases hi:i<8
  ·have hi':i<s.2.2.2.2.length:=by omega
   have hm:=List.getElem_mem hi'
   rw [decide_eq_true hi,br_true,br_true,rd_at' (e:=.slc tDot) hi',show ilt 1000 (ilen s.2.2.2.2[i])=decide (1000<s.2.2.2.2[i].length) from ilt_lenR 1000 _,List.drop_eq_getElem_cons hi',iadd_nat (by omega)]
   by_cases hb:1000<s.2.2.2.2[i].length
   ·rw [decide_eq_true hb,br_true]
    exact ⟨false,rfl,⟨fun h=>(by cases h),fun h=>by have:=(h.1 _ (List.mem_cons_self)).1;omega⟩⟩
   ·obtain ⟨r,q1,q2⟩:=rds_l k s.2.2.2.2[i] (by have:=hl _ hm;omega) k 0 (by omega) (by have:=hl _ hm;omega)
    rw [show ((0:Nat):Int)=0 from rfl] at q1
    rw [List.drop_zero] at q2
    rw [decide_eq_false hb,br_false,z05.f_eq,z0b.f_eq,q1,bnd_some,bnd_some,show ile 0 r=decide (0≤r) from rfl]
    by_cases hr:0≤r
    ·rw [decide_eq_true hr,br_true]
     exact ⟨false,rfl,⟨fun h=>(by cases h),fun h=>absurd (h.1 _ (List.mem_cons_self)).2 (q2.1 hr)⟩⟩
    ·rw [decide_eq_false hr,br_false]
     obtain ⟨b,z1,z2⟩:=right_l6 k s h8 hl b1 b2 g1 g2 hk2 n (i+1) (by omega) (by omega)
     have hall:∀ d ∈ s.2.2.2.2[i],rightD d=true:=Classical.byContradiction fun h=>hr (q2.2 h)
     refine ⟨b,z1,z2.trans ⟨fun h=>⟨fun l hl=>?_,h.2⟩,fun h=>⟨fun l hl=>h.1 l (List.mem_cons_of_mem _ hl),h.2⟩⟩⟩
     rcases List.mem_cons.1 hl with rfl | hl
     ·exact ⟨by omega,hall⟩
     ·exact h.1 l hl
  ·rw [decide_eq_false hi,br_false,g1,g2,bnd_some,bnd_some,List.drop_eq_nil_of_le (by omega)]
   cases b1 <;> cases b2 <;> exact ⟨_,rfl,by simp⟩
theorem state_is (k:Nat) (s:Sta) (hv1:s.2.2.1.1.length=16) (hv2:s.2.2.2.1.1.length=16) (h8:s.2.2.2.2.length=8) (ho:∀ t ∈ s.1,t.2.2.2.2.length<k∧∀ o ∈ t.2.2.2.2,SizO k o) (hrl:∀ l ∈ s.2.2.2.2,l.length<k) (hul:s.2.1.length<k) (hkl:s.2.2.1.2.length<k) (hk:5000<k) (hk2:k<1000000) :
  ∃ b,z0K.f k s=some b∧(b=true ↔ RightS k s):=by
 rw [z0K.f_eq,show ilt 1000 (ilen s.1)=decide (1000<s.1.length) from ilt_lenR 1000 s.1]
 by_cases hm:1000<s.1.length
 ·rw [decide_eq_true hm];exact ⟨false,rfl,⟨fun h=>(by cases h),fun h=>by have:=h.many;omega⟩⟩
 rw [decide_eq_false hm,br_false]
 obtain ⟨b1,g1,i1⟩:=trises_is k s.1 (by omega) (by omega) hk2
 obtain ⟨b2,g2,i2⟩:=trightU2_is k s.2.1 (by omega) hul hk2
 obtain ⟨r,g3,i3⟩:=chks_l k s.1 ho (by omega) (by omega) hk2 k 0 (by omega) (by omega)
 obtain ⟨b4,g4,i4⟩:=dr_is k s.2.2.1 hv1 hk hk2
 obtain ⟨b5,g5,i5⟩:=dr_is k s.2.2.2.1 hv2 hk hk2
 obtain ⟨b6,g6,i6⟩:=right_l6 k s h8 hrl b4 b5 g4 g5 hk2 k 0 (by omega) (by omega)
 rw [show ((0:Nat):Int)=0 from rfl] at g3 g6
 rw [List.drop_zero] at i3 i6
 have bt:bnot true=false:=rfl
 have bf:bnot false=true:=rfl
 rw [g1,bnd_some]
 cases b1 with
 | false=>rw [bf,br_true];exact ⟨false,rfl,⟨fun h=>(by cases h),fun h=>i1.2 h.ris⟩⟩
 | true =>
 rw [bt,br_false,g2,bnd_some]
 cases b2 with
 | false=>rw [bf,br_true];exact ⟨false,rfl,⟨fun h=>(by cases h),fun h=>i2.2 h.un⟩⟩
 | true =>
 rw [bt,br_false,names_is k s.1 (by omega) hk2,bnd_some,of_is k _ (by unfold dotsOf;rw [List.length_map];omega) hk2,bnd_some,same_is k _ _ hkl hk2,bnd_some,← known_ofD]
 by_cases hkn:s.2.2.1=(dotsOf s.1).foldl putD emptyD
 case neg=>rw [decide_eq_false hkn,bf,br_true];exact ⟨false,rfl,⟨fun h=>(by cases h),fun h=>absurd h.know hkn⟩⟩
 rw [decide_eq_true hkn,bt,br_false,z06.f_eq,z0a.f_eq,g3,bnd_some,bnd_some,show ile 0 r=decide (0≤r) from rfl]
 by_cases hr:0≤r
 ·rw [decide_eq_true hr,br_true];exact ⟨false,rfl,⟨fun h=>(by cases h),fun h=>absurd h.chk (i3.1 hr)⟩⟩
 ·have hc:∀ t ∈ s.1,z0z.f k t=some 0:=Classical.byContradiction fun h=>hr (i3.2 h)
  rw [decide_eq_false hr,br_false]
  refine ⟨b6,g6,i6.trans ⟨fun h=>⟨by omega,i1.1 rfl,i2.1 rfl,i5.1 h.2.2,hc,h.1,i4.1 h.2.1,hkn⟩,fun h=>⟨h.redo,i4.2 h.kn,i5.2 h.se⟩⟩⟩
end Go.Proofs.YtggcagclpkhlhaaGreatDoor
end
noncomputable section
/- What is told as bytes is read again: numbers. -/
namespace Go.Proofs.YtggcagclpkhlhaaGreatDoor
open Pal
end Go.Proofs.YtggcagclpkhlhaaGreatDoor
end
noncomputable section
/- What is told as bytes is read again: dots, vectors, rows of dots and sets. -/
namespace Go.Proofs.YtggcagclpkhlhaaGreatDoor
open Pal
def codeD (d:Dot):List UInt8:=packB d.1.toNat++packB d.2.toNat
def codeV (v:Vec):List UInt8:=List.flatMap (fun n:Int=>packB n.toNat) v
def codeL (l:List Dot):List UInt8:=packB l.length++l.flatMap codeD
def codeS (s:DSet):List UInt8:=codeV s.1++codeL s.2
theorem rightD_rng {d:Dot} (h:rightD d=true):0≤d.1∧d.1<16∧1≤d.2∧d.2≤1048576:=of_decide_eq_true h
end Go.Proofs.YtggcagclpkhlhaaGreatDoor
end
noncomputable section
/- Knowledge: the program and the document read the same, and what is told is read again. -/
namespace Go.Proofs.YtggcagclpkhlhaaGreatDoor
open Pal
def codeU (u:Undo):List UInt8:=codeD u.1++packB u.2.toNat
def codeT (l:List Undo):List UInt8:=packB l.length++l.flatMap codeU
theorem roomS_ok {a b:List UInt8} (h1:a.length≤4000000000) (h2:b.length≤4000000000):roomS a b=true:=decide_eq_true (by omega)
theorem packB_le {n:Nat} (h:n<72057594037927936):(packB n).length≤8:=packB_len 7 n h
theorem codeD_le {d:Dot} (h:rightD d=true):(codeD d).length≤16:=by
 obtain ⟨h1,h2,h3,h4⟩:=rightD_rng h
 have:=packB_le (n:=d.1.toNat) (by omega)
 have:=packB_le (n:=d.2.toNat) (by omega)
 unfold codeD;rw [List.length_append];omega
theorem codeU_le {u:Undo} (h:rightU u=true):(codeU u).length≤24:=by
 obtain ⟨h1,h2,h3⟩:=(rightU_iff u).1 h
 have:=codeD_le h1
 have:=packB_le (n:=u.2.toNat) (by omega)
 unfold codeU;rw [List.length_append];omega
theorem codes_le {α:Type} (f:α→List UInt8) (c:Nat):∀ (l:List α),(∀ x ∈ l,(f x).length≤c)→(l.flatMap f).length≤c * l.length
 | [],_=>by simp
 | x::l,h=>by
  have h1:=h x (by simp)
  have h2:=codes_le f c l (fun y hy=>h y (List.mem_cons_of_mem _ hy))
  rw [List.flatMap_cons,List.length_append,List.length_cons,Nat.mul_add,Nat.mul_one];omega
theorem dcode_is (k:Nat) {d:Dot} (h:rightD d=true):z2j.f k d=some (codeD d):=by
 obtain ⟨h1,h2,h3,h4⟩:=rightD_rng h
 have p1:=packB_le (n:=d.1.toNat) (by omega)
 have p2:=packB_le (n:=d.2.toNat) (by omega)
 rw [z2j.f_eq,packI_is (n:=d.1) (by omega),packI_is (n:=d.2) (by omega)]
 simp only [bnd_some]
 rw [roomS_ok (by omega) (by omega)];rfl
theorem vcode_l (k:Nat) (v:Vec) (hv:VOk v):∀ (n i:Nat) (x:List UInt8),i≤16→16<n+i→x.length≤100+8 * i→z2p.l3 k n x v (i:Int)=some (x++List.flatMap (fun n:Int=>packB n.toNat) (List.drop i v))
 | 0,i,_,h,h',_=>by omega
 | n+1,i,x,h,h',hx=>by
  have hvl:=hv.len
  rw [z2p.l3_eq,show ilt (i:Int) 16=decide (i<16) from ilt_nn i 16,inB_nat,natOf_nat]
  by_cases hi:i<16
  ·have hil:i<List.length v:=by omega
   have e:rd (.int .i64) v i=v[i]:=rd_at' (e:=.int .i64) hil
   have hge:0≤v[i]∧v[i]≤1048576:=by
    have h1:=hv.lo (i:Int) (by omega) (by omega)
    have h2:=hv.hi (i:Int) (by omega) (by omega)
    rw [vat_get hil] at h1 h2;exact ⟨h1,h2⟩
   have e4:iadd .i64 (i:Int) 1=((i+1:Nat):Int):=iadd_nat (by omega)
   have hp:(packB v[i].toNat).length≤8:=packB_le (by omega)
   have ed:List.drop i v=v[i]::List.drop (i+1) v:=List.drop_eq_getElem_cons hil
   rw [decide_eq_true hi,e,packI_is (n:=v[i]) (by omega),e4,ed,List.flatMap_cons]
   simp only [br_true,bnd_some]
   rw [roomS_ok (by omega) (by omega),br_true]
   refine (vcode_l k v hv n (i+1) _ (by omega) (by omega) (by unfold app;rw [List.length_append];omega)).trans ?_
   unfold app;rw [List.append_assoc]
  ·have e0:List.drop i v=[]:=List.drop_eq_nil_of_le (by omega)
   rw [decide_eq_false hi,br_false,e0];simp
theorem vcode_is (k:Nat) {v:Vec} (hv:VOk v) (hk:17<k):z2p.f k v=some (codeV v):=by
 rw [z2p.f_eq]
 exact vcode_l k v hv k 0 [] (by omega) (by omega) (by simp)
theorem codeV_le {v:Vec} (hv:VOk v):(codeV v).length≤128:=by
 have hvl:=hv.len
 have:=codes_le (fun n:Int=>packB n.toNat) 8 v (fun x hx=>by
  obtain ⟨i,hi,rfl⟩:=List.getElem_of_mem hx
  have h1:=hv.lo (i:Int) (by omega) (by omega)
  have h2:=hv.hi (i:Int) (by omega) (by omega)
  rw [vat_get hi] at h1 h2
  exact packB_le (by omega))
 unfold codeV;omega
theorem lcode_l (k:Nat) (l:List Dot) (hr:∀ d ∈ l,rightD d=true) (hl:l.length<1000000):∀ (n i:Nat) (x:List UInt8),i≤l.length→l.length<n+i→x.length≤100+16 * i→z2d.l3 k n x l (ilen l) (i:Int)=some (x++(l.drop i).flatMap codeD)
 | 0,i,_,h,h',_=>by omega
 | n+1,i,x,h,h',hx=>by
  rw [z2d.l3_eq,ilt_nat,inL_nat,natOf_nat]
  by_cases hi:i<l.length
  ·have hd:=hr l[i] (List.getElem_mem hi)
   have hp:=codeD_le hd
   have e4:iadd .i64 (i:Int) 1=((i+1:Nat):Int):=iadd_nat (by omega)
   have ed:l.drop i=l[i]::l.drop (i+1):=List.drop_eq_getElem_cons hi
   rw [decide_eq_true hi,rd_at' (e:=tDot) hi,dcode_is k hd,e4,ed,List.flatMap_cons]
   simp only [br_true,bnd_some]
   rw [roomS_ok (by omega) (by omega),br_true]
   refine (lcode_l k l hr hl n (i+1) _ (by omega) (by omega) (by unfold app;rw [List.length_append];omega)).trans ?_
   unfold app;rw [List.append_assoc]
  ·have e0:l.drop i=[]:=List.drop_eq_nil_of_le (by omega)
   rw [decide_eq_false hi,br_false,e0];simp
theorem lcode_is (k:Nat) {l:List Dot} (hr:∀ d ∈ l,rightD d=true) (hl:l.length<k) (hk:k<1000000):z2d.f k l=some (codeL l):=by
 have e:(ilen l).toNat=l.length:=rfl
 have hp:=packB_le (n:=l.length) (by omega)
 rw [z2d.f_eq,packI_is (n:=ilen l) (by unfold ilen;omega),e,bnd_some]
 exact lcode_l k l hr (by omega) k 0 _ (by omega) (by omega) (by omega)
theorem codeL_le {l:List Dot} (hr:∀ d ∈ l,rightD d=true) (hl:l.length<1000000):(codeL l).length≤8+16 * l.length:=by
 have hp:=packB_le (n:=l.length) (by omega)
 have:=codes_le codeD 16 l (fun d hd=>codeD_le (hr d hd))
 unfold codeL;rw [List.length_append];omega
theorem scode_is (k:Nat) {s:DSet} (hs:Can s) (hl:s.2.length<k) (h17:17<k) (hk:k<1000000):z1V.f k s=some (codeS s):=by
 have h1:=codeV_le hs.vok
 have h2:=codeL_le hs.rt (by omega)
 rw [z1V.f_eq,vcode_is k hs.vok h17,lcode_is k hs.rt hl hk]
 simp only [bnd_some]
 rw [roomS_ok (by omega) (by omega)];rfl
theorem codeS_le {s:DSet} (hs:Can s) {n:Nat} (hl:s.2.length≤n) (hn:n<1000000):(codeS s).length≤136+16 * n:=by
 have h1:=codeV_le hs.vok
 have h2:=codeL_le hs.rt (by omega)
 unfold codeS;rw [List.length_append];omega
theorem tcode_l (k:Nat) (l:List Undo) (hr:∀ u ∈ l,rightU u=true) (hl:l.length<1000000):∀ (n i:Nat) (x:List UInt8),i≤l.length→l.length<n+i→x.length≤100+24 * i→z1d.l3 k n x l (ilen l) (i:Int)=some (x++(l.drop i).flatMap codeU)
 | 0,i,_,h,h',_=>by omega
 | n+1,i,x,h,h',hx=>by
  rw [z1d.l3_eq,ilt_nat,inL_nat,natOf_nat]
  by_cases hi:i<l.length
  ·have hd:=hr l[i] (List.getElem_mem hi)
   obtain ⟨hd1,hd2,hd3⟩:=(rightU_iff _).1 hd
   have hp:=codeU_le hd
   have hp1:=codeD_le hd1
   have hp2:=packB_le (n:=l[i].2.toNat) (by omega)
   have e4:iadd .i64 (i:Int) 1=((i+1:Nat):Int):=iadd_nat (by omega)
   have ed:l.drop i=l[i]::l.drop (i+1):=List.drop_eq_getElem_cons hi
   rw [decide_eq_true hi,rd_at' (e:=tUndo) hi,dcode_is k hd1,packI_is (n:=l[i].2) (by omega),e4,ed,List.flatMap_cons]
   simp only [br_true,bnd_some]
   rw [roomS_ok (by omega) (by omega),br_true]
   have ea:app (codeD l[i].1) (packB l[i].2.toNat)=codeU l[i]:=rfl
   rw [ea,roomS_ok (by omega) (by omega),br_true]
   refine (tcode_l k l hr hl n (i+1) _ (by omega) (by omega) (by unfold app;rw [List.length_append];omega)).trans ?_
   unfold app;rw [List.append_assoc]
  ·have e0:l.drop i=[]:=List.drop_eq_nil_of_le (by omega)
   rw [decide_eq_false hi,br_false,e0];simp
theorem tcode_is (k:Nat) {l:List Undo} (hr:∀ u ∈ l,rightU u=true) (hl:l.length<k) (hk:k<1000000):z1d.f k l=some (codeT l):=by
 have e:(ilen l).toNat=l.length:=rfl
 have hp:=packB_le (n:=l.length) (by omega)
 rw [z1d.f_eq,packI_is (n:=ilen l) (by unfold ilen;omega),e,bnd_some]
 exact tcode_l k l hr (by omega) k 0 _ (by omega) (by omega) (by omega)
theorem codeT_le {l:List Undo} (hr:∀ u ∈ l,rightU u=true) {n:Nat} (hl:l.length≤n) (hn:n<1000000):(codeT l).length≤8+24 * n:=by
 have hp:=packB_le (n:=l.length) (by omega)
 have:=codes_le codeU 24 l (fun d hd=>codeU_le (hr d hd))
 unfold codeT;rw [List.length_append];omega
end Go.Proofs.YtggcagclpkhlhaaGreatDoor
end
noncomputable section
/- How long a transaction's parts are. -/
namespace Go.Proofs.YtggcagclpkhlhaaGreatDoor
open Pal
structure SizT (k:Nat) (t:Txn):Prop where
 ops:t.2.2.2.2.length<k
 each:∀ o ∈ t.2.2.2.2,SizO k o
theorem SizT.len {k:Nat} {t:Txn} (h:SizT k t):LenT k t:=⟨h.ops,fun o ho=>⟨(h.each o ho).names,(h.each o ho).seen⟩⟩
theorem txn_rt (k:Nat) (t:Txn) (h:z0z.f k t=some 0):rightD t.1=true:=by
 rw [z0z.f_eq,rright_is,bnd_some] at h
 cases hr:rightD t.1 with
 | true=>rfl
 | false =>
  rw [hr] at h
  have bf:bnot false=true:=rfl
  rw [bf,br_true] at h
  cases h
theorem SizT.chk {k:Nat} {t:Txn} (h:SizT k t) (hk:10<k) (hk2:k<1000000):∃ e:Int,z0z.f k t=some e∧(e=0→rightD t.1=true):=by
 obtain ⟨e,_,g⟩:=txn_is k t h.each h.ops hk hk2
 exact ⟨e,g,fun he=>txn_rt k t (by rw [g,he])⟩
end Go.Proofs.YtggcagclpkhlhaaGreatDoor
end
noncomputable section
/- Transactions and lists of them: the program and the document read the same. -/
namespace Go.Proofs.YtggcagclpkhlhaaGreatDoor
open Pal
end Go.Proofs.YtggcagclpkhlhaaGreatDoor
end
noncomputable section
/- A state is read: the program and the document do the same. -/
namespace Go.Proofs.YtggcagclpkhlhaaGreatDoor
open Pal
abbrev Rows:=Ty.D (.arr 8 (.slc tDot))
theorem upd_mem {R:List (List Dot)} {i n:Nat} {l:List Dot} (h:∀ l ∈ R,l.length≤n) (hl:l.length≤n):∀ l' ∈ R.set i l,l'.length≤n:=by
 intro l' hl'
 rcases List.mem_or_eq_of_mem_set hl' with h1 | rfl
 ·exact h _ h1
 ·exact hl
end Go.Proofs.YtggcagclpkhlhaaGreatDoor
end
noncomputable section
/- What is told of texts, paths, values and operations is read again. -/
namespace Go.Proofs.YtggcagclpkhlhaaGreatDoor
open Pal
def codeX (s:Str):List UInt8:=packB (List.length s)++s
theorem codeX_len (s:Str) (h:List.length s<1000000):(codeX s).length≤8+List.length s:=by
 have:=packB_le (n:=List.length s) (by omega)
 unfold codeX;rw [List.length_append];omega
theorem text_code (k:Nat) (s:Str) (h:List.length s<1000000):z1Z.f k s=some (codeX s):=by
 have e:(ilen s).toNat=List.length s:=rfl
 have hp:=packB_le (n:=List.length s) (by omega)
 rw [z1Z.f_eq,packI_is (n:=ilen s) (by unfold ilen;omega),e,bnd_some,roomS_ok (by omega) (by omega)];rfl
def codeP (p:List Str):List UInt8:=packB p.length++p.flatMap codeX
theorem codeP_le {p:List Str} (h:ShortP p):(codeP p).length≤1544:=by
 have hp:=packB_le (n:=p.length) (by have:=h.1;omega)
 have:=codes_le codeX 128 p (fun s hs=>by have h1:=h.2 s hs;have:=codeX_len s (by omega);omega)
 have h1:=h.1
 unfold codeP;rw [List.length_append];omega
theorem pcode_l (k:Nat) (p:List Str) (hs:∀ s ∈ p,List.length s≤120) (hl:p.length<10000):∀ (n i:Nat) (x:List UInt8),i≤p.length→p.length<n+i→x.length≤100+128 * i→z27.l3 k n x p (ilen p) (i:Int)=some (x++(p.drop i).flatMap codeX)
 | 0,i,_,h,h',_=>by omega
 | n+1,i,x,h,h',hx=>by
  rw [z27.l3_eq,ilt_nat,inL_nat,natOf_nat]
  by_cases hi:i<p.length
  ·have hd:=hs p[i] (List.getElem_mem hi)
   have hp:=codeX_len p[i] (by omega)
   have e4:iadd .i64 (i:Int) 1=((i+1:Nat):Int):=iadd_nat (by omega)
   have ed:p.drop i=p[i]::p.drop (i+1):=List.drop_eq_getElem_cons hi
   rw [decide_eq_true hi,rd_at' (e:=.str) hi,text_code k _ (by omega),e4,ed,List.flatMap_cons]
   simp only [br_true,bnd_some]
   rw [roomS_ok (by omega) (by omega),br_true]
   refine (pcode_l k p hs hl n (i+1) _ (by omega) (by omega) (by unfold app;rw [List.length_append];omega)).trans ?_
   unfold app;rw [List.append_assoc]
  ·have e0:p.drop i=[]:=List.drop_eq_nil_of_le (by omega)
   rw [decide_eq_false hi,br_false,e0];simp
theorem pcode_is (k:Nat) {p:List Str} (h:ShortP p) (hk:12<k) (hk2:k<1000000):z27.f k p=some (codeP p):=by
 have h1:=h.1
 have e:(ilen p).toNat=p.length:=rfl
 have hp:=packB_le (n:=p.length) (by omega)
 rw [z27.f_eq,packI_is (n:=ilen p) (by unfold ilen;omega),e,bnd_some]
 exact pcode_l k p h.2 (by omega) k 0 _ (by omega) (by omega) (by omega)
def foldN (i:Int):Nat:=if i<0 then (-2 * i - 1).toNat else (2 * i).toNat
theorem foldN_le {i:Int} (h1:-2147483647≤i) (h2:i≤2147483647):foldN i<72057594037927936:=by
 unfold foldN;split <;> omega
theorem fold_is (k:Nat) (i:Int) (h1:-2147483647≤i) (h2:i≤2147483647):z1L.f k i=some ((foldN i:Nat):Int):=by
 rw [z1L.f_eq]
 unfold foldN
 by_cases h:i<0
 ·have m:imul .i64 (-2) i=-2 * i:=by
   show IntKind.wrap .i64 (-2 * i)=_
   rw [wrap64 (by omega) (by omega)]
  have s:isub .i64 (-2 * i) 1=-2 * i - 1:=by
   show IntKind.wrap .i64 (-2 * i - 1)=_
   rw [wrap64 (by omega) (by omega)]
  rw [show ilt i 0=true from decide_eq_true h,br_true,m,s,if_pos h,Int.toNat_of_nonneg (by omega)]
 ·have m:imul .i64 2 i=2 * i:=by
   show IntKind.wrap .i64 (2 * i)=_
   rw [wrap64 (by omega) (by omega)]
  rw [show ilt i 0=false from decide_eq_false h,br_false,m,if_neg h,Int.toNat_of_nonneg (by omega)]
structure ValOK (v:Val):Prop where
 kind:1≤v.1∧v.1≤3
 text:v.1=2→v.2.1=0
 num:v.1 ≠ 2→v.2.2=[]∧-2147483647≤v.2.1∧v.2.1≤2147483647
theorem seq_nil {s:Str} (h:seq s []=true):s=[]:=by
 cases s with
 | nil=>rfl
 | cons a l=>cases h
theorem val_ok (k:Nat) (v:Val) (h:z0I.f k v=some true):ValOK v:=by
 rw [z0I.f_eq] at h
 obtain ⟨K,A,s⟩:=v
 simp only at h
 by_cases h1:K=1
 ·subst h1
  rw [show ieq (1:Int) 1=true from rfl,br_true] at h
  cases hq:seq s [] with
  | false=>rw [hq,br_false] at h;cases h
  | true =>
   rw [hq,br_true,show ile (-2147483647) A=decide (-2147483647≤A) from rfl] at h
   by_cases h2:-2147483647≤A
   ·rw [decide_eq_true h2,br_true] at h
    injection h with h
    exact ⟨by show (1:Int)≤1∧(1:Int)≤3;decide,fun h=>(by cases h),fun _=>⟨seq_nil hq,h2,of_decide_eq_true h⟩⟩
   ·rw [decide_eq_false h2,br_false] at h;cases h
 by_cases h2:K=2
 ·subst h2
  rw [show ieq (2:Int) 1=false from rfl,show ieq (2:Int) 2=true from rfl,br_false,br_true] at h
  refine ⟨by show (1:Int)≤2∧(2:Int)≤3;decide,fun _=>?_,fun h=>absurd rfl h⟩
  cases hr:runesB s with
  | none=>rw [hr] at h;cases h
  | some r =>
   rw [hr,bnd_some] at h
   cases h2:r.2 with
   | false=>rw [h2,br_false] at h;cases h
   | true =>
    rw [h2,br_true,ieq_dec] at h
    by_cases h0:A=0
    ·exact h0
    ·rw [decide_eq_false h0,br_false] at h;cases h
 by_cases h3:K=3
 ·subst h3
  rw [show ieq (3:Int) 1=false from rfl,show ieq (3:Int) 2=false from rfl,show ieq (3:Int) 3=true from rfl,br_false,br_false,br_true] at h
  cases hq:seq s [] with
  | false=>rw [hq,br_false] at h;cases h
  | true =>
   rw [hq,br_true,ieq_dec] at h
   refine ⟨by show (1:Int)≤3∧(3:Int)≤3;decide,fun h=>(by cases h),fun _=>⟨seq_nil hq,?_⟩⟩
   show -2147483647≤A∧A≤2147483647
   by_cases h0:A=0
   ·omega
   ·rw [decide_eq_false h0,br_false,ieq_dec] at h
    injection h with h
    have:=of_decide_eq_true h
    omega
 ·have f:∀ c:Int,K ≠ c→ieq K c=false:=fun c hc=>by rw [ieq_dec];exact decide_eq_false hc
  rw [f 1 h1,f 2 h2,f 3 h3,br_false,br_false,br_false] at h
  cases h
def codeVal (v:Val):List UInt8:=packB v.1.toNat++(if v.1=2 then codeX v.2.2 else packB (foldN v.2.1))
theorem codeVal_le {v:Val} (hv:ValOK v) (hl:v.2.2.length≤200):(codeVal v).length≤216:=by
 have h1:=hv.kind
 have p1:=packB_le (n:=v.1.toNat) (by omega)
 unfold codeVal;rw [List.length_append]
 split
 ·have:=codeX_len v.2.2 (by omega);omega
 ·rename_i h2
  obtain ⟨_,a,b⟩:=hv.num h2
  have:=packB_le (foldN_le a b);omega
theorem vacode_is (k:Nat) {v:Val} (hv:ValOK v) (hl:v.2.2.length≤200):z1p.f k v=some (codeVal v):=by
 have h1:=hv.kind
 have p1:=packB_le (n:=v.1.toNat) (by omega)
 unfold codeVal
 rw [z1p.f_eq,packI_is (n:=v.1) (by omega),ieq_dec]
 by_cases h2:v.1=2
 ·have:=codeX_len v.2.2 (by omega)
  rw [decide_eq_true h2,br_true,bnd_some,text_code k _ (by omega),bnd_some,roomS_ok (by omega) (by omega),br_true,if_pos h2];rfl
 ·obtain ⟨_,a,b⟩:=hv.num h2
  have hb:=foldN_le a b
  have:=packB_le hb
  rw [decide_eq_false h2,br_false,bnd_some,fold_is k _ a b,bnd_some,packI_is (n:=((foldN v.2.1:Nat):Int)) (by omega),Int.toNat_natCast,bnd_some,roomS_ok (by omega) (by omega),br_true,if_neg h2];rfl
end Go.Proofs.YtggcagclpkhlhaaGreatDoor
end
noncomputable section
/- What is told of operations is read again. -/
namespace Go.Proofs.YtggcagclpkhlhaaGreatDoor
open Pal
theorem refs_ok (k:Nat) (l:List (Dot × Int)) (h3:3≤k) (hl:l.length<1000000):∀ (n i:Nat),i≤l.length→l.length<n+i→z2w.l2 k n l l (ilen l) (i:Int)=some true→∀ u ∈ l.drop i,rightD u.1=true∧0≤u.2∧u.2<16
 | 0,i,_,h,_=>by omega
 | n+1,i,h,h',hb=>by
  rw [z2w.l2_eq,ilt_nat,inL_nat,natOf_nat] at hb
  by_cases hi:i<l.length
  ·rw [decide_eq_true hi,rd_at' (e:=tUndo) hi,right_is,iadd_nat (by omega)] at hb
   simp only [br_true,bnd_some] at hb
   rw [List.drop_eq_getElem_cons hi]
   have bt:bnot true=false:=rfl
   have bf:bnot false=true:=rfl
   cases hr:rightD l[i].1 with
   | false=>rw [hr,bf,br_true] at hb;cases hb
   | true =>
    rw [hr,bt,br_false,show ilt l[i].2 0=decide (l[i].2<0) from rfl,show ile 16 l[i].2=decide (16≤l[i].2) from rfl] at hb
    by_cases h0:l[i].2<0
    ·rw [decide_eq_true h0,br_true] at hb;cases hb
    rw [decide_eq_false h0,br_false] at hb
    by_cases h16:16≤l[i].2
    ·rw [decide_eq_true h16,br_true] at hb;cases hb
    rw [decide_eq_false h16,br_false,show ilt 0 (i:Int)=decide (0<i) from ilt_nn 0 i] at hb
    have hnext:z2w.l2 k n l l (ilen l) ((i+1:Nat):Int)=some true:=by
     by_cases hp:0<i
     ·have hi1:i - 1<l.length:=by omega
      have e3:isub .i64 (i:Int) 1=((i - 1:Nat):Int):=by rw [isub_s (by omega) (by omega) (by omega) (by omega)];omega
      rw [decide_eq_true hp,br_true,e3,inL_nat,natOf_nat,rd_at' (e:=tUndo) hi1,decide_eq_true hi1,br_true,ref_is k _ _ h3,bnd_some] at hb
      cases hq:ile 0 (cmpR l[i - 1] l[i]) with
      | true=>rw [hq,br_true] at hb;cases hb
      | false=>rw [hq,br_false] at hb;exact hb
     ·rw [decide_eq_false hp,br_false] at hb;exact hb
    intro u hu
    rcases List.mem_cons.1 hu with rfl | hu
    ·exact ⟨hr,by omega,by omega⟩
    ·exact refs_ok k l h3 hl n (i+1) (by omega) (by omega) hnext u hu
  ·rw [List.drop_eq_nil_of_le (by omega)]
   intro u hu;simp at hu
structure OkO (k:Nat) (o:Op):Prop where
 kind:o.1=1∨o.1=2∨o.1=3∨o.1=4∨o.1=5
 chk:z2q.f k o=some 0
 path:z1H.f k o.2.1=some 0
 val0:o.1=3∨o.1=5→o.2.2.1=(0,(0,[]))
 valr:o.1=1∨o.1=2∨o.1=4→z0I.f k o.2.2.1=some true
 amt0:o.1 ≠ 3→o.2.2.2.1=0
 amt3:-2147483647≤o.2.2.2.1∧o.2.2.2.1≤2147483647
 seen0:o.1=2∨o.1=3→o.2.2.2.2=[]
 seen:o.2.2.2.2.length≤256∧∀ u ∈ o.2.2.2.2,rightD u.1=true∧0≤u.2∧u.2<16
theorem nil_of {l:List (Dot × Int)} (h:ilt 0 (ilen l)=false):l=[]:=by
 rw [show ilt 0 (ilen l)=decide (0<l.length) from ilt_lenR 0 l] at h
 have:=of_decide_eq_false h
 exact List.eq_nil_of_length_eq_zero (by omega)
set_option maxHeartbeats 4000000 in
theorem op_ok (k:Nat) (o:Op) (so:SizO k o) (hk:10<k) (hk2:k<1000000) (h:z2q.f k o=some 0):OkO k o:=by
 have hsave:=h
 obtain ⟨e1,p1,p2⟩:=path_is k o.2.1 so.path hk hk2 so.names
 obtain ⟨b1,v1,v2⟩:=val_is k o.2.2.1 hk so.val hk2
 obtain ⟨b2,r1,r2⟩:=refs_is k o.2.2.2.2 (by omega) so.seen hk2
 have hsl:=so.seen
 rw [z2q.f_eq,z2c.f_eq,z28.f_eq,p1,v1,r1] at h
 have bt:bnot true=false:=rfl
 have bf:bnot false=true:=rfl
 obtain ⟨K,P,V,A,S⟩:=o
 simp only at h p1 v1 r1 hsl
 by_cases h1:K<1
 ·rw [show ilt K 1=true from decide_eq_true h1,br_true] at h;cases h
 by_cases h5:5<K
 ·rw [show ilt K 1=false from decide_eq_false h1,show ilt 5 K=true from decide_eq_true h5,br_false,br_true] at h;cases h
 rw [show ilt K 1=false from decide_eq_false h1,show ilt 5 K=false from decide_eq_false h5,br_false,br_false,bnd_some] at h
 have he:e1=0:=by
  apply Classical.byContradiction
  intro hne
  rw [ieq_dec,decide_eq_false hne,bf,br_true] at h
  injection h with h;exact hne h
 subst he
 rw [show ieq (0:Int) 0=true from rfl,bt,br_false] at h
 have refsOK:b2=true→∀ u ∈ S,rightD u.1=true∧0≤u.2∧u.2<16:=by
  intro hb;subst hb
  rw [z2w.f_eq] at r1
  have:=refs_ok k S (by omega) (by omega) k 0 (by omega) (by omega) r1
  rwa [List.drop_zero] at this
 have seenOK:b2=true→ilt 256 (ilen S)=false→S.length≤256∧∀ u ∈ S,rightD u.1=true∧0≤u.2∧u.2<16:=by
  intro hb hl
  rw [show ilt 256 (ilen S)=decide (256<S.length) from ilt_lenR 256 S] at hl
  have:=of_decide_eq_false hl
  exact ⟨by omega,refsOK hb⟩
 have aOK:ieq A 0=true→A=0:=fun h=>by rw [ieq_dec] at h;exact of_decide_eq_true h
 have vOK:deq tValue V (0,(0,[]))=true→V=(0,(0,[])):=fun h=>by rw [deqVal] at h;exact of_decide_eq_true h
 clear p2 v2 r2 so hsl r1
 have hK:K=1∨K=2∨K=3∨K=4∨K=5:=by omega
 rcases hK with rfl | rfl | rfl | rfl | rfl
 ·simp only [show ieq (1:Int) 1=true from rfl,show ieq (1:Int) 2=false from rfl,show ieq (1:Int) 3=false from rfl,show ieq (1:Int) 4=false from rfl,show ieq (1:Int) 5=false from rfl,br_true,br_false,bt,bf,bnd_some] at h
  cases b1 with
  | false=>exact absurd h (by intro h;cases h)
  | true =>
  generalize hA:ieq A 0=qa at h
  cases qa with
  | false=>exact absurd h (by intro h;cases h)
  | true =>
  generalize hS:ilt 256 (ilen S)=qs at h
  cases qs with
  | true=>exact absurd h (by intro h;cases h)
  | false =>
  cases b2 with
  | false=>exact absurd h (by intro h;cases h)
  | true =>
  have a0:=aOK hA
  exact ⟨.inl rfl,hsave,p1,fun h=>(by rcases h with h | h <;> cases h),fun _=>v1,fun _=>a0,by show -2147483647≤A∧A≤2147483647;omega,fun h=>(by rcases h with h | h <;> cases h),seenOK rfl hS⟩
 ·simp only [show ieq (2:Int) 1=false from rfl,show ieq (2:Int) 2=true from rfl,show ieq (2:Int) 3=false from rfl,show ieq (2:Int) 4=false from rfl,show ieq (2:Int) 5=false from rfl,br_true,br_false,bt,bf,bnd_some] at h
  cases b1 with
  | false=>exact absurd h (by intro h;cases h)
  | true =>
  generalize hA:ieq A 0=qa at h
  cases qa with
  | false=>exact absurd h (by intro h;cases h)
  | true =>
  generalize hS:ilt 0 (ilen S)=qs at h
  cases qs with
  | true=>exact absurd h (by intro h;cases h)
  | false =>
  have a0:=aOK hA
  have s0:=nil_of hS
  exact ⟨.inr (.inl rfl),hsave,p1,fun h=>(by rcases h with h | h <;> cases h),fun _=>v1,fun _=>a0,by show -2147483647≤A∧A≤2147483647;omega,fun _=>s0,by show S.length≤256∧_;rw [s0];exact ⟨by simp,fun u hu=>by simp at hu⟩⟩
 ·simp only [show ieq (3:Int) 1=false from rfl,show ieq (3:Int) 2=false from rfl,show ieq (3:Int) 3=true from rfl,show ieq (3:Int) 4=false from rfl,show ieq (3:Int) 5=false from rfl,br_true,br_false,bt,bf,bnd_some] at h
  generalize hV:deq tValue V (0,(0,[]))=qv at h
  cases qv with
  | false=>exact absurd h (by intro h;cases h)
  | true =>
  generalize hA:ieq A 0=qa at h
  cases qa with
  | true=>exact absurd h (by intro h;cases h)
  | false =>
  generalize hA1:ile (-2147483647) A=q1 at h
  cases q1 with
  | false=>exact absurd h (by intro h;cases h)
  | true =>
  generalize hA2:ile A 2147483647=q2 at h
  cases q2 with
  | false=>exact absurd h (by intro h;cases h)
  | true =>
  generalize hS:ilt 0 (ilen S)=qs at h
  cases qs with
  | true=>exact absurd h (by intro h;cases h)
  | false =>
  have v0:=vOK hV
  have s0:=nil_of hS
  have a1:-2147483647≤A:=of_decide_eq_true hA1
  have a2:A≤2147483647:=of_decide_eq_true hA2
  exact ⟨.inr (.inr (.inl rfl)),hsave,p1,fun _=>v0,fun h=>(by rcases h with h | h | h <;> cases h),fun h=>absurd rfl h,⟨a1,a2⟩,fun _=>s0,by show S.length≤256∧_;rw [s0];exact ⟨by simp,fun u hu=>by simp at hu⟩⟩
 ·simp only [show ieq (4:Int) 1=false from rfl,show ieq (4:Int) 2=false from rfl,show ieq (4:Int) 3=false from rfl,show ieq (4:Int) 4=true from rfl,show ieq (4:Int) 5=false from rfl,br_true,br_false,bt,bf,bnd_some] at h
  cases b1 with
  | false=>exact absurd h (by intro h;cases h)
  | true =>
  generalize hA:ieq A 0=qa at h
  cases qa with
  | false=>exact absurd h (by intro h;cases h)
  | true =>
  generalize hS:ilt 256 (ilen S)=qs at h
  cases qs with
  | true=>exact absurd h (by intro h;cases h)
  | false =>
  cases b2 with
  | false=>exact absurd h (by intro h;cases h)
  | true =>
  have a0:=aOK hA
  exact ⟨.inr (.inr (.inr (.inl rfl))),hsave,p1,fun h=>(by rcases h with h | h <;> cases h),fun _=>v1,fun _=>a0,by show -2147483647≤A∧A≤2147483647;omega,fun h=>(by rcases h with h | h <;> cases h),seenOK rfl hS⟩
 ·simp only [show ieq (5:Int) 1=false from rfl,show ieq (5:Int) 2=false from rfl,show ieq (5:Int) 3=false from rfl,show ieq (5:Int) 4=false from rfl,show ieq (5:Int) 5=true from rfl,br_true,br_false,bt,bf,bnd_some] at h
  generalize hV:deq tValue V (0,(0,[]))=qv at h
  cases qv with
  | false=>exact absurd h (by intro h;cases h)
  | true =>
  generalize hA:ieq A 0=qa at h
  cases qa with
  | false=>exact absurd h (by intro h;cases h)
  | true =>
  generalize hS:ilt 256 (ilen S)=qs at h
  cases qs with
  | true=>exact absurd h (by intro h;cases h)
  | false =>
  cases b2 with
  | false=>exact absurd h (by intro h;cases h)
  | true =>
  have a0:=aOK hA
  have v0:=vOK hV
  exact ⟨.inr (.inr (.inr (.inr rfl))),hsave,p1,fun _=>v0,fun h=>(by rcases h with h | h | h <;> cases h),fun _=>a0,by show -2147483647≤A∧A≤2147483647;omega,fun h=>(by rcases h with h | h <;> cases h),seenOK rfl hS⟩
def goneO:Op:=(0,([],((0,(0,[])),(0,[]))))
theorem gone_val {k:Nat} {o:Op} (h:z2t.f k o=some true):o=goneO:=by
 rw [z2t.f_eq,ieq_dec,ieq0,deqVal,ieq_dec,ieq0] at h
 obtain ⟨K,P,V,A,S⟩:=o
 simp only at h
 by_cases h1:K=0
 case neg=>rw [decide_eq_false h1,br_false] at h;cases h
 rw [decide_eq_true h1,br_true] at h
 by_cases h2:P.length=0
 case neg=>rw [decide_eq_false h2,br_false] at h;cases h
 rw [decide_eq_true h2,br_true] at h
 by_cases h3:V=(0,(0,[]))
 case neg=>rw [decide_eq_false h3,br_false] at h;cases h
 rw [decide_eq_true h3,br_true] at h
 by_cases h4:A=0
 case neg=>rw [decide_eq_false h4,br_false] at h;cases h
 rw [decide_eq_true h4,br_true] at h
 injection h with h
 have h5:=of_decide_eq_true h
 rw [h1,List.eq_nil_of_length_eq_zero h2,h3,h4,List.eq_nil_of_length_eq_zero h5];rfl
def codeTl (o:Op):List UInt8 :=
 if o.1=3 then packB (foldN o.2.2.2.1) else if o.1=2 then codeVal o.2.2.1 else if o.1=5 then codeT o.2.2.2.2 else codeVal o.2.2.1++codeT o.2.2.2.2
def codeO (o:Op):List UInt8:=if o.1=0 then packB 0 else packB o.1.toNat++(codeP o.2.1++codeTl o)
theorem codeR_le {u:Undo} (h:rightD u.1=true∧0≤u.2∧u.2<16):(codeU u).length≤24:=by
 have:=codeD_le h.1
 have:=packB_le (n:=u.2.toNat) (by omega)
 unfold codeU;rw [List.length_append];omega
theorem codeRs_le {l:List Undo} (h:∀ u ∈ l,rightD u.1=true∧0≤u.2∧u.2<16) (hl:l.length≤256):(codeT l).length≤6152:=by
 have hp:=packB_le (n:=l.length) (by omega)
 have:=codes_le codeU 24 l (fun d hd=>codeR_le (h d hd))
 unfold codeT;rw [List.length_append];omega
theorem codeTl_le {k:Nat} {o:Op} (h:OkO k o) (hs:ShortO o):(codeTl o).length≤6400:=by
 obtain ⟨a,b⟩:=h.amt3
 have h1:=packB_le (foldN_le a b)
 have h2:=codeRs_le h.seen.2 h.seen.1
 have hv:=hs.val
 unfold codeTl
 by_cases c3:o.1=3
 ·rw [if_pos c3];omega
 rw [if_neg c3]
 by_cases c2:o.1=2
 ·have:=codeVal_le (val_ok k _ (h.valr (.inr (.inl c2)))) hv
  rw [if_pos c2];omega
 rw [if_neg c2]
 by_cases c5:o.1=5
 ·rw [if_pos c5];omega
 rw [if_neg c5,List.length_append]
 have:=codeVal_le (val_ok k _ (h.valr (by have:=h.kind;omega))) hv
 omega
theorem codeO_le {k:Nat} {o:Op} (h:o=goneO∨OkO k o) (hs:ShortO o):(codeO o).length≤8000:=by
 unfold codeO
 rcases h with rfl | h
 ·rw [if_pos (by rfl)];have:=packB_le (n:=0) (by omega);omega
 ·have h1:=codeTl_le h hs
  have h2:=codeP_le hs.path
  have h3:=packB_le (n:=o.1.toNat) (by have:=h.kind;omega)
  rw [if_neg (by have:=h.kind;omega),List.length_append,List.length_append];omega
theorem rcode_l (k:Nat) (l:List Undo) (hr:∀ u ∈ l,rightD u.1=true∧0≤u.2∧u.2<16) (hl:l.length<1000000):∀ (n i:Nat) (x:List UInt8),i≤l.length→l.length<n+i→x.length≤10000+24 * i→z2u.l16 k n x l (ilen l) (i:Int)=some (x++(l.drop i).flatMap codeU)
 | 0,i,_,h,h',_=>by omega
 | n+1,i,x,h,h',hx=>by
  rw [z2u.l16_eq,ilt_nat,inL_nat,natOf_nat]
  by_cases hi:i<l.length
  ·have hd:=hr l[i] (List.getElem_mem hi)
   have hp:=codeR_le hd
   obtain ⟨hd1,hd2,hd3⟩:=hd
   have hp1:=codeD_le hd1
   have hp2:=packB_le (n:=l[i].2.toNat) (by omega)
   have e4:iadd .i64 (i:Int) 1=((i+1:Nat):Int):=iadd_nat (by omega)
   have ed:l.drop i=l[i]::l.drop (i+1):=List.drop_eq_getElem_cons hi
   rw [decide_eq_true hi,rd_at' (e:=tUndo) hi,dcode_is k hd1,packI_is (n:=l[i].2) (by omega),e4,ed,List.flatMap_cons]
   simp only [br_true,bnd_some]
   rw [roomS_ok (by omega) (by omega),br_true]
   have ea:app (codeD l[i].1) (packB l[i].2.toNat)=codeU l[i]:=rfl
   rw [ea,roomS_ok (by omega) (by omega),br_true]
   refine (rcode_l k l hr hl n (i+1) _ (by omega) (by omega) (by unfold app;rw [List.length_append];omega)).trans ?_
   unfold app;rw [List.append_assoc]
  ·have e0:l.drop i=[]:=List.drop_eq_nil_of_le (by omega)
   rw [decide_eq_false hi,br_false,e0];simp
theorem rcode_is (k:Nat) (x:List UInt8) {l:List Undo} (hr:∀ u ∈ l,rightD u.1=true∧0≤u.2∧u.2<16) (hl:l.length≤256) (hx:x.length≤9000) (hk:5000<k) (hk2:k<1000000) :
  (bnd (packI (ilen l)) fun r6=>br (roomS x r6) (z2u.l16 k k (app x r6) l (ilen l) 0) none)=some (x++codeT l):=by
 have e:(ilen l).toNat=l.length:=rfl
 have hp:=packB_le (n:=l.length) (by omega)
 rw [packI_is (n:=ilen l) (by unfold ilen;omega),e,bnd_some,roomS_ok (by omega) (by omega),br_true]
 refine (rcode_l k l hr (by omega) k 0 _ (by omega) (by omega) (by unfold app;rw [List.length_append];omega)).trans ?_
 rw [List.drop_zero];unfold app codeT;rw [List.append_assoc]
end Go.Proofs.YtggcagclpkhlhaaGreatDoor
end
noncomputable section
/- What is told of operations is read again: kind by kind. -/
namespace Go.Proofs.YtggcagclpkhlhaaGreatDoor
open Pal
theorem pI (n:Nat) (h:n<100):packI (n:Int)=some (packB n):=by rw [packI_is (n:=(n:Int)) (by omega),Int.toNat_natCast]
theorem ocode_0 (k:Nat):z2u.f k goneO=some (packB 0):=by
 have h0:packI 0=some (packB 0):=pI 0 (by decide)
 have e0:ieq (ilen ([]:List Undo)) 0=true:=rfl
 have e1:ieq (ilen ([]:List Str)) 0=true:=rfl
 have e2:deq tValue ((0,(0,[])):Val) (0,(0,[]))=true:=by rw [deqVal];exact decide_eq_true rfl
 rw [z2u.f_eq,z2t.f_eq]
 unfold goneO
 simp only [h0,bnd_some,show ieq (0:Int) 0=true from rfl,e0,e1,e2,br_true]
section
variable (k:Nat) (hk:5000<k) (hk2:k<1000000) (P:List Str) (V:Val) (A:Int) (S:List Undo) (hP:ShortP P) (hv:V.2.2.length≤200)
include hk hk2 hP
theorem rooms (n:Nat) (hn:n<100):roomS (packB n) (codeP P)=true∧(app (packB n) (codeP P)).length≤2000:=by
 have h1:=packB_le (n:=n) (by omega)
 have h2:=codeP_le hP
 exact ⟨roomS_ok (by omega) (by omega),by unfold app;rw [List.length_append];omega⟩
theorem ocode_3 (h1:-2147483647≤A) (h2:A≤2147483647):z2u.f k (3,(P,(V,(A,S))))=some (packB 3++(codeP P++packB (foldN A))):=by
 have h0:packI 3=some (packB 3):=pI 3 (by decide)
 have hb:=foldN_le h1 h2
 have hpl:=packB_le hb
 have hf:packI ((foldN A:Nat):Int)=some (packB (foldN A)):=by rw [packI_is (n:=((foldN A:Nat):Int)) (by omega),Int.toNat_natCast]
 obtain ⟨r1,r2⟩:=rooms k hk hk2 P hP 3 (by decide)
 have r3:roomS (app (packB 3) (codeP P)) (packB (foldN A))=true:=roomS_ok (by omega) (by omega)
 rw [z2u.f_eq,z2t.f_eq]
 simp only [h0,bnd_some,show ieq (3:Int) 0=false from rfl,show ieq (3:Int) 3=true from rfl,br_true,br_false,pcode_is k hP (by omega) hk2,r1,fold_is k A h1 h2,hf,r3]
 unfold app;rw [List.append_assoc]
include hv
theorem ocode_1 (hV:ValOK V) (hs:S.length≤256∧∀ u ∈ S,rightD u.1=true∧0≤u.2∧u.2<16):z2u.f k (1,(P,(V,(A,S))))=some (packB 1++(codeP P++(codeVal V++codeT S))):=by
 have h0:packI 1=some (packB 1):=pI 1 (by decide)
 have hvl:=codeVal_le hV hv
 obtain ⟨r1,r2⟩:=rooms k hk hk2 P hP 1 (by decide)
 have r3:roomS (app (packB 1) (codeP P)) (codeVal V)=true:=roomS_ok (by omega) (by omega)
 rw [z2u.f_eq,z2t.f_eq]
 simp only [h0,bnd_some,show ieq (1:Int) 0=false from rfl,show ieq (1:Int) 1=true from rfl,show ieq (1:Int) 2=false from rfl,show ieq (1:Int) 3=false from rfl,br_true,br_false,pcode_is k hP (by omega) hk2,r1,vacode_is k hV hv,r3]
 refine (rcode_is k _ hs.2 hs.1 (by unfold app at r2 ⊢;rw [List.length_append];omega) hk hk2).trans ?_
 unfold app;simp only [List.append_assoc]
theorem ocode_4 (hV:ValOK V) (hs:S.length≤256∧∀ u ∈ S,rightD u.1=true∧0≤u.2∧u.2<16):z2u.f k (4,(P,(V,(A,S))))=some (packB 4++(codeP P++(codeVal V++codeT S))):=by
 have h0:packI 4=some (packB 4):=pI 4 (by decide)
 have hvl:=codeVal_le hV hv
 obtain ⟨r1,r2⟩:=rooms k hk hk2 P hP 4 (by decide)
 have r3:roomS (app (packB 4) (codeP P)) (codeVal V)=true:=roomS_ok (by omega) (by omega)
 rw [z2u.f_eq,z2t.f_eq]
 simp only [h0,bnd_some,show ieq (4:Int) 0=false from rfl,show ieq (4:Int) 1=false from rfl,show ieq (4:Int) 2=false from rfl,show ieq (4:Int) 3=false from rfl,show ieq (4:Int) 4=true from rfl,br_true,br_false,pcode_is k hP (by omega) hk2,r1,vacode_is k hV hv,r3]
 refine (rcode_is k _ hs.2 hs.1 (by unfold app at r2 ⊢;rw [List.length_append];omega) hk hk2).trans ?_
 unfold app;simp only [List.append_assoc]
theorem ocode_2 (hV:ValOK V):z2u.f k (2,(P,(V,(A,S))))=some (packB 2++(codeP P++codeVal V)):=by
 have h0:packI 2=some (packB 2):=pI 2 (by decide)
 have hvl:=codeVal_le hV hv
 obtain ⟨r1,r2⟩:=rooms k hk hk2 P hP 2 (by decide)
 have r3:roomS (app (packB 2) (codeP P)) (codeVal V)=true:=roomS_ok (by omega) (by omega)
 rw [z2u.f_eq,z2t.f_eq]
 simp only [h0,bnd_some,show ieq (2:Int) 0=false from rfl,show ieq (2:Int) 1=false from rfl,show ieq (2:Int) 2=true from rfl,show ieq (2:Int) 3=false from rfl,br_true,br_false,pcode_is k hP (by omega) hk2,r1,vacode_is k hV hv,r3]
 unfold app;rw [List.append_assoc]
omit hv in
theorem ocode_5 (hs:S.length≤256∧∀ u ∈ S,rightD u.1=true∧0≤u.2∧u.2<16):z2u.f k (5,(P,(V,(A,S))))=some (packB 5++(codeP P++codeT S)):=by
 have h0:packI 5=some (packB 5):=pI 5 (by decide)
 obtain ⟨r1,r2⟩:=rooms k hk hk2 P hP 5 (by decide)
 rw [z2u.f_eq,z2t.f_eq]
 simp only [h0,bnd_some,show ieq (5:Int) 0=false from rfl,show ieq (5:Int) 1=false from rfl,show ieq (5:Int) 2=false from rfl,show ieq (5:Int) 3=false from rfl,show ieq (5:Int) 4=false from rfl,br_true,br_false,pcode_is k hP (by omega) hk2,r1]
 refine (rcode_is k _ hs.2 hs.1 (by omega) hk hk2).trans ?_
 unfold app;simp only [List.append_assoc]
end
theorem ocode_is (k:Nat) {o:Op} (h:o=goneO∨OkO k o) (hs:ShortO o) (hk:5000<k) (hk2:k<1000000):z2u.f k o=some (codeO o):=by
 rcases h with rfl | h
 ·rw [ocode_0];rfl
 ·have hK:=h.kind
  have hvr:=h.valr;have hse:=h.seen;have hv:=hs.val;have hP:=hs.path;have ha:=h.amt3
  clear h hs
  obtain ⟨K,P,V,A,S⟩:=o
  simp only at hK hvr hse hv hP ha
  rcases hK with rfl | rfl | rfl | rfl | rfl
  ·exact ocode_1 k hk hk2 P V A S hP hv (val_ok k V (hvr (.inl rfl))) hse
  ·exact ocode_2 k hk hk2 P V A S hP hv (val_ok k V (hvr (.inr (.inl rfl))))
  ·exact ocode_3 k hk hk2 P V A S hP ha.1 ha.2
  ·exact ocode_4 k hk hk2 P V A S hP hv (val_ok k V (hvr (.inr (.inr rfl)))) hse
  ·exact ocode_5 k hk hk2 P V A S hP hse
section
variable (k:Nat) (P:List Str) (V:Val) (S:List Undo) (t X1 X2:List UInt8)
end
end Go.Proofs.YtggcagclpkhlhaaGreatDoor
end
noncomputable section
/- What is told of transactions and lists of them is read again. -/
namespace Go.Proofs.YtggcagclpkhlhaaGreatDoor
open Pal
theorem ShortO.siz {o:Op} (h:ShortO o) {k:Nat} (hk:1000<k):SizO k o:=by
 have h1:=h.path.1;have h3:=h.val;have h4:=h.seen
 exact ⟨fun s hs=>by have:=h.path.2 s hs;omega,by omega,by omega,by omega⟩
theorem ShortT.siz {t:Txn} (h:ShortT t) {k:Nat} (hk:1000<k):SizT k t:=⟨by have:=h.len;omega,fun o ho=>(h.ops o ho).siz hk⟩
theorem txnck_l (k:Nat) (t:Txn) (ho:∀ o ∈ t.2.2.2.2,SizO k o) (hl:t.2.2.2.2.length<1000000) (hk:10<k) (hk2:k<1000000):∀ (n i:Nat),i≤t.2.2.2.2.length→t.2.2.2.2.length<n+i →
  z1R.l10 k n t.2.2.2.2 (ilen t.2.2.2.2) (i:Int) t=some 0→∀ o ∈ t.2.2.2.2.drop i,o=goneO∨OkO k o
 | 0,i,_,h,_=>by omega
 | n+1,i,h,h',hc=>by
  rw [z1R.l10_eq,ilt_nat,inL_nat,natOf_nat] at hc
  by_cases hi:i<t.2.2.2.2.length
  ·have so:=ho _ (List.getElem_mem hi)
   obtain ⟨e,p1,p2⟩:=op_is k t.2.2.2.2[i] so.path so.names so.val so.seen hk hk2
   obtain ⟨g,q1,q2⟩:=gone_tot k t.2.2.2.2[i]
   rw [decide_eq_true hi,rd_at' (e:=tOp) hi,p1,q1,iadd_nat (by omega)] at hc
   simp only [br_true,bnd_some] at hc
   have bt:bnot true=false:=rfl
   have bf:bnot false=true:=rfl
   have key:(t.2.2.2.2[i]=goneO∨OkO k t.2.2.2.2[i])∧z1R.l10 k n t.2.2.2.2 (ilen t.2.2.2.2) ((i+1:Nat):Int) t=some 0:=by
    have chk:br (bnot (ieq e 0)) (some e) (z1R.l10 k n t.2.2.2.2 (ilen t.2.2.2.2) ((i+1:Nat):Int) t)=some 0→(t.2.2.2.2[i]=goneO∨OkO k t.2.2.2.2[i])∧z1R.l10 k n t.2.2.2.2 (ilen t.2.2.2.2) ((i+1:Nat):Int) t=some 0:=by
     intro hh
     rw [ieq_dec] at hh
     by_cases he:e=0
     ·rw [decide_eq_true he,bt,br_false] at hh
      exact ⟨.inr (op_ok k _ so hk hk2 (by rw [p1,he])),hh⟩
     ·rw [decide_eq_false he,bf,br_true] at hh
      injection hh with hh;exact absurd hh he
    generalize hth:t.2.2.2.1=th at hc
    cases th with
    | true =>
     rw [br_true] at hc
     cases g with
     | true=>rw [br_true] at hc;exact ⟨.inl (gone_val q1),hc⟩
     | false=>rw [br_false] at hc;exact chk hc
    | false=>rw [br_false] at hc;exact chk hc
   intro o ho'
   rw [List.drop_eq_getElem_cons hi] at ho'
   rcases List.mem_cons.1 ho' with rfl | ho'
   ·exact key.1
   ·exact txnck_l k t ho hl hk hk2 n (i+1) (by omega) (by omega) key.2 o ho'
  ·rw [List.drop_eq_nil_of_le (by omega)]
   intro o ho';simp at ho'
structure OkT (k:Nat) (t:Txn):Prop where
 chk:z1R.f k t=some 0
 dot:rightD t.1=true
 user:0≤t.2.1∧t.2.1<8
 time:1≤t.2.2.1∧t.2.2.1≤1099511627776
 ops:t.2.2.2.2.length≤16
 each:∀ o ∈ t.2.2.2.2,o=goneO∨OkO k o
theorem txn_ok (k:Nat) (t:Txn) (st:SizT k t) (hk:10<k) (hk2:k<1000000) (h:z1R.f k t=some 0):OkT k t:=by
 have hsave:=h
 have hl:=st.ops
 have bt:bnot true=false:=rfl
 have bf:bnot false=true:=rfl
 rw [z1R.f_eq,right_is,bnd_some] at h
 cases hr:rightD t.1 with
 | false=>rw [hr,bf,br_true,br_true] at h;cases h
 | true =>
 rw [hr,bt,br_false,show ilt t.2.1 0=decide (t.2.1<0) from rfl,show ile 8 t.2.1=decide (8≤t.2.1) from rfl] at h
 by_cases h1:t.2.1<0
 ·rw [decide_eq_true h1,br_true] at h;cases h
 rw [decide_eq_false h1,br_false] at h
 by_cases h2:8≤t.2.1
 ·rw [decide_eq_true h2,br_true,br_true] at h;cases h
 rw [decide_eq_false h2,br_false,show ilt t.2.2.1 1=decide (t.2.2.1<1) from rfl,show ilt 1099511627776 t.2.2.1=decide (1099511627776<t.2.2.1) from rfl] at h
 by_cases h3:t.2.2.1<1
 ·rw [decide_eq_true h3,br_true] at h;cases h
 rw [decide_eq_false h3,br_false] at h
 by_cases h4:1099511627776<t.2.2.1
 ·rw [decide_eq_true h4,br_true] at h;cases h
 rw [decide_eq_false h4,br_false] at h
 generalize h5:ieq (ilen t.2.2.2.2) 0=q5 at h
 cases q5 with
 | true=>rw [br_true] at h;cases h
 | false =>
 rw [br_false,show ilt 16 (ilen t.2.2.2.2)=decide (16<t.2.2.2.2.length) from ilt_lenR 16 _] at h
 by_cases h6:16<t.2.2.2.2.length
 ·rw [decide_eq_true h6,br_true] at h;cases h
 rw [decide_eq_false h6,br_false] at h
 have:=txnck_l k t st.each (by omega) hk hk2 k 0 (by omega) (by omega) h
 rw [List.drop_zero] at this
 exact ⟨hsave,hr,by omega,by omega,by omega,this⟩
def thinN (b:Bool):Nat:=match b with | true=>1 | false=>0
def codeTx (t:Txn):List UInt8:=codeD t.1++(packB t.2.1.toNat++(packB t.2.2.1.toNat++(packB (thinN t.2.2.2.1)++(packB t.2.2.2.2.length++t.2.2.2.2.flatMap codeO))))
theorem codeTx_le {k:Nat} {t:Txn} (h:OkT k t) (hs:ShortT t):(codeTx t).length≤130000:=by
 have h1:=codeD_le h.dot
 have hu:=h.user;have ht:=h.time;have ho:=h.ops
 have h2:=packB_le (n:=t.2.1.toNat) (by omega)
 have h3:=packB_le (n:=t.2.2.1.toNat) (by omega)
 have h4:=packB_le (n:=thinN t.2.2.2.1) (by unfold thinN;split <;> omega)
 have h5:=packB_le (n:=t.2.2.2.2.length) (by omega)
 have:=codes_le codeO 8000 t.2.2.2.2 (fun o ho=>codeO_le (h.each o ho) (hs.ops o ho))
 unfold codeTx;simp only [List.length_append];omega
theorem tocode_l (k:Nat) (l:List Op) (hr:∀ o ∈ l,o=goneO∨OkO k o) (hs:∀ o ∈ l,ShortO o) (hl:l.length<1000) (hk:5000<k) (hk2:k<1000000):∀ (n i:Nat) (x:List UInt8),i≤l.length→l.length<n+i→x.length≤100+8000 * i→z2m.l6 k n x l (ilen l) (i:Int)=some (x++(l.drop i).flatMap codeO)
 | 0,i,_,h,h',_=>by omega
 | n+1,i,x,h,h',hx=>by
  rw [z2m.l6_eq,ilt_nat,inL_nat,natOf_nat]
  by_cases hi:i<l.length
  ·have hd:=hr l[i] (List.getElem_mem hi)
   have hsd:=hs l[i] (List.getElem_mem hi)
   have hp:=codeO_le hd hsd
   have e4:iadd .i64 (i:Int) 1=((i+1:Nat):Int):=iadd_nat (by omega)
   have ed:l.drop i=l[i]::l.drop (i+1):=List.drop_eq_getElem_cons hi
   rw [decide_eq_true hi,rd_at' (e:=tOp) hi,ocode_is k hd hsd hk hk2,e4,ed,List.flatMap_cons]
   simp only [br_true,bnd_some]
   rw [roomS_ok (by omega) (by omega),br_true]
   refine (tocode_l k l hr hs hl hk hk2 n (i+1) _ (by omega) (by omega) (by unfold app;rw [List.length_append];omega)).trans ?_
   unfold app;rw [List.append_assoc]
  ·have e0:l.drop i=[]:=List.drop_eq_nil_of_le (by omega)
   rw [decide_eq_false hi,br_false,e0];simp
theorem txcode_is (k : Nat) {t : Txn} (h : OkT k t) (hs : ShortT t) (hk : 5000 < k) (hk2 : k < 1000000) : z2m.f k t = some (codeTx t) := by
  have h1 := codeD_le h.dot
  have hu := h.user; have ht := h.time; have ho := h.ops
  have h2 := packB_le (n := t.2.1.toNat) (by omega)
  have h3 := packB_le (n := t.2.2.1.toNat) (by omega)
  have h4 : ∀ b, (packB (thinN b)).length ≤ 8 := fun b => packB_le (n := thinN b) (by unfold thinN; split <;> omega)
  have h5 := packB_le (n := t.2.2.2.2.length) (by omega)
  have e : (ilen t.2.2.2.2).toNat = t.2.2.2.2.length := rfl
  have q1 : packI 1 = some (packB (thinN true)) := pI 1 (by decide)
  have q0 : packI 0 = some (packB (thinN false)) := pI 0 (by decide)
  have key : ∀ b, (br (roomS (codeD t.1) (packB t.2.1.toNat))
      (br (roomS (app (codeD t.1) (packB t.2.1.toNat)) (packB t.2.2.1.toNat))
        (br (roomS (app (app (codeD t.1) (packB t.2.1.toNat)) (packB t.2.2.1.toNat)) (packB (thinN b)))
          (br (roomS (app (app (app (codeD t.1) (packB t.2.1.toNat)) (packB t.2.2.1.toNat)) (packB (thinN b))) (packB t.2.2.2.2.length))
            (z2m.l6 k k (app (app (app (app (codeD t.1) (packB t.2.1.toNat)) (packB t.2.2.1.toNat)) (packB (thinN b))) (packB t.2.2.2.2.length)) t.2.2.2.2 (ilen t.2.2.2.2) 0)
            none)
          none)
        none)
      none) = some (codeD t.1 ++ (packB t.2.1.toNat ++ (packB t.2.2.1.toNat ++ (packB (thinN b) ++ (packB t.2.2.2.2.length ++ t.2.2.2.2.flatMap codeO))))) := by
    intro b
    have h4 := h4 b
    rw [roomS_ok (by omega) (by omega), br_true, roomS_ok (by unfold app; simp only [List.length_append]; omega) (by omega), br_true, roomS_ok (by unfold app; simp only [List.length_append]; omega) (by omega), br_true, roomS_ok (by unfold app; simp only [List.length_append]; omega) (by omega), br_true]
    refine (tocode_l k t.2.2.2.2 h.each hs.ops (by omega) hk hk2 k 0 _ (by omega) (by omega) (by unfold app; simp only [List.length_append]; omega)).trans ?_
    rw [List.drop_zero]; unfold app; simp only [List.append_assoc]
  rw [z2m.f_eq, dcode_is k h.dot, packI_is (n := t.2.1) (by omega), packI_is (n := t.2.2.1) (by omega), packI_is (n := ilen t.2.2.2.2) (by unfold ilen; omega), e, q1, q0]
  unfold codeTx
  simp only [bnd_some]
  cases t.2.2.2.1 with
  | true => rw [br_true]; exact key true
  | false => rw [br_false]; exact key false
def codeTL (l:List Txn):List UInt8:=packB l.length++l.flatMap codeTx
theorem codeTL_le {k:Nat} {l:List Txn} (h:∀ t ∈ l,OkT k t) (hs:∀ t ∈ l,ShortT t) (hl:l.length≤20):(codeTL l).length≤2600008:=by
 have hp:=packB_le (n:=l.length) (by omega)
 have:=codes_le codeTx 130000 l (fun t ht=>codeTx_le (h t ht) (hs t ht))
 unfold codeTL;rw [List.length_append];omega
theorem tlcode_l (k:Nat) (l:List Txn) (hr:∀ t ∈ l,OkT k t) (hs:∀ t ∈ l,ShortT t) (hl:l.length≤20) (hk:5000<k) (hk2:k<1000000):∀ (n i:Nat) (x:List UInt8),i≤l.length→l.length<n+i→x.length≤100+130000 * i→z2g.l3 k n x l (ilen l) (i:Int)=some (x++(l.drop i).flatMap codeTx)
 | 0,i,_,h,h',_=>by omega
 | n+1,i,x,h,h',hx=>by
  rw [z2g.l3_eq,ilt_nat,inL_nat,natOf_nat]
  by_cases hi:i<l.length
  ·have hd:=hr l[i] (List.getElem_mem hi)
   have hsd:=hs l[i] (List.getElem_mem hi)
   have hp:=codeTx_le hd hsd
   have e4:iadd .i64 (i:Int) 1=((i+1:Nat):Int):=iadd_nat (by omega)
   have ed:l.drop i=l[i]::l.drop (i+1):=List.drop_eq_getElem_cons hi
   rw [decide_eq_true hi,rd_at' (e:=tTxn) hi,txcode_is k hd hsd hk hk2,e4,ed,List.flatMap_cons]
   simp only [br_true,bnd_some]
   rw [roomS_ok (by omega) (by omega),br_true]
   refine (tlcode_l k l hr hs hl hk hk2 n (i+1) _ (by omega) (by omega) (by unfold app;rw [List.length_append];omega)).trans ?_
   unfold app;rw [List.append_assoc]
  ·have e0:l.drop i=[]:=List.drop_eq_nil_of_le (by omega)
   rw [decide_eq_false hi,br_false,e0];simp
theorem tlcode_is (k:Nat) {l:List Txn} (hr:∀ t ∈ l,OkT k t) (hs:∀ t ∈ l,ShortT t) (hl:l.length≤20) (hk:5000<k) (hk2:k<1000000):z2g.f k l=some (codeTL l):=by
 have e:(ilen l).toNat=l.length:=rfl
 have hp:=packB_le (n:=l.length) (by omega)
 rw [z2g.f_eq,packI_is (n:=ilen l) (by unfold ilen;omega),e,bnd_some]
 exact tlcode_l k l hr hs hl hk hk2 k 0 _ (by omega) (by omega) (by omega)
end Go.Proofs.YtggcagclpkhlhaaGreatDoor
end
noncomputable section
/- A state that may be is read as it was told. -/
namespace Go.Proofs.YtggcagclpkhlhaaGreatDoor
open Pal
def codeSt (s:Sta):List UInt8:=codeTL s.1++(codeT s.2.1++(codeS s.2.2.2.1++s.2.2.2.2.flatMap codeL))
theorem RightS.ok {k:Nat} {s:Sta} (h:RightS k s) (hsh:∀ t ∈ s.1,ShortT t) (hk:1000<k) (hk2:k<1000000):∀ t ∈ s.1,OkT k t:=fun t ht=>by
 have st:=(hsh t ht).siz hk
 obtain ⟨e,g1,g2⟩:=txn_is k t st.each st.ops (by omega) hk2
 rw [h.chk t ht] at g2
 injection g2 with g2
 exact txn_ok k t st (by omega) hk2 (by rw [g1,← g2])
theorem redo_le {R:List (List Dot)} (h:∀ l ∈ R,l.length≤40∧∀ d ∈ l,rightD d=true) (h8:R.length≤8):(R.flatMap codeL).length≤5184:=by
 have:=codes_le codeL 648 R (fun l hl=>by
  obtain ⟨h1,h2⟩:=h l hl
  have:=codeL_le h2 (by omega);omega)
 omega
theorem sstcode_l (k:Nat) (R:List (List Dot)) (h8:R.length=8) (hr:∀ l ∈ R,l.length≤40∧∀ d ∈ l,rightD d=true) (hk:5000<k) (hk2:k<1000000):∀ (n i:Nat) (x:List UInt8),i≤8→8<n+i→x.length≤3000000+648 * i→z1u.l3 k n x R (i:Int)=some (x++(R.drop i).flatMap codeL)
 | 0,i,_,h,h',_=>by omega
 | n+1,i,x,h,h',hx=>by
  rw [z1u.l3_eq,show ilt (i:Int) 8=decide (i<8) from ilt_nn i 8,inB_nat,natOf_nat]
  by_cases hi:i<8
  ·have hi':i<R.length:=by omega
   obtain ⟨hd1,hd2⟩:=hr R[i] (List.getElem_mem hi')
   have hp:=codeL_le hd2 (by omega)
   have e4:iadd .i64 (i:Int) 1=((i+1:Nat):Int):=iadd_nat (by omega)
   have ed:R.drop i=R[i]::R.drop (i+1):=List.drop_eq_getElem_cons hi'
   rw [decide_eq_true hi,rd_at' (e:=.slc tDot) hi',lcode_is k hd2 (by omega) hk2,e4,ed,List.flatMap_cons]
   simp only [br_true,bnd_some]
   rw [roomS_ok (by omega) (by omega),br_true]
   refine (sstcode_l k R h8 hr hk hk2 n (i+1) _ (by omega) (by omega) (by unfold app;rw [List.length_append];omega)).trans ?_
   unfold app;rw [List.append_assoc]
  ·have e0:R.drop i=[]:=List.drop_eq_nil_of_le (by omega)
   rw [decide_eq_false hi,br_false,e0];simp
theorem ShortS.redoR {k:Nat} {s:Sta} (h:ShortS s) (hr:RightS k s):∀ l ∈ s.2.2.2.2,l.length≤40∧∀ d ∈ l,rightD d=true:=fun l hl=>⟨h.redo l hl,(hr.redo l hl).2⟩
theorem stcode_is (k:Nat) {s:Sta} (sh:ShortS s) (hr:RightS k s) (h8:s.2.2.2.2.length=8) (hk:5000<k) (hk2:k<1000000):z1u.f k s=some (codeSt s)∧(codeSt s).length≤2700000:=by
 have ho:=hr.ok sh.each (by omega) hk2
 have l1:=codeTL_le ho sh.each sh.tx
 have l2:=codeT_le hr.un.rt sh.un (by omega)
 have l3:=codeS_le hr.se.1 sh.se (by omega)
 have l4:=redo_le (sh.redoR hr) (by omega)
 have hun:=sh.un;have hse:=sh.se
 constructor
 ·rw [z1u.f_eq,tlcode_is k ho sh.each sh.tx hk hk2,bnd_some,tcode_is k hr.un.rt (by omega) hk2,bnd_some,roomS_ok (by omega) (by omega),br_true,scode_is k hr.se.1 (by omega) (by omega) hk2,bnd_some,roomS_ok (by unfold app;rw [List.length_append];omega) (by omega),br_true]
  refine (sstcode_l k s.2.2.2.2 h8 (sh.redoR hr) hk hk2 k 0 _ (by omega) (by omega) (by unfold app;simp only [List.length_append];omega)).trans ?_
  rw [List.drop_zero];unfold app codeSt;simp only [List.append_assoc]
 ·unfold codeSt;simp only [List.length_append];omega
end Go.Proofs.YtggcagclpkhlhaaGreatDoor
end
noncomputable section
/- Deltas: the program and the document read the same, and test the same; what is told is read again. -/
namespace Go.Proofs.YtggcagclpkhlhaaGreatDoor
open Pal
def codeDl (d:Dlt):List UInt8:=codeTL d.1++(codeT d.2.1++codeL d.2.2)
theorem RightDl.ok {k:Nat} {d:Dlt} (h:RightDl k d) (hsh:∀ t ∈ d.1,ShortT t) (hk:1000<k) (hk2:k<1000000):∀ t ∈ d.1,OkT k t:=fun t ht=>by
 have st:=(hsh t ht).siz hk
 obtain ⟨e,g1,g2⟩:=txn_is k t st.each st.ops (by omega) hk2
 rw [h.chk t ht] at g2
 injection g2 with g2
 exact txn_ok k t st (by omega) hk2 (by rw [g1,← g2])
theorem dlcode_is (k:Nat) {d:Dlt} (sh:ShortD d) (hr:RightDl k d) (hk:5000<k) (hk2:k<1000000):z0s.f k d=some (codeDl d)∧(codeDl d).length≤2700000:=by
 have ho:=hr.ok sh.each (by omega) hk2
 have l1:=codeTL_le ho sh.each sh.tx
 have l2:=codeT_le hr.un.rt sh.un (by omega)
 have l3:=codeL_le hr.se (by have:=sh.se;omega)
 have hun:=sh.un;have hse:=sh.se
 constructor
 ·rw [z0s.f_eq,tlcode_is k ho sh.each sh.tx hk hk2,tcode_is k hr.un.rt (by omega) hk2,lcode_is k hr.se (by omega) hk2]
  simp only [bnd_some]
  rw [roomS_ok (by omega) (by omega),br_true,roomS_ok (by unfold app;rw [List.length_append];omega) (by omega),br_true]
  unfold app codeDl;simp only [List.append_assoc]
 ·unfold codeDl;simp only [List.length_append];omega
end Go.Proofs.YtggcagclpkhlhaaGreatDoor
end
noncomputable section
/- Records: whether one may be; the program and the document parse the same. -/
namespace Go.Proofs.YtggcagclpkhlhaaGreatDoor
open Pal
abbrev Rec:=Ty.D tRecord
structure SizR (k n:Nat) (x:Rec):Prop where
 t:SizT k x.2.1
 d:LenD n x.2.2.2.2.2.1
 dt:∀ t ∈ x.2.2.2.2.2.1.1,SizT k t
 s:LenS n x.2.2.2.2.2.2
 st:∀ t ∈ x.2.2.2.2.2.2.1,SizT k t
 s8:x.2.2.2.2.2.2.2.2.2.2.length=8
 v1:x.2.2.2.2.2.2.2.2.1.1.length=16
 v2:x.2.2.2.2.2.2.2.2.2.1.1.length=16
theorem SizR.of {k n:Nat} {K u b:Int} {t:Txn} {U:Undo} {d:Dlt} {s:Sta} (ht:SizT k t) (hd:LenD n d) (hdt:∀ t ∈ d.1,SizT k t) (hs:LenS n s) (hst:∀ t ∈ s.1,SizT k t) (h8:s.2.2.2.2.length=8) (h1:s.2.2.1.1.length=16) (h2:s.2.2.2.1.1.length=16):SizR k n (K,(t,(u,(U,(b,(d,s)))))):=⟨ht,hd,hdt,hs,hst,h8,h1,h2⟩
theorem dchks_l (k:Nat) (l:List Txn) (ho:∀ t ∈ l,SizT k t) (hl:l.length<1000000) (hk:10<k) (hk2:k<1000000):∀ (n i:Nat),i≤l.length→l.length<n+i →
  ∃ r:Int,z08.l2 k n l (ilen l) (i:Int)=some r∧(0≤r ↔ ¬ ∀ t ∈ l.drop i,z0z.f k t=some 0)
 | 0,i,_,h=>by omega
 | n+1,i,h,h'=>by
  rw [z08.l2_eq,ilt_nat,inL_nat,natOf_nat]
  by_cases hi:i<l.length
  ·have st:=ho _ (List.getElem_mem hi)
   obtain ⟨e,g1,g2⟩:=txn_is k l[i] st.each st.ops hk hk2
   rw [decide_eq_true hi,br_true,br_true,rd_at' (e:=tTxn) hi,z0l.f_eq,g1,bnd_some,bnd_some,iadd_nat (by omega),ieq_dec,bnot_dec,List.drop_eq_getElem_cons hi]
   by_cases h0:e=0
   ·subst h0
    rw [decide_eq_false (by simp),br_false]
    obtain ⟨r,q1,q2⟩:=dchks_l k l ho hl hk hk2 n (i+1) (by omega) (by omega)
    refine ⟨r,q1,q2.trans (not_congr ⟨fun h t ht=>?_,fun h t ht=>h t (List.mem_cons_of_mem _ ht)⟩)⟩
    rcases List.mem_cons.1 ht with rfl | ht
    ·exact g2
    ·exact h t ht
   ·rw [decide_eq_true h0,br_true]
    refine ⟨(i:Int),rfl,⟨fun _ h=>h0 ?_,fun _=>by omega⟩⟩
    have:=h l[i] List.mem_cons_self
    rw [g2] at this;injection this
  ·rw [decide_eq_false hi,br_false,List.drop_eq_nil_of_le (by omega)]
   exact ⟨-1,rfl,⟨fun h=>by omega,fun h=>absurd (fun t ht=>by simp at ht) h⟩⟩
theorem drds_l (k:Nat) (l:List Dot) (hl:l.length<1000000):∀ (n i:Nat),i≤l.length→l.length<n+i →
  ∃ r:Int,z07.l2 k n l (ilen l) (i:Int)=some r∧(0≤r ↔ ¬ ∀ d ∈ l.drop i,rightD d=true)
 | 0,i,_,h=>by omega
 | n+1,i,h,h'=>by
  rw [z07.l2_eq,ilt_nat,inL_nat,natOf_nat]
  by_cases hi:i<l.length
  ·rw [decide_eq_true hi,br_true,br_true,rd_at' (e:=tDot) hi,z0k.f_eq,right_is,bnd_some,bnd_some,iadd_nat (by omega),List.drop_eq_getElem_cons hi]
   cases hr:rightD l[i] with
   | true =>
    obtain ⟨r,q1,q2⟩:=drds_l k l hl n (i+1) (by omega) (by omega)
    refine ⟨r,q1,q2.trans (not_congr ⟨fun h t ht=>?_,fun h t ht=>h t (List.mem_cons_of_mem _ ht)⟩)⟩
    rcases List.mem_cons.1 ht with rfl | ht
    ·exact hr
    ·exact h t ht
   | false =>
    refine ⟨(i:Int),rfl,⟨fun _ h=>?_,fun _=>by omega⟩⟩
    have:=h l[i] List.mem_cons_self
    rw [hr] at this;cases this
  ·rw [decide_eq_false hi,br_false,List.drop_eq_nil_of_le (by omega)]
   exact ⟨-1,rfl,⟨fun h=>by omega,fun h=>absurd (fun t ht=>by simp at ht) h⟩⟩
theorem tdl_is (k:Nat) (d:Dlt) (ho:∀ t ∈ d.1,SizT k t) (hul:d.2.1.length<k) (hsl:d.2.2.length<k) (hk:5000<k) (hk2:k<1000000):∃ b,z0t.f k d=some b∧(b=true ↔ RightDl k d):=by
 rw [z0t.f_eq,show ile (ilen d.1) 1000=decide (d.1.length≤1000) from ile_len 1000 d.1]
 by_cases hm:d.1.length≤1000
 case neg=>rw [decide_eq_false hm];exact ⟨false,rfl,⟨fun h=>(by cases h),fun h=>absurd h.many hm⟩⟩
 rw [decide_eq_true hm,br_true]
 obtain ⟨b1,g1,i1⟩:=trises_is k d.1 (by omega) (by omega) hk2
 obtain ⟨b2,g2,i2⟩:=trightU2_is k d.2.1 (by omega) hul hk2
 obtain ⟨r,g3,i3⟩:=dchks_l k d.1 ho (by omega) (by omega) hk2 k 0 (by omega) (by omega)
 obtain ⟨q,g4,i4⟩:=drds_l k d.2.2 (by omega) k 0 (by omega) (by omega)
 rw [show ((0:Nat):Int)=0 from rfl] at g3 g4
 rw [List.drop_zero] at i3 i4
 have bt:bnot true=false:=rfl
 have bf:bnot false=true:=rfl
 rw [g1,bnd_some]
 cases b1 with
 | false=>rw [br_false];exact ⟨false,rfl,⟨fun h=>(by cases h),fun h=>i1.2 h.ris⟩⟩
 | true =>
 rw [br_true,z03.f_eq,z08.f_eq,g3,bnd_some,bnd_some,show ile 0 r=decide (0≤r) from rfl]
 by_cases hr:0≤r
 ·rw [decide_eq_true hr,bt,br_false];exact ⟨false,rfl,⟨fun h=>(by cases h),fun h=>absurd h.chk (i3.1 hr)⟩⟩
 have hc:∀ t ∈ d.1,z0z.f k t=some 0:=Classical.byContradiction fun h=>hr (i3.2 h)
 rw [decide_eq_false hr,bf,br_true,g2,bnd_some]
 cases b2 with
 | false=>rw [br_false];exact ⟨false,rfl,⟨fun h=>(by cases h),fun h=>i2.2 h.un⟩⟩
 | true =>
 rw [br_true,z04.f_eq,z07.f_eq,g4,bnd_some,bnd_some,show ile 0 q=decide (0≤q) from rfl]
 by_cases hq:0≤q
 ·rw [decide_eq_true hq,bt];exact ⟨false,rfl,⟨fun h=>(by cases h),fun h=>absurd h.se (i4.1 hq)⟩⟩
 ·have hd:∀ x ∈ d.2.2,rightD x=true:=Classical.byContradiction fun h=>hq (i4.2 h)
  rw [decide_eq_false hq,bf]
  exact ⟨true,rfl,⟨fun _=>⟨hm,i1.1 rfl,i2.1 rfl,hc,hd⟩,fun _=>rfl⟩⟩
theorem recright_is (k:Nat) (x:Rec) {n:Nat} (sz:SizR k n x) (hn:n<k) (hk:5000<k) (hk2:k<1000000):∃ b,z0v.f k x=some b∧z11.f k x=some b:=by
 have d1:=sz.d.un;have d2:=sz.d.se;have s1:=sz.s.un;have s2:=sz.s.kn
 obtain ⟨e,t1,t2⟩:=txn_is k x.2.1 sz.t.each sz.t.ops (by omega) hk2
 obtain ⟨b1,u1,w1⟩:=trightU2_is k (x.2.2.2.1::[]) (by omega) (by simp;omega) hk2
 obtain ⟨b2,u2,w2⟩:=rrightU_is k (x.2.2.2.1::[]) (by simp;omega) hk2
 have hbb:b1=b2:=by rw [Bool.eq_iff_iff,w1,w2]
 subst hbb
 obtain ⟨b3,q1,i1⟩:=tdl_is k x.2.2.2.2.2.1 sz.dt (by omega) (by omega) hk hk2
 obtain ⟨b4,q2,i2⟩:=rrightDl_isG k x.2.2.2.2.2.1 (fun t ht=>(sz.dt t ht).chk (by omega) hk2) (by omega) (by omega) hk hk2
 have hcc:b3=b4:=by rw [Bool.eq_iff_iff,i1,i2]
 subst hcc
 obtain ⟨b5,y1,j1⟩:=state_is k x.2.2.2.2.2.2 sz.v1 sz.v2 sz.s8 (fun t ht=>⟨(sz.st t ht).ops,(sz.st t ht).each⟩) (fun l hl=>by have:=sz.s.re l hl;omega) (by omega) (by omega) hk hk2
 obtain ⟨b6,y2,j2⟩:=rrightS_isG k x.2.2.2.2.2.2 sz.v1 sz.v2 sz.s8 (fun t ht=>(sz.st t ht).chk (by omega) hk2) (fun l hl=>by have:=sz.s.re l hl;omega) (by omega) hk hk2
 have hdd:b5=b6:=by rw [Bool.eq_iff_iff,j1,j2]
 subst hdd
 rw [z0v.f_eq,z11.f_eq,t1,t2,u1,u2,q1,q2,y1,y2,z13.f_eq]
 simp only [bnd_some]
 rw [show ile x.2.2.1 7=ilt x.2.2.1 8 from decide_eq_decide.2 ⟨fun h=>by omega,fun h=>by omega⟩]
 cases ieq x.1 1 with
 | true=>exact ⟨_,rfl,rfl⟩
 | false =>
 simp only [br_false]
 cases ieq x.1 2 with
 | true =>
  simp only [br_true]
  cases ile 0 x.2.2.1 with
  | false=>exact ⟨false,rfl,rfl⟩
  | true =>
   simp only [br_true,bnd_some]
   cases ilt x.2.2.1 8 with
   | false=>exact ⟨false,rfl,rfl⟩
   | true =>
    simp only [br_true]
    cases b1 with
    | false=>exact ⟨false,rfl,rfl⟩
    | true =>
     simp only [br_true]
     cases ile 0 x.2.2.2.2.1 <;> exact ⟨_,rfl,rfl⟩
 | false =>
 simp only [br_false]
 cases ieq x.1 3 with
 | true=>exact ⟨_,rfl,rfl⟩
 | false =>
 simp only [br_false]
 cases ieq x.1 4 <;> exact ⟨_,rfl,rfl⟩
end Go.Proofs.YtggcagclpkhlhaaGreatDoor
end
noncomputable section
/- Records that may be are parsed as they were told. -/
namespace Go.Proofs.YtggcagclpkhlhaaGreatDoor
open Pal
theorem txn_of (k:Nat) {t:Txn} (st:SizT k t) (hk:10<k) (hk2:k<1000000) (c:z0z.f k t=some 0):OkT k t:=by
 obtain ⟨e,g1,g2⟩:=txn_is k t st.each st.ops hk hk2
 exact txn_ok k t st hk hk2 (g1.trans (g2.symm.trans c))
structure ShortR (x:Rec):Prop where
 t:ShortT x.2.1
 d:ShortD x.2.2.2.2.2.1
 s:ShortS x.2.2.2.2.2.2
theorem rshortR_is (k:Nat) (x:Rec) (h8:x.2.2.2.2.2.2.2.2.2.2.length=8) (hk:1000<k) (hk2:k<1000000):∃ b,z0N.f k x=some b∧(b=true→ShortR x):=by
 obtain ⟨b1,g1,i1⟩:=rtxnshort_is k x.2.1 hk hk2
 obtain ⟨b2,g2,i2⟩:=rshortDl_is k x.2.2.2.2.2.1 hk hk2
 obtain ⟨b3,g3,i3⟩:=rshortS_is k x.2.2.2.2.2.2 h8 hk hk2
 rw [z0N.f_eq,g1,g2,g3]
 simp only [bnd_some]
 cases b1 with
 | false=>exact ⟨false,rfl,fun h=>by cases h⟩
 | true =>
  cases b2 with
  | false=>exact ⟨false,rfl,fun h=>by cases h⟩
  | true=>exact ⟨b3,rfl,fun h=>⟨i1 rfl,i2 rfl,i3 h⟩⟩
theorem ShortR.siz {k:Nat} {x:Rec} (h:ShortR x) (hk:1000<k) (h8:x.2.2.2.2.2.2.2.2.2.2.length=8) (h1:x.2.2.2.2.2.2.2.2.1.1.length=16) (h2:x.2.2.2.2.2.2.2.2.2.1.1.length=16):SizR k 100 x :=
 ⟨h.t.siz hk,h.d.len,fun t ht=>(h.d.each t ht).siz hk,h.s.len,fun t ht=>(h.s.each t ht).siz hk,h8,h1,h2⟩
theorem recright_inv (k:Nat) {x:Rec} {n:Nat} (sz:SizR k n x) (hn:n<k) (hk:5000<k) (hk2:k<1000000) (h:z11.f k x=some true) :
  (x.1=1∧z0z.f k x.2.1=some 0)∨(x.1=2∧(0≤x.2.2.1∧x.2.2.1<8)∧CanU (x.2.2.2.1::[])∧(0≤x.2.2.2.2.1∧x.2.2.2.2.1≤2))∨(x.1=3∧RightDl k x.2.2.2.2.2.1)∨(x.1=4∧RightS k x.2.2.2.2.2.2):=by
 have d1:=sz.d.un;have d2:=sz.d.se;have s1:=sz.s.un;have s2:=sz.s.kn
 obtain ⟨e,t1,t2⟩:=txn_is k x.2.1 sz.t.each sz.t.ops (by omega) hk2
 obtain ⟨b2,u2,w2⟩:=rrightU_is k (x.2.2.2.1::[]) (by simp;omega) hk2
 obtain ⟨b4,q2,i2⟩:=rrightDl_isG k x.2.2.2.2.2.1 (fun t ht=>(sz.dt t ht).chk (by omega) hk2) (by omega) (by omega) hk hk2
 obtain ⟨b6,y2,j2⟩:=rrightS_isG k x.2.2.2.2.2.2 sz.v1 sz.v2 sz.s8 (fun t ht=>(sz.st t ht).chk (by omega) hk2) (fun l hl=>by have:=sz.s.re l hl;omega) (by omega) hk hk2
 rw [z11.f_eq,t2,u2,q2,y2] at h
 simp only [bnd_some] at h
 rw [ieq_dec,ieq_dec,ieq_dec,ieq_dec,ieq_dec] at h
 by_cases h1:x.1=1
 ·rw [decide_eq_true h1,br_true] at h
  injection h with h
  exact .inl ⟨h1,by rw [t2,of_decide_eq_true h]⟩
 rw [decide_eq_false h1,br_false] at h
 by_cases h2:x.1=2
 ·rw [decide_eq_true h2,br_true,show ile 0 x.2.2.1=decide (0≤x.2.2.1) from rfl,show ile x.2.2.1 7=decide (x.2.2.1≤7) from rfl,show ile 0 x.2.2.2.2.1=decide (0≤x.2.2.2.2.1) from rfl,show ile x.2.2.2.2.1 2=decide (x.2.2.2.2.1≤2) from rfl] at h
  by_cases c1:0≤x.2.2.1
  case neg=>rw [decide_eq_false c1,br_false] at h;cases h
  rw [decide_eq_true c1,br_true] at h
  by_cases c2:x.2.2.1≤7
  case neg=>rw [decide_eq_false c2,br_false] at h;cases h
  rw [decide_eq_true c2,br_true] at h
  cases b2 with
  | false=>rw [br_false] at h;cases h
  | true =>
  rw [br_true] at h
  by_cases c3:0≤x.2.2.2.2.1
  case neg=>rw [decide_eq_false c3,br_false] at h;cases h
  rw [decide_eq_true c3,br_true] at h
  injection h with h
  exact .inr (.inl ⟨h2,⟨c1,Int.lt_of_le_of_lt c2 (by decide)⟩,w2.1 rfl,c3,of_decide_eq_true h⟩)
 rw [decide_eq_false h2,br_false] at h
 by_cases h3:x.1=3
 ·rw [decide_eq_true h3,br_true] at h
  injection h with h
  exact .inr (.inr (.inl ⟨h3,i2.1 h⟩))
 rw [decide_eq_false h3,br_false] at h
 by_cases h4:x.1=4
 ·rw [decide_eq_true h4,br_true] at h
  injection h with h
  exact .inr (.inr (.inr ⟨h4,j2.1 h⟩))
 rw [decide_eq_false h4,br_false] at h
 cases h
def codeTu (x:Rec):List UInt8:=packB x.2.2.1.toNat++(codeD x.2.2.2.1.1++(packB x.2.2.2.1.2.toNat++packB x.2.2.2.2.1.toNat))
def codeRb (x:Rec):List UInt8:=if x.1=1 then codeTx x.2.1 else if x.1=2 then codeTu x else if x.1=3 then codeDl x.2.2.2.2.2.1 else codeSt x.2.2.2.2.2.2
def codeR (x:Rec):List UInt8:=packB x.1.toNat++codeRb x
section
variable (k:Nat) (hk:5000<k) (hk2:k<1000000)
include hk hk2
theorem rcd_1 (t:Txn) (u:Int) (U:Undo) (b:Int) (d:Dlt) (s:Sta) (ho:OkT k t) (hs:ShortT t):z0S.f k (1,(t,(u,(U,(b,(d,s))))))=some (packB 1++codeTx t)∧(codeTx t).length≤2700000:=by
 have h0:packI 1=some (packB 1):=pI 1 (by decide)
 have hl:=codeTx_le ho hs
 have hp:=packB_le (n:=1) (by omega)
 rw [z0S.f_eq]
 simp only [h0,bnd_some,show ieq (1:Int) 1=true from rfl,br_true,txcode_is k ho hs hk hk2]
 rw [roomS_ok (by omega) (by omega)]
 exact ⟨rfl,by omega⟩
theorem rcd_2 (t:Txn) (u:Int) (U:Undo) (b:Int) (d:Dlt) (s:Sta) (hu:0≤u∧u<8) (hU:rightU U=true) (hb:0≤b∧b≤2):z0S.f k (2,(t,(u,(U,(b,(d,s))))))=some (packB 2++(packB u.toNat++(codeD U.1++(packB U.2.toNat++packB b.toNat)))):=by
 have h0:packI 2=some (packB 2):=pI 2 (by decide)
 obtain ⟨h1,h2,h3⟩:=(rightU_iff U).1 hU
 have p0:=packB_le (n:=2) (by omega)
 have p1:=packB_le (n:=u.toNat) (by omega)
 have p2:=codeD_le h1
 have p3:=packB_le (n:=U.2.toNat) (by omega)
 have p4:=packB_le (n:=b.toNat) (by omega)
 rw [z0S.f_eq]
 simp only [h0,bnd_some,show ieq (2:Int) 1=false from rfl,show ieq (2:Int) 2=true from rfl,br_true,br_false,packI_is (n:=u) (by omega),dcode_is k h1,packI_is (n:=U.2) (by omega),packI_is (n:=b) (by omega)]
 rw [roomS_ok (by omega) (by omega),br_true,roomS_ok (by unfold app;simp only [List.length_append];omega) (by omega),br_true,roomS_ok (by unfold app;simp only [List.length_append];omega) (by omega),br_true,roomS_ok (by unfold app;simp only [List.length_append];omega) (by omega),br_true]
 unfold app;simp only [List.append_assoc]
theorem rcd_3 (t:Txn) (u:Int) (U:Undo) (b:Int) (d:Dlt) (s:Sta) (sh:ShortD d) (hr:RightDl k d):z0S.f k (3,(t,(u,(U,(b,(d,s))))))=some (packB 3++codeDl d):=by
 have h0:packI 3=some (packB 3):=pI 3 (by decide)
 obtain ⟨e,hl⟩:=dlcode_is k sh hr hk hk2
 have hp:=packB_le (n:=3) (by omega)
 rw [z0S.f_eq]
 simp only [h0,bnd_some,show ieq (3:Int) 1=false from rfl,show ieq (3:Int) 2=false from rfl,show ieq (3:Int) 3=true from rfl,br_true,br_false,e]
 rw [roomS_ok (by omega) (by omega)];rfl
theorem rcd_4 (t:Txn) (u:Int) (U:Undo) (b:Int) (d:Dlt) (s:Sta) (sh:ShortS s) (hr:RightS k s) (h8:s.2.2.2.2.length=8):z0S.f k (4,(t,(u,(U,(b,(d,s))))))=some (packB 4++codeSt s):=by
 have h0:packI 4=some (packB 4):=pI 4 (by decide)
 obtain ⟨e,hl⟩:=stcode_is k sh hr h8 hk hk2
 have hp:=packB_le (n:=4) (by omega)
 rw [z0S.f_eq]
 simp only [h0,bnd_some,show ieq (4:Int) 1=false from rfl,show ieq (4:Int) 2=false from rfl,show ieq (4:Int) 3=false from rfl,br_true,br_false,e]
 rw [roomS_ok (by omega) (by omega)];rfl
end
theorem reccode_is (k:Nat) {x:Rec} (sh:ShortR x) (sz:SizR k 100 x) (hk:5000<k) (hk2:k<1000000) (h:z11.f k x=some true):z0S.f k x=some (codeR x):=by
 have inv:=recright_inv k sz (by omega) hk hk2 h
 have s8:=sz.s8;have sz1:=sz.t
 obtain ⟨sT,sD,sS⟩:=sh
 clear h sz
 obtain ⟨K,t,u,U,b,d,s⟩:=x
 simp only at inv sT sD sS s8 sz1
 unfold codeR codeRb codeTu
 rcases inv with ⟨rfl,c⟩ | ⟨rfl,c1,c2,c3⟩ | ⟨rfl,c⟩ | ⟨rfl,c⟩
 ·exact (rcd_1 k hk hk2 t u U b d s (txn_of k sz1 (by omega) hk2 c) sT).1
 ·exact rcd_2 k hk hk2 t u U b d s c1 (c2.rt _ (by simp)) c3
 ·exact rcd_3 k hk hk2 t u U b d s sD c
 ·exact rcd_4 k hk hk2 t u U b d s sS c s8
section
variable (k:Nat) (hk:5000<k) (hk2:k<1000000)
include hk hk2
end
end Go.Proofs.YtggcagclpkhlhaaGreatDoor
end
noncomputable section
/- The document's bytes are the program's. -/
namespace Go.Proofs.YtggcagclpkhlhaaGreatDoor
open Pal
theorem rdcode_is (k:Nat) {d:Dot} (h:rightD d=true):z1C.f k d=some (codeD d):=by
 obtain ⟨h1,h2,h3,h4⟩:=rightD_rng h
 have p1:=packB_le (n:=d.1.toNat) (by omega)
 have p2:=packB_le (n:=d.2.toNat) (by omega)
 rw [z1C.f_eq,packI_is (n:=d.1) (by omega),packI_is (n:=d.2) (by omega)]
 simp only [bnd_some]
 rw [roomS_ok (by omega) (by omega)];rfl
theorem rtext_code (k:Nat) (s:Str) (h:List.length s<1000000):z1r.f k s=some (codeX s):=by
 have e:(ilen s).toNat=List.length s:=rfl
 have hp:=packB_le (n:=List.length s) (by omega)
 rw [z1r.f_eq,packI_is (n:=ilen s) (by unfold ilen;omega),e,bnd_some,roomS_ok (by omega) (by omega)];rfl
theorem rpcode_l (k:Nat) (p:List Str) (hs:∀ s ∈ p,List.length s≤120) (hl:p.length<10000):∀ (n i:Nat) (x:List UInt8),i≤p.length→p.length<n+i→x.length≤100+128 * i→z1g.l3 k n p x (i:Int)=some (x++(p.drop i).flatMap codeX)
 | 0,i,_,h,h',_=>by omega
 | n+1,i,x,h,h',hx=>by
  rw [z1g.l3_eq,ilt_nat,inL_nat,natOf_nat]
  by_cases hi:i<p.length
  ·have hd:=hs p[i] (List.getElem_mem hi)
   have hp:=codeX_len p[i] (by omega)
   have e4:iadd .i64 (i:Int) 1=((i+1:Nat):Int):=iadd_nat (by omega)
   have ed:p.drop i=p[i]::p.drop (i+1):=List.drop_eq_getElem_cons hi
   rw [decide_eq_true hi,rd_at' (e:=.str) hi,rtext_code k _ (by omega),e4,ed,List.flatMap_cons]
   simp only [br_true,bnd_some]
   rw [roomS_ok (by omega) (by omega),br_true]
   refine (rpcode_l k p hs hl n (i+1) _ (by omega) (by omega) (by unfold app;rw [List.length_append];omega)).trans ?_
   unfold app;rw [List.append_assoc]
  ·have e0:p.drop i=[]:=List.drop_eq_nil_of_le (by omega)
   rw [decide_eq_false hi,br_false,e0];simp
theorem rpcode_is (k:Nat) {p:List Str} (h:ShortP p) (hk:12<k) (hk2:k<1000000):z1g.f k p=some (codeP p):=by
 have h1:=h.1
 have e:(ilen p).toNat=p.length:=rfl
 have hp:=packB_le (n:=p.length) (by omega)
 rw [z1g.f_eq,packI_is (n:=ilen p) (by unfold ilen;omega),e,bnd_some]
 exact rpcode_l k p h.2 (by omega) k 0 _ (by omega) (by omega) (by omega)
theorem rfold_is (k:Nat) (i:Int) (h1:-2147483647≤i) (h2:i≤2147483647):z1E.f k i=some ((foldN i:Nat):Int):=by
 rw [z1E.f_eq]
 unfold foldN
 by_cases h:i<0
 ·have m1:isub .i64 0 i=-i:=by
   show IntKind.wrap .i64 (0 - i)=_
   rw [wrap64 (by omega) (by omega)];omega
  have m2:isub .i64 (-i) i=-2 * i:=by
   show IntKind.wrap .i64 (-i - i)=_
   rw [wrap64 (by omega) (by omega)];omega
  have s:isub .i64 (-2 * i) 1=-2 * i - 1:=by
   show IntKind.wrap .i64 (-2 * i - 1)=_
   rw [wrap64 (by omega) (by omega)]
  rw [show ilt i 0=true from decide_eq_true h,br_true,m1,m2,s,if_pos h,Int.toNat_of_nonneg (by omega)]
 ·have m:iadd .i64 i i=2 * i:=by
   show IntKind.wrap .i64 (i+i)=_
   rw [wrap64 (by omega) (by omega)];omega
  rw [show ilt i 0=false from decide_eq_false h,br_false,m,if_neg h,Int.toNat_of_nonneg (by omega)]
theorem rvacode_is (k:Nat) {v:Val} (hv:ValOK v) (hl:v.2.2.length≤200):z1l.f k v=some (codeVal v):=by
 have h1:=hv.kind
 have p1:=packB_le (n:=v.1.toNat) (by omega)
 unfold codeVal
 rw [z1l.f_eq,ieq_dec]
 by_cases h2:v.1=2
 ·have h0:packI 2=some (packB 2):=pI 2 (by decide)
  have hp2:=packB_le (n:=2) (by omega)
  have:=codeX_len v.2.2 (by omega)
  rw [decide_eq_true h2,br_true,h0,bnd_some,rtext_code k _ (by omega),bnd_some,roomS_ok (by omega) (by omega),br_true,if_pos h2,h2];rfl
 ·obtain ⟨_,a,b⟩:=hv.num h2
  have hb:=foldN_le a b
  have:=packB_le hb
  rw [decide_eq_false h2,br_false,packI_is (n:=v.1) (by omega),bnd_some,rfold_is k _ a b,bnd_some,packI_is (n:=((foldN v.2.1:Nat):Int)) (by omega),Int.toNat_natCast,bnd_some,roomS_ok (by omega) (by omega),br_true,if_neg h2];rfl
theorem rrcode_l (k:Nat) (o:Op) (hr:∀ u ∈ o.2.2.2.2,rightD u.1=true∧0≤u.2∧u.2<16) (hl:o.2.2.2.2.length<1000000):∀ (n i:Nat) (x:List UInt8),i≤o.2.2.2.2.length→o.2.2.2.2.length<n+i→x.length≤10000+24 * i→z17.l13 k n x (i:Int) o=some (x++(o.2.2.2.2.drop i).flatMap codeU)
 | 0,i,_,h,h',_=>by omega
 | n+1,i,x,h,h',hx=>by
  rw [z17.l13_eq,ilt_nat,inL_nat,natOf_nat]
  by_cases hi:i<o.2.2.2.2.length
  ·have hd:=hr o.2.2.2.2[i] (List.getElem_mem hi)
   have hp:=codeR_le hd
   obtain ⟨hd1,hd2,hd3⟩:=hd
   have hp1:=codeD_le hd1
   have hp2:=packB_le (n:=o.2.2.2.2[i].2.toNat) (by omega)
   have e4:iadd .i64 (i:Int) 1=((i+1:Nat):Int):=iadd_nat (by omega)
   have ed:o.2.2.2.2.drop i=o.2.2.2.2[i]::o.2.2.2.2.drop (i+1):=List.drop_eq_getElem_cons hi
   rw [decide_eq_true hi,rd_at' (e:=tUndo) hi,rdcode_is k hd1,packI_is (n:=o.2.2.2.2[i].2) (by omega),e4,ed,List.flatMap_cons]
   simp only [br_true,bnd_some]
   rw [roomS_ok (by omega) (by omega),br_true,roomS_ok (by unfold app;rw [List.length_append];omega) (by omega),br_true]
   have ea:app (app x (codeD o.2.2.2.2[i].1)) (packB o.2.2.2.2[i].2.toNat)=x++codeU o.2.2.2.2[i]:=by unfold app codeU;rw [List.append_assoc]
   rw [ea]
   refine (rrcode_l k o hr hl n (i+1) _ (by omega) (by omega) (by rw [List.length_append];omega)).trans ?_
   rw [List.append_assoc]
  ·have e0:o.2.2.2.2.drop i=[]:=List.drop_eq_nil_of_le (by omega)
   rw [decide_eq_false hi,br_false,e0];simp
theorem rrcode_is (k:Nat) (x:List UInt8) {o:Op} (hr:∀ u ∈ o.2.2.2.2,rightD u.1=true∧0≤u.2∧u.2<16) (hl:o.2.2.2.2.length≤256) (hx:x.length≤9000) (hk:5000<k) (hk2:k<1000000) :
  (bnd (packI (ilen o.2.2.2.2)) fun r6=>br (roomS x r6) (z17.l13 k k (app x r6) 0 o) none)=some (x++codeT o.2.2.2.2):=by
 have e:(ilen o.2.2.2.2).toNat=o.2.2.2.2.length:=rfl
 have hp:=packB_le (n:=o.2.2.2.2.length) (by omega)
 rw [packI_is (n:=ilen o.2.2.2.2) (by unfold ilen;omega),e,bnd_some,roomS_ok (by omega) (by omega),br_true]
 refine (rrcode_l k o hr (by omega) k 0 _ (by omega) (by omega) (by unfold app;rw [List.length_append];omega)).trans ?_
 rw [List.drop_zero];unfold app codeT;rw [List.append_assoc]
theorem rocode_0 (k:Nat):z17.f k goneO=some (packB 0):=by
 have h0:packI 0=some (packB 0):=pI 0 (by decide)
 have e0:ieq (ilen ([]:List Undo)) 0=true:=rfl
 have e1:ieq (ilen ([]:List Str)) 0=true:=rfl
 have e2:deq tValue ((0,(0,[])):Val) (0,(0,[]))=true:=by rw [deqVal];exact decide_eq_true rfl
 rw [z17.f_eq,z1t.f_eq]
 unfold goneO
 simp only [h0,bnd_some,show ieq (0:Int) 0=true from rfl,e0,e1,e2,br_true]
section
variable (k:Nat) (hk:5000<k) (hk2:k<1000000) (P:List Str) (V:Val) (A:Int) (S:List Undo) (hP:ShortP P) (hv:V.2.2.length≤200)
include hk hk2 hP
theorem rocode_3 (h1:-2147483647≤A) (h2:A≤2147483647):z17.f k (3,(P,(V,(A,S))))=some (packB 3++(codeP P++packB (foldN A))):=by
 have h0:packI 3=some (packB 3):=pI 3 (by decide)
 have hb:=foldN_le h1 h2
 have hpl:=packB_le hb
 have hf:packI ((foldN A:Nat):Int)=some (packB (foldN A)):=by rw [packI_is (n:=((foldN A:Nat):Int)) (by omega),Int.toNat_natCast]
 obtain ⟨r1,r2⟩:=rooms k hk hk2 P hP 3 (by decide)
 have r3:roomS (app (packB 3) (codeP P)) (packB (foldN A))=true:=roomS_ok (by omega) (by omega)
 rw [z17.f_eq,z1t.f_eq]
 simp only [h0,bnd_some,show ieq (3:Int) 0=false from rfl,show ieq (3:Int) 3=true from rfl,br_true,br_false,rpcode_is k hP (by omega) hk2,r1,rfold_is k A h1 h2,hf,r3]
 unfold app;rw [List.append_assoc]
include hv
theorem rocode_1 (hV:ValOK V) (hs:S.length≤256∧∀ u ∈ S,rightD u.1=true∧0≤u.2∧u.2<16):z17.f k (1,(P,(V,(A,S))))=some (packB 1++(codeP P++(codeVal V++codeT S))):=by
 have h0:packI 1=some (packB 1):=pI 1 (by decide)
 have hvl:=codeVal_le hV hv
 have bf:bnot false=true:=rfl
 obtain ⟨r1,r2⟩:=rooms k hk hk2 P hP 1 (by decide)
 have r3:roomS (app (packB 1) (codeP P)) (codeVal V)=true:=roomS_ok (by omega) (by omega)
 rw [z17.f_eq,z1t.f_eq]
 simp only [h0,bnd_some,show ieq (1:Int) 0=false from rfl,show ieq (1:Int) 5=false from rfl,show ieq (1:Int) 2=false from rfl,show ieq (1:Int) 3=false from rfl,bf,br_true,br_false,rpcode_is k hP (by omega) hk2,r1,rvacode_is k hV hv,r3]
 refine (rrcode_is k _ (o:=(1,(P,(V,(A,S))))) hs.2 hs.1 (by unfold app at r2 ⊢;rw [List.length_append];omega) hk hk2).trans ?_
 unfold app;simp only [List.append_assoc]
theorem rocode_4 (hV:ValOK V) (hs:S.length≤256∧∀ u ∈ S,rightD u.1=true∧0≤u.2∧u.2<16):z17.f k (4,(P,(V,(A,S))))=some (packB 4++(codeP P++(codeVal V++codeT S))):=by
 have h0:packI 4=some (packB 4):=pI 4 (by decide)
 have hvl:=codeVal_le hV hv
 have bf:bnot false=true:=rfl
 obtain ⟨r1,r2⟩:=rooms k hk hk2 P hP 4 (by decide)
 have r3:roomS (app (packB 4) (codeP P)) (codeVal V)=true:=roomS_ok (by omega) (by omega)
 rw [z17.f_eq,z1t.f_eq]
 simp only [h0,bnd_some,show ieq (4:Int) 0=false from rfl,show ieq (4:Int) 5=false from rfl,show ieq (4:Int) 2=false from rfl,show ieq (4:Int) 3=false from rfl,bf,br_true,br_false,rpcode_is k hP (by omega) hk2,r1,rvacode_is k hV hv,r3]
 refine (rrcode_is k _ (o:=(4,(P,(V,(A,S))))) hs.2 hs.1 (by unfold app at r2 ⊢;rw [List.length_append];omega) hk hk2).trans ?_
 unfold app;simp only [List.append_assoc]
theorem rocode_2 (hV:ValOK V):z17.f k (2,(P,(V,(A,S))))=some (packB 2++(codeP P++codeVal V)):=by
 have h0:packI 2=some (packB 2):=pI 2 (by decide)
 have hvl:=codeVal_le hV hv
 have bf:bnot false=true:=rfl
 obtain ⟨r1,r2⟩:=rooms k hk hk2 P hP 2 (by decide)
 have r3:roomS (app (packB 2) (codeP P)) (codeVal V)=true:=roomS_ok (by omega) (by omega)
 rw [z17.f_eq,z1t.f_eq]
 simp only [h0,bnd_some,show ieq (2:Int) 0=false from rfl,show ieq (2:Int) 5=false from rfl,show ieq (2:Int) 2=true from rfl,show ieq (2:Int) 3=false from rfl,bf,br_true,br_false,rpcode_is k hP (by omega) hk2,r1,rvacode_is k hV hv,r3]
 unfold app;rw [List.append_assoc]
omit hv in
theorem rocode_5 (hs:S.length≤256∧∀ u ∈ S,rightD u.1=true∧0≤u.2∧u.2<16):z17.f k (5,(P,(V,(A,S))))=some (packB 5++(codeP P++codeT S)):=by
 have h0:packI 5=some (packB 5):=pI 5 (by decide)
 have bt:bnot true=false:=rfl
 obtain ⟨r1,r2⟩:=rooms k hk hk2 P hP 5 (by decide)
 rw [z17.f_eq,z1t.f_eq]
 simp only [h0,bnd_some,show ieq (5:Int) 0=false from rfl,show ieq (5:Int) 5=true from rfl,show ieq (5:Int) 2=false from rfl,show ieq (5:Int) 3=false from rfl,bt,br_true,br_false,rpcode_is k hP (by omega) hk2,r1]
 refine (rrcode_is k _ (o:=(5,(P,(V,(A,S))))) hs.2 hs.1 (by omega) hk hk2).trans ?_
 unfold app;simp only [List.append_assoc]
end
theorem rocode_is (k:Nat) {o:Op} (h:o=goneO∨OkO k o) (hs:ShortO o) (hk:5000<k) (hk2:k<1000000):z17.f k o=some (codeO o):=by
 rcases h with rfl | h
 ·rw [rocode_0];rfl
 ·have hK:=h.kind
  have hvr:=h.valr;have hse:=h.seen;have hv:=hs.val;have hP:=hs.path;have ha:=h.amt3
  clear h hs
  obtain ⟨K,P,V,A,S⟩:=o
  simp only at hK hvr hse hv hP ha
  rcases hK with rfl | rfl | rfl | rfl | rfl
  ·exact rocode_1 k hk hk2 P V A S hP hv (val_ok k V (hvr (.inl rfl))) hse
  ·exact rocode_2 k hk hk2 P V A S hP hv (val_ok k V (hvr (.inr (.inl rfl))))
  ·exact rocode_3 k hk hk2 P V A S hP ha.1 ha.2
  ·exact rocode_4 k hk hk2 P V A S hP hv (val_ok k V (hvr (.inr (.inr rfl)))) hse
  ·exact rocode_5 k hk hk2 P V A S hP hse
theorem rtocode_l (k:Nat) (t:Txn) (hr:∀ o ∈ t.2.2.2.2,o=goneO∨OkO k o) (hs:∀ o ∈ t.2.2.2.2,ShortO o) (hl:t.2.2.2.2.length<1000) (hk:5000<k) (hk2:k<1000000):∀ (n i:Nat) (x:List UInt8),i≤t.2.2.2.2.length→t.2.2.2.2.length<n+i→x.length≤100+8000 * i→z1z.l7 k n x (i:Int) t=some (x++(t.2.2.2.2.drop i).flatMap codeO)
 | 0,i,_,h,h',_=>by omega
 | n+1,i,x,h,h',hx=>by
  rw [z1z.l7_eq,ilt_nat,inL_nat,natOf_nat]
  by_cases hi:i<t.2.2.2.2.length
  ·have hd:=hr t.2.2.2.2[i] (List.getElem_mem hi)
   have hsd:=hs t.2.2.2.2[i] (List.getElem_mem hi)
   have hp:=codeO_le hd hsd
   have e4:iadd .i64 (i:Int) 1=((i+1:Nat):Int):=iadd_nat (by omega)
   have ed:t.2.2.2.2.drop i=t.2.2.2.2[i]::t.2.2.2.2.drop (i+1):=List.drop_eq_getElem_cons hi
   rw [decide_eq_true hi,rd_at' (e:=tOp) hi,rocode_is k hd hsd hk hk2,e4,ed,List.flatMap_cons]
   simp only [br_true,bnd_some]
   rw [roomS_ok (by omega) (by omega),br_true]
   refine (rtocode_l k t hr hs hl hk hk2 n (i+1) _ (by omega) (by omega) (by unfold app;rw [List.length_append];omega)).trans ?_
   unfold app;rw [List.append_assoc]
  ·have e0:t.2.2.2.2.drop i=[]:=List.drop_eq_nil_of_le (by omega)
   rw [decide_eq_false hi,br_false,e0];simp
theorem rtxcode_is (k : Nat) {t : Txn} (h : OkT k t) (hs : ShortT t) (hk : 5000 < k) (hk2 : k < 1000000) : z1z.f k t = some (codeTx t) := by
  have h1 := codeD_le h.dot
  have hu := h.user; have ht := h.time; have ho := h.ops
  have h2 := packB_le (n := t.2.1.toNat) (by omega)
  have h3 := packB_le (n := t.2.2.1.toNat) (by omega)
  have h4 : ∀ b, (packB (thinN b)).length ≤ 8 := fun b => packB_le (n := thinN b) (by unfold thinN; split <;> omega)
  have h5 := packB_le (n := t.2.2.2.2.length) (by omega)
  have e : (ilen t.2.2.2.2).toNat = t.2.2.2.2.length := rfl
  have q1 : packI 1 = some (packB (thinN true)) := pI 1 (by decide)
  have q0 : packI 0 = some (packB (thinN false)) := pI 0 (by decide)
  have key : ∀ b, (br (roomS (app (app (codeD t.1) (packB t.2.1.toNat)) (packB t.2.2.1.toNat)) (packB (thinN b)))
          (br (roomS (app (app (app (codeD t.1) (packB t.2.1.toNat)) (packB t.2.2.1.toNat)) (packB (thinN b))) (packB t.2.2.2.2.length))
            (z1z.l7 k k (app (app (app (app (codeD t.1) (packB t.2.1.toNat)) (packB t.2.2.1.toNat)) (packB (thinN b))) (packB t.2.2.2.2.length)) 0 t)
            none)
          none) = some (codeD t.1 ++ (packB t.2.1.toNat ++ (packB t.2.2.1.toNat ++ (packB (thinN b) ++ (packB t.2.2.2.2.length ++ t.2.2.2.2.flatMap codeO))))) := by
    intro b
    have h4 := h4 b
    rw [roomS_ok (by unfold app; simp only [List.length_append]; omega) (by omega), br_true, roomS_ok (by unfold app; simp only [List.length_append]; omega) (by omega), br_true]
    refine (rtocode_l k t h.each hs.ops (by omega) hk hk2 k 0 _ (by omega) (by omega) (by unfold app; simp only [List.length_append]; omega)).trans ?_
    rw [List.drop_zero]; unfold app; simp only [List.append_assoc]
  rw [z1z.f_eq, rdcode_is k h.dot, packI_is (n := t.2.1) (by omega), packI_is (n := t.2.2.1) (by omega), packI_is (n := ilen t.2.2.2.2) (by unfold ilen; omega), e, q1, q0]
  unfold codeTx
  simp only [bnd_some]
  rw [roomS_ok (by omega) (by omega), br_true, roomS_ok (by unfold app; simp only [List.length_append]; omega) (by omega), br_true]
  cases t.2.2.2.1 with
  | true => rw [br_true]; exact key true
  | false => rw [br_false]; exact key false
theorem rtlcode_l (k:Nat) (l:List Txn) (hr:∀ t ∈ l,OkT k t) (hs:∀ t ∈ l,ShortT t) (hl:l.length≤20) (hk:5000<k) (hk2:k<1000000):∀ (n i:Nat) (x:List UInt8),i≤l.length→l.length<n+i→x.length≤100+130000 * i→z1x.l3 k n l x (i:Int)=some (x++(l.drop i).flatMap codeTx)
 | 0,i,_,h,h',_=>by omega
 | n+1,i,x,h,h',hx=>by
  rw [z1x.l3_eq,ilt_nat,inL_nat,natOf_nat]
  by_cases hi:i<l.length
  ·have hd:=hr l[i] (List.getElem_mem hi)
   have hsd:=hs l[i] (List.getElem_mem hi)
   have hp:=codeTx_le hd hsd
   have e4:iadd .i64 (i:Int) 1=((i+1:Nat):Int):=iadd_nat (by omega)
   have ed:l.drop i=l[i]::l.drop (i+1):=List.drop_eq_getElem_cons hi
   rw [decide_eq_true hi,rd_at' (e:=tTxn) hi,rtxcode_is k hd hsd hk hk2,e4,ed,List.flatMap_cons]
   simp only [br_true,bnd_some]
   rw [roomS_ok (by omega) (by omega),br_true]
   refine (rtlcode_l k l hr hs hl hk hk2 n (i+1) _ (by omega) (by omega) (by unfold app;rw [List.length_append];omega)).trans ?_
   unfold app;rw [List.append_assoc]
  ·have e0:l.drop i=[]:=List.drop_eq_nil_of_le (by omega)
   rw [decide_eq_false hi,br_false,e0];simp
theorem rtlcode_is (k:Nat) {l:List Txn} (hr:∀ t ∈ l,OkT k t) (hs:∀ t ∈ l,ShortT t) (hl:l.length≤20) (hk:5000<k) (hk2:k<1000000):z1x.f k l=some (codeTL l):=by
 have e:(ilen l).toNat=l.length:=rfl
 have hp:=packB_le (n:=l.length) (by omega)
 rw [z1x.f_eq,packI_is (n:=ilen l) (by unfold ilen;omega),e,bnd_some]
 exact rtlcode_l k l hr hs hl hk hk2 k 0 _ (by omega) (by omega) (by omega)
theorem rtcode_l (k:Nat) (l:List Undo) (hr:∀ u ∈ l,rightU u=true) (hl:l.length<1000000):∀ (n i:Nat) (x:List UInt8),i≤l.length→l.length<n+i→x.length≤100+24 * i→z1J.l3 k n l x (i:Int)=some (x++(l.drop i).flatMap codeU)
 | 0,i,_,h,h',_=>by omega
 | n+1,i,x,h,h',hx=>by
  rw [z1J.l3_eq,ilt_nat,inL_nat,natOf_nat]
  by_cases hi:i<l.length
  ·have hd:=hr l[i] (List.getElem_mem hi)
   obtain ⟨hd1,hd2,hd3⟩:=(rightU_iff _).1 hd
   have hp:=codeU_le hd
   have hp1:=codeD_le hd1
   have hp2:=packB_le (n:=l[i].2.toNat) (by omega)
   have e4:iadd .i64 (i:Int) 1=((i+1:Nat):Int):=iadd_nat (by omega)
   have ed:l.drop i=l[i]::l.drop (i+1):=List.drop_eq_getElem_cons hi
   rw [decide_eq_true hi,rd_at' (e:=tUndo) hi,rdcode_is k hd1,packI_is (n:=l[i].2) (by omega),e4,ed,List.flatMap_cons]
   simp only [br_true,bnd_some]
   rw [roomS_ok (by omega) (by omega),br_true,roomS_ok (by unfold app;rw [List.length_append];omega) (by omega),br_true]
   have ea:app (app x (codeD l[i].1)) (packB l[i].2.toNat)=x++codeU l[i]:=by unfold app codeU;rw [List.append_assoc]
   rw [ea]
   refine (rtcode_l k l hr hl n (i+1) _ (by omega) (by omega) (by rw [List.length_append];omega)).trans ?_
   rw [List.append_assoc]
  ·have e0:l.drop i=[]:=List.drop_eq_nil_of_le (by omega)
   rw [decide_eq_false hi,br_false,e0];simp
theorem rtcode_is (k:Nat) {l:List Undo} (hr:∀ u ∈ l,rightU u=true) (hl:l.length<k) (hk:k<1000000):z1J.f k l=some (codeT l):=by
 have e:(ilen l).toNat=l.length:=rfl
 have hp:=packB_le (n:=l.length) (by omega)
 rw [z1J.f_eq,packI_is (n:=ilen l) (by unfold ilen;omega),e,bnd_some]
 exact rtcode_l k l hr (by omega) k 0 _ (by omega) (by omega) (by omega)
theorem rlcode_l (k:Nat) (l:List Dot) (hr:∀ d ∈ l,rightD d=true) (hl:l.length<1000000):∀ (n i:Nat) (x:List UInt8),i≤l.length→l.length<n+i→x.length≤100+16 * i→z1F.l3 k n l x (i:Int)=some (x++(l.drop i).flatMap codeD)
 | 0,i,_,h,h',_=>by omega
 | n+1,i,x,h,h',hx=>by
  rw [z1F.l3_eq,ilt_nat,inL_nat,natOf_nat]
  by_cases hi:i<l.length
  ·have hd:=hr l[i] (List.getElem_mem hi)
   have hp:=codeD_le hd
   have e4:iadd .i64 (i:Int) 1=((i+1:Nat):Int):=iadd_nat (by omega)
   have ed:l.drop i=l[i]::l.drop (i+1):=List.drop_eq_getElem_cons hi
   rw [decide_eq_true hi,rd_at' (e:=tDot) hi,rdcode_is k hd,e4,ed,List.flatMap_cons]
   simp only [br_true,bnd_some]
   rw [roomS_ok (by omega) (by omega),br_true]
   refine (rlcode_l k l hr hl n (i+1) _ (by omega) (by omega) (by unfold app;rw [List.length_append];omega)).trans ?_
   unfold app;rw [List.append_assoc]
  ·have e0:l.drop i=[]:=List.drop_eq_nil_of_le (by omega)
   rw [decide_eq_false hi,br_false,e0];simp
theorem rlcode_is (k:Nat) {l:List Dot} (hr:∀ d ∈ l,rightD d=true) (hl:l.length<k) (hk:k<1000000):z1F.f k l=some (codeL l):=by
 have e:(ilen l).toNat=l.length:=rfl
 have hp:=packB_le (n:=l.length) (by omega)
 rw [z1F.f_eq,packI_is (n:=ilen l) (by unfold ilen;omega),e,bnd_some]
 exact rlcode_l k l hr (by omega) k 0 _ (by omega) (by omega) (by omega)
theorem rdlcode_is (k:Nat) {d:Dlt} (sh:ShortD d) (hr:RightDl k d) (hk:5000<k) (hk2:k<1000000):z0G.f k d=some (codeDl d):=by
 have ho:=hr.ok sh.each (by omega) hk2
 have l1:=codeTL_le ho sh.each sh.tx
 have l2:=codeT_le hr.un.rt sh.un (by omega)
 have l3:=codeL_le hr.se (by have:=sh.se;omega)
 have hun:=sh.un;have hse:=sh.se
 rw [z0G.f_eq,rtlcode_is k ho sh.each sh.tx hk hk2,rtcode_is k hr.un.rt (by omega) hk2,rlcode_is k hr.se (by omega) hk2]
 simp only [bnd_some]
 rw [roomS_ok (by omega) (by omega),br_true,roomS_ok (by unfold app;rw [List.length_append];omega) (by omega),br_true]
 unfold app codeDl;simp only [List.append_assoc]
end Go.Proofs.YtggcagclpkhlhaaGreatDoor
end
