/- The functions that the statement reaches, and what they come to. Part 4. -/
import Derived.Lib.DecodeN
import Derived.Test.YtggcagclpkhlhaaGreatDoorFw1
import Derived.Test.YtggcagclpkhlhaaGreatDoorFw2
import Derived.Test.YtggcagclpkhlhaaGreatDoorFw3
import Derived.Test.YtggcagclpkhlhaaGreatDoorRecA1
import Derived.Test.YtggcagclpkhlhaaGreatDoorRecA2
import Derived.Test.YtggcagclpkhlhaaGreatDoorRecA3
set_option linter.unusedVariables false
set_option linter.unusedSimpArgs false
set_option linter.unusedSectionVars false
noncomputable section
/- What the functions of the layer of dots compute. -/
namespace Go.Proofs.YtggcagclpkhlhaaGreatDoor
open Pal
theorem iadd_s {a b:Int} (h1:-1000000000000≤a) (h2:a≤1000000000000) (h3:-1000000000000≤b) (h4:b≤1000000000000):iadd .i64 a b=a+b:=by
 have e1:((2:Int) ^ 63)=9223372036854775808:=by decide
 show IntKind.wrap .i64 (a+b)=_
 rw [wrap_i64 (by rw [e1];omega) (by rw [e1];omega)]
theorem isub_s {a b:Int} (h1:-1000000000000≤a) (h2:a≤1000000000000) (h3:-1000000000000≤b) (h4:b≤1000000000000):isub .i64 a b=a - b:=by
 have e1:((2:Int) ^ 63)=9223372036854775808:=by decide
 show IntKind.wrap .i64 (a - b)=_
 rw [wrap_i64 (by rw [e1];omega) (by rw [e1];omega)]
theorem inB16 {r:Int} (h0:0≤r) (h1:r<16):inB r 16=true:=by simp [inB,h0];omega
theorem room1 {α:Type} {xs:List α} {x:α} (h:xs.length<4000000):room xs (x::[])=true:=by simp [room];omega
theorem ile_dec (a b:Int):ile a b=decide (a≤b):=rfl
theorem ilt_dec (a b:Int):ilt a b=decide (a<b):=rfl
theorem deqD (a b:Dot):deq tDot a b=decide (a=b):=deq_dec (τ:=tDot) rfl a b
theorem last_rd {M:List Dot} {m:Nat} (hl:M.length=m+1) (hb:m<4000000):rd tDot M (natOf (isub .i64 (ilen M) 1))=M[m]:=by
 rw [isub_s (by unfold ilen;omega) (by unfold ilen;omega) (by omega) (by omega),show ilen M - 1=(m:Int) by unfold ilen;omega,natOf_nat]
 exact rd_at' (e:=tDot) (by omega)
theorem last_in {M:List Dot} {m:Nat} (hl:M.length=m+1) (hb:m<4000000):inL (isub .i64 (ilen M) 1) M=true:=by
 rw [isub_s (by unfold ilen;omega) (by unfold ilen;omega) (by omega) (by omega),show ilen M - 1=(m:Int) by unfold ilen;omega,inL_nat]
 simp;omega
theorem getLast_is {M:List Dot} {m:Nat} (hl:M.length=m+1):M.getLast? = some M[m]:=by
 rw [List.getLast?_eq_getElem?];exact List.getElem?_eq_some_iff.2 ⟨by omega,by simp [hl]⟩
theorem take_next {l:List Dot} {i:Nat} (hi:i<l.length):l.take (i+1)=l.take i++[l[i]]:=by rw [List.take_add_one,List.getElem?_eq_getElem hi];rfl
theorem made_l (k:Nat) (l:List Dot) (hl:l.length<1000000) (hr:∀ d ∈ l,rightD d=true) (hs:l.Pairwise (fun a b=>dotLt b a=false)) (v:Vec) (hv:VOk v) (za:Vec) (zb:List Dot):∀ (n i:Nat),i≤l.length→l.length<n+i →
  z2c.l3 k n l (ilen l) (i:Int) za zb (mk v (l.take i)).1 (mk v (l.take i)).2=some (mk v l)
 | 0,i,h,h'=>by omega
 | n+1,i,h,h'=>by
  rw [z2c.l3_eq,ilt_nat,inL_nat,natOf_nat]
  by_cases hi:i<l.length
  ·have hstep:mk v (l.take (i+1))=put1 (mk v (l.take i)) l[i]:=by rw [take_next hi];unfold mk;rw [List.foldl_append];rfl
   obtain ⟨hc,hm,hml,_⟩:=mk_can hv (l.take i) (fun d hd=>hr d (List.mem_of_mem_take hd)) (hs.sublist (List.take_sublist i l))
   have ih:=made_l k l hl hr hs v hv za zb n (i+1) (by omega) (by omega)
   rw [hstep] at ih
   have hmk:mk v (l.take i)=mk v (l.take i):=rfl
   generalize mk v (l.take i)=s at hc hm hml ih hstep ⊢
   obtain ⟨V,M⟩:=s
   obtain ⟨r0,r1,r2,r3⟩:=(rightD_iff l[i]).1 (hr _ (List.getElem_mem hi))
   rw [rd_at' (e:=tDot) hi,iadd_nat (by omega)]
   obtain ⟨d,hd⟩:∃ d:Dot,d=l[i]:=⟨_,rfl⟩
   rw [← hd] at r0 r1 r2 r3 ih ⊢
   have hvv:rd (.int .i64) V (natOf d.1)=vat V d.1:=rfl
   have v0:=hc.vok.lo d.1 r0 r1
   have v1:=hc.vok.hi d.1 r0 r1
   have v0':0≤vat V d.1:=v0
   have v1':vat V d.1≤1048576:=v1
   have hML:M.length≤i:=by have:M.length≤(l.take i).length:=hml;rw [List.length_take] at this;omega
   simp only [hi,decide_true,br_true,inB16 r0 r1,hvv,ile_dec]
   rw [iadd_s (by omega) (by omega) (by omega) (by omega),ieq_dec,ieq_dec]
   unfold put1 at ih
   by_cases h1:d.2≤vat V d.1
   ·simp only [h1,decide_true,br_true,if_true] at ih ⊢;exact ih
   ·by_cases h2:d.2=vat V d.1+1
    ·rw [if_neg h1,if_pos h2] at ih
     rw [decide_eq_false h1,decide_eq_true h2];exact ih
    ·simp only [h1,h2,decide_false,br_false,if_false] at ih ⊢
     rw [room1 (by omega)]
     cases hM:M.length with
     | zero =>
      have hM0:M=[]:=List.eq_nil_of_length_eq_zero hM
      subst hM0
      simp only [List.getLast?_nil,reduceCtorEq,if_false] at ih
      have:decide (ilen ([]:List Dot)=0)=true:=rfl
      rw [this];simp only [br_true];exact ih
     | succ m =>
      have h4:¬ (ilen M=0):=by unfold ilen;omega
      rw [last_in hM (by omega),last_rd hM (by omega),deqD,bnot_dec]
      simp only [h4,decide_false,br_true,br_false]
      rw [getLast_is hM] at ih
      by_cases h5:M[m]=d
      ·simp only [h5,if_true,decide_true,decide_false,not_true,br_false] at ih ⊢;exact ih
      ·have h6:¬ (some M[m]=some d):=fun e=>h5 (Option.some.inj e)
       simp only [h5,h6,if_false,not_false_eq_true,decide_true,br_true] at ih ⊢;exact ih
  ·have:i=l.length:=by omega
   subst this
   simp only [List.take_length,Nat.lt_irrefl,decide_false,br_false]
theorem made_is (k:Nat) (l:List Dot) (hl:l.length<k) (hk:k<1000000) (hr:∀ d ∈ l,rightD d=true) (hs:l.Pairwise (fun a b=>dotLt b a=false)) (v:Vec) (hv:VOk v):z2c.f k v l=some (mk v l):=by
 rw [z2c.f_eq]
 exact made_l k l (by omega) hr hs v hv (zarr 16 0) [] k 0 (by omega) (by omega)
theorem vok0:VOk (zarr 16 0):=⟨rfl,fun r h0 h1=>by
  obtain ⟨a,rfl⟩:=Int.eq_ofNat_of_zero_le h0
  have:a<16:=by omega
  have e:vat (zarr 16 0) (a:Int)=0:=by rw [vat_get (by show a<16;omega)];exact List.getElem_replicate ..
  rw [e];exact Int.le_refl _,fun r h0 h1=>by
  obtain ⟨a,rfl⟩:=Int.eq_ofNat_of_zero_le h0
  have e:vat (zarr 16 0) (a:Int)=0:=by rw [vat_get (by show a<16;omega)];exact List.getElem_replicate ..
  rw [e];decide⟩
theorem vat0 (r:Int) (h0:0≤r) (h1:r<16):vat (zarr 16 0) r=0:=by
 obtain ⟨a,rfl⟩:=Int.eq_ofNat_of_zero_le h0
 rw [vat_get (by show a<16;omega)];exact List.getElem_replicate ..
def ofD (l:List Dot):DSet:=mk (zarr 16 0) (isort dotLt (kept rightD l))
theorem kept_mem {l:List Dot} {d:Dot}:d ∈ isort dotLt (kept rightD l) ↔ d ∈ l∧rightD d=true:=by
 rw [(isort_perm dotLt _).mem_iff];unfold kept;rw [List.mem_filter]
theorem ofD_can (l:List Dot):Can (ofD l)∧(∀ x,Mem (ofD l) x ↔ rightD x=true∧x ∈ l)∧(ofD l).2.length≤l.length:=by
 obtain ⟨h1,h2,h3,_⟩:=mk_can vok0 (isort dotLt (kept rightD l)) (fun d hd=>(kept_mem.1 hd).2) (isort_sorted dotLt_swo _)
 refine ⟨h1,fun x=>?_,?_⟩
 ·rw [show Mem (ofD l) x ↔ _ from h2 x,kept_mem]
  constructor
  ·rintro ⟨a,b | b⟩
   ·obtain ⟨q0,q1,q2,_⟩:=(rightD_iff x).1 a
    rw [vat0 x.1 q0 q1] at b;omega
   ·exact ⟨a,b.1⟩
  ·rintro ⟨a,b⟩;exact ⟨a,.inr ⟨b,a⟩⟩
 ·refine Nat.le_trans h3 ?_
  rw [(isort_perm dotLt _).length_eq];exact List.length_filter_le _ _
theorem of_is (k:Nat) (l:List Dot) (hl:l.length<k) (hk:k<1000000):z2S.f k l=some (ofD l):=by
 have h1:room ([]:List Int) l=true:=by simp [room];omega
 have h2:(kept rightD l).length≤l.length:=List.length_filter_le _ _
 have h3:room ([]:List Int) (kept dotKeep l)=true:=by simp [room];have:(kept dotKeep l).length≤l.length:=h2;omega
 rw [z2S.f_eq,h1,h3]
 simp only [br_true]
 rw [made_is k _ (by rw [(isort_perm dotLt _).length_eq];exact Nat.lt_of_le_of_lt h2 hl) hk (fun d hd=>(kept_mem.1 hd).2) (isort_sorted dotLt_swo _) _ vok0]
 rfl
theorem rright_is (k:Nat) (d:Dot):z18.f k d=some (rightD d):=by
 rw [z18.f_eq]
 have:ile d.1 15=ilt d.1 16:=by unfold ile ilt;congr 1;exact propext ⟨fun h=>by omega,fun h=>by omega⟩
 rw [this]
 have:=right_is k d
 rw [z2t.f_eq] at this
 exact this
def memB (s:DSet) (d:Dot):Bool:=rightD d && (decide (d.2≤vat s.1 d.1) || decide (d ∈ s.2))
theorem memB_iff (s:DSet) (d:Dot):memB s d=true ↔ Mem s d:=by simp [memB,Mem]
theorem rvhas_is (k:Nat) (v:Vec) (d:Dot):z2u.f k v d=some (rightD d && decide (d.2≤vat v d.1)):=by
 rw [z2u.f_eq,rright_is]
 simp only [bnd]
 cases h:rightD d with
 | false=>rfl
 | true =>
  obtain ⟨a,b,_,_⟩:=(rightD_iff d).1 h
  rw [inB16 a b];rfl
theorem any_step {α:Type} {xs:List α} {i:Nat} (h:i<xs.length) (p:α→Bool):(xs.drop i).any p=(p xs[i] || (xs.drop (i+1)).any p):=by
 rw [List.drop_eq_getElem_cons h,List.any_cons]
theorem rhas_l (k:Nat) (s:DSet) (d:Dot) (hl:s.2.length<1000000):∀ (n i:Nat),i≤s.2.length→s.2.length<n+i→z2n.l4 k n (i:Int) s d=some ((s.2.drop i).any fun e=>decide (e=d))
 | 0,i,h,h'=>by omega
 | n+1,i,h,h'=>by
  rw [z2n.l4_eq,ilt_nat,inL_nat,natOf_nat]
  by_cases hi:i<s.2.length
  ·rw [any_step hi,rd_at' (e:=tDot) hi,deqD,iadd_nat (by omega),rhas_l k s d hl n (i+1) (by omega) (by omega)]
   by_cases he:s.2[i]=d <;> simp [hi,he,br_true,br_false]
  ·rw [List.drop_of_length_le (by omega)];simp [hi,br_false]
theorem any_mem (l:List Dot) (d:Dot):(l.any fun e=>decide (e=d))=decide (d ∈ l):=by
 rw [Bool.eq_iff_iff];simp
theorem rhas_is (k:Nat) (s:DSet) (d:Dot) (hl:s.2.length<k) (hk:k<1000000) (hr:∀ e ∈ s.2,rightD e=true):z2n.f k s d=some (memB s d):=by
 rw [z2n.f_eq,rvhas_is]
 simp only [bnd]
 have:=rhas_l k s d (by omega) k 0 (by omega) (by omega)
 rw [List.drop_zero,any_mem] at this
 rw [show z2n.l4 k k 0 s d=_ from this]
 unfold memB
 cases h:rightD d with
 | false =>
  have:d ∉ s.2:=fun hd=>by rw [hr d hd] at h;cases h
  simp [this,br_false]
 | true =>
  by_cases h2:d.2≤vat s.1 d.1 <;> simp [h2,br_true,br_false]
end Go.Proofs.YtggcagclpkhlhaaGreatDoor
end
noncomputable section
/- What the functions of the layer of dots compute, on. -/
namespace Go.Proofs.YtggcagclpkhlhaaGreatDoor
open Pal
theorem srt_get {l:List Dot} (hs:l.Pairwise (fun a b=>dotLt a b=true)) {i j:Nat} (hi:i<l.length) (hj:j<l.length) (h:i<j):dotLt l[i] l[j]=true:=List.pairwise_iff_getElem.1 hs i j hi hj h
theorem cmp_lt0 (a b:Dot):ilt (cmpD a b) 0=dotLt a b:=rfl
def insR (d:Dot):List Dot→List Dot
 | []=>[d]
 | y::r=>if dotLt d y then d::y::r else y::insR d r
theorem insR_perm (d:Dot):∀ l,(insR d l).Perm (d::l)
 | []=>List.Perm.refl _
 | y::r=>by
  unfold insR
  split
  ·exact List.Perm.refl _
  ·exact ((insR_perm d r).cons y).trans (List.Perm.swap d y r)
theorem insR_srt {d:Dot}:∀ {l:List Dot},l.Pairwise (fun a b=>dotLt a b=true)→d ∉ l→(insR d l).Pairwise (fun a b=>dotLt a b=true)
 | [],_,_=>List.pairwise_singleton _ _
 | y::r,h,hd=>by
  have h':=List.pairwise_cons.1 h
  unfold insR
  split
  ·rename_i hy
   refine List.pairwise_cons.2 ⟨fun z hz=>?_,h⟩
   rcases List.mem_cons.1 hz with rfl | hz
   ·exact hy
   ·exact dotLt_swo.trans _ _ _ hy (h'.1 z hz)
  ·rename_i hy
   have hyd:dotLt y d=true:=by
    cases hh:dotLt y d with
    | true=>rfl
    | false=>exact absurd (by rw [dotLt_tot y d hh (by simpa using hy)];exact List.mem_cons_self) hd
   refine List.pairwise_cons.2 ⟨fun z hz=>?_,insR_srt h'.2 (fun hh=>hd (List.mem_cons_of_mem _ hh))⟩
   rcases List.mem_cons.1 ((insR_perm d r).mem_iff.1 hz) with rfl | hz
   ·exact hyd
   ·exact h'.1 z hz
def putD (s:DSet) (d:Dot):DSet:=if memB s d=true∨rightD d=false then s else mk s.1 (insR d s.2)
theorem insR_weak {d:Dot} {l:List Dot} (hs:l.Pairwise (fun a b=>dotLt a b=true)) (hd:d ∉ l):(insR d l).Pairwise (fun a b=>dotLt b a=false):=(insR_srt hs hd).imp dotLt_asym
theorem putD_can {s:DSet} (hs:Can s) (d:Dot):Can (putD s d)∧(∀ x,Mem (putD s d) x ↔ Mem s x∨(rightD d=true∧x=d))∧(putD s d).2.length≤s.2.length+1:=by
 unfold putD
 by_cases h:memB s d=true∨rightD d=false
 ·rw [if_pos h]
  refine ⟨hs,fun x=>⟨.inl,fun hh=>hh.elim id fun ⟨h1,h2⟩=>?_⟩,by omega⟩
  subst h2
  rcases h with h | h
  ·exact (memB_iff s x).1 h
  ·rw [h] at h1;cases h1
 ·rw [if_neg h]
  have h1:¬ Mem s d:=fun hm=>h (.inl ((memB_iff s d).2 hm))
  have h2:rightD d=true:=by cases hh:rightD d with
   | true=>rfl
   | false=>exact absurd (.inr hh) h
  have hn:d ∉ s.2:=fun hd=>h1 ⟨h2,.inr hd⟩
  obtain ⟨q1,q2,q3,_⟩:=mk_can hs.vok (insR d s.2) (fun e he=>by
   rcases List.mem_cons.1 ((insR_perm d s.2).mem_iff.1 he) with rfl | he
   ·exact h2
   ·exact hs.rt e he) (insR_weak hs.srt hn)
  refine ⟨q1,fun x=>?_,by rw [(insR_perm d s.2).length_eq] at q3;simpa using q3⟩
  rw [q2,(insR_perm d s.2).mem_iff,List.mem_cons]
  constructor
  ·rintro ⟨a,b | b | b⟩
   ·exact .inl ⟨a,.inl b⟩
   ·exact .inr ⟨h2,b⟩
   ·exact .inl ⟨a,.inr b⟩
  ·rintro (⟨a,b⟩ | ⟨a,b⟩)
   ·exact ⟨a,b.imp id .inr⟩
   ·exact ⟨by rw [b];exact a,.inr (.inl b)⟩
end Go.Proofs.YtggcagclpkhlhaaGreatDoor
end
noncomputable section
/- What the document's functions of the layer of dots compute. -/
namespace Go.Proofs.YtggcagclpkhlhaaGreatDoor
open Pal
theorem filled_l (k:Nat) (s:DSet) (hl:s.2.length<1000000) (hr:∀ d ∈ s.2,rightD d=true) (hs:s.2.Pairwise (fun a b=>dotLt a b=true)) (hv:VOk s.1) (za:Vec) (zb:List Dot):∀ (n i:Nat),i≤s.2.length→s.2.length<n+i →
  z0R.l3 k n (i:Int) s za zb (mk s.1 (s.2.take i)).1 (mk s.1 (s.2.take i)).2=some (mk s.1 s.2)
 | 0,i,h,h'=>by omega
 | n+1,i,h,h'=>by
  rw [z0R.l3_eq,ilt_nat,inL_nat,natOf_nat]
  by_cases hi:i<s.2.length
  ·have hstep:mk s.1 (s.2.take (i+1))=put1 (mk s.1 (s.2.take i)) s.2[i]:=by rw [take_next hi];unfold mk;rw [List.foldl_append];rfl
   have hws:s.2.Pairwise (fun a b=>dotLt b a=false):=hs.imp dotLt_asym
   obtain ⟨hc,hm,hml,hin⟩:=mk_can hv (s.2.take i) (fun d hd=>hr d (List.mem_of_mem_take hd)) (hws.sublist (List.take_sublist i s.2))
   have ih:=filled_l k s hl hr hs hv za zb n (i+1) (by omega) (by omega)
   rw [hstep] at ih
   have hnl:(mk s.1 (s.2.take i)).2.getLast? ≠ some s.2[i]:=fun e=>by
    have h1:=hin _ (List.mem_of_getLast? e)
    obtain ⟨t,ht,he⟩:=List.getElem_of_mem h1
    have ht2:t<i:=by rw [List.length_take] at ht;omega
    rw [List.getElem_take] at he
    have:=srt_get hs (by omega) hi ht2
    rw [he,dotLt_swo.irrefl] at this;cases this
   generalize mk s.1 (s.2.take i)=t at hc hm hml ih hstep hin hnl ⊢
   obtain ⟨V,M⟩:=t
   obtain ⟨r0,r1,r2,r3⟩:=(rightD_iff s.2[i]).1 (hr _ (List.getElem_mem hi))
   rw [rd_at' (e:=tDot) hi,iadd_nat (by omega)]
   obtain ⟨d,hd⟩:∃ d:Dot,d=s.2[i]:=⟨_,rfl⟩
   rw [← hd] at r0 r1 r2 r3 ih hnl ⊢
   have hvv:rd (.int .i64) V (natOf d.1)=vat V d.1:=rfl
   have v0:0≤vat V d.1:=hc.vok.lo d.1 r0 r1
   have v1:vat V d.1≤1048576:=hc.vok.hi d.1 r0 r1
   have hML:M.length≤i:=by have:M.length≤(s.2.take i).length:=hml;rw [List.length_take] at this;omega
   simp only [hi,decide_true,br_true,inB16 r0 r1,hvv,ilt_dec]
   rw [iadd_s (by omega) (by omega) (by omega) (by omega),ieq_dec]
   unfold put1 at ih
   by_cases h1:d.2≤vat V d.1
   ·rw [if_pos h1] at ih
    rw [decide_eq_false (show ¬ d.2=vat V d.1+1 by omega),decide_eq_false (show ¬ vat V d.1<d.2 by omega)]
    exact ih
   ·rw [if_neg h1] at ih
    by_cases h2:d.2=vat V d.1+1
    ·rw [if_pos h2] at ih
     rw [decide_eq_true h2];exact ih
    ·rw [if_neg h2,if_neg hnl] at ih
     rw [decide_eq_false h2,decide_eq_true (show vat V d.1<d.2 by omega),room1 (by omega)]
     exact ih
  ·have:i=s.2.length:=by omega
   subst this
   simp only [List.take_length,Nat.lt_irrefl,decide_false,br_false]
theorem filled_is (k:Nat) (s:DSet) (hl:s.2.length<k) (hk:k<1000000) (hr:∀ d ∈ s.2,rightD d=true) (hs:s.2.Pairwise (fun a b=>dotLt a b=true)) (hv:VOk s.1):z0R.f k s=some (mk s.1 s.2):=by
 rw [z0R.f_eq]
 exact filled_l k s (by omega) hr hs hv (zarr 16 0) [] k 0 (by omega) (by omega)
theorem rcmp_is (k:Nat) (a b:Dot):z0I.f k a b=some (cmpD a b):=by
 rw [z0I.f_eq,z24.f_eq,z24.f_eq,ieq_dec,bnot_dec]
 have hI:∀ x y:Int,br (ilt x y) (some (-1)) (br (ilt y x) (some 1) (some 0))=some (cmpI x y):=fun x y=>by
  unfold cmpI
  by_cases h1:x<y
  ·simp [ilt,h1,br_true]
  ·by_cases h2:y<x <;> simp [ilt,h1,h2,br_true,br_false]
 have hI':∀ x y:Int,bnd (br (ilt x y) (some (-1)) (br (ilt y x) (some 1) (some 0))) (fun r=>some r)=some (cmpI x y):=fun x y=>by rw [hI];rfl
 rw [hI',hI']
 unfold cmpD
 by_cases h:a.1=b.1
 ·rw [if_pos ((cmpI_eq _ _).2 h)];simp [h,br_false]
 ·rw [if_neg (fun e=>h ((cmpI_eq _ _).1 e))];simp [h,br_true]
theorem rput_l (k : Nat) (s : DSet) (d : Dot) (hl : s.2.length < 1000000) (za : Vec) (zb : List Dot) : ∀ (n i : Nat) (x : List Dot) (b : Bool), i ≤ s.2.length → s.2.length < n + i → x.length ≤ i + b.toNat →
    z29.l6 k n x b (i : Int) s d za zb = bnd (z0R.f k (s.1, x ++ if b then s.2.drop i else insR d (s.2.drop i))) fun r => some r
  | 0, i, _, _, h, h', _ => by omega
  | n + 1, i, x, b, h, h', hx => by
    rw [z29.l6_eq, ilt_nat, inL_nat, natOf_nat]
    by_cases hi : i < s.2.length
    · rw [List.drop_eq_getElem_cons hi, rd_at' (e := tDot) hi, iadd_nat (by omega), rcmp_is]
      have hbn : b.toNat ≤ 1 := by cases b <;> decide
      have hrm : ∀ y : Dot, room x (y :: []) = true := fun y => room1 (by omega)
      have hrm2 : ∀ y z : Dot, room (app x (y :: [])) (z :: []) = true := fun y z => room1 (by simp [app]; omega)
      simp only [hi, decide_true, br_true, bnd_some, cmp_lt0, hrm, hrm2]
      cases b with
      | true =>
        have hb : bnot true = false := rfl
        rw [hb]
        simp only [br_false]
        rw [rput_l k s d hl za zb n (i + 1) _ true (by omega) (by omega) (by simp [app] at hx ⊢; omega)]
        simp [app]
      | false =>
        have hb : bnot false = true := rfl
        rw [hb]
        simp only [br_true, Bool.false_eq_true, if_false]
        unfold insR
        cases hc : dotLt d s.2[i] with
        | true =>
          simp only [br_true, if_true]
          rw [rput_l k s d hl za zb n (i + 1) _ true (by omega) (by omega) (by simp [app] at hx ⊢; omega)]
          simp [app]
        | false =>
          simp only [br_false, Bool.false_eq_true, if_false]
          rw [rput_l k s d hl za zb n (i + 1) _ false (by omega) (by omega) (by simp [app] at hx ⊢; omega)]
          simp [app]
    · rw [List.drop_of_length_le (by omega)]
      simp only [hi, decide_false, br_false]
      cases b with
      | true => have hb : bnot true = false := rfl
                rw [hb]; simp [br_false]
      | false => have hb : bnot false = true := rfl
                 have hx' : x.length ≤ i := hx
                 rw [hb, room1 (by omega)]; simp [br_true, insR, app]
theorem rput_is (k:Nat) (s:DSet) (d:Dot) (hl:s.2.length+1<k) (hk:k<1000000) (hs:Can s):z29.f k s d=some (putD s d):=by
 rw [z29.f_eq,rright_is,rhas_is k s d (by omega) hk hs.rt]
 simp only [bnd_some]
 unfold putD
 cases h:rightD d with
 | false=>simp [bnot,br_true]
 | true =>
  cases hm:memB s d with
  | true=>simp [bnot,br_true,br_false]
  | false =>
   have hn:d ∉ s.2:=fun hd=>by
    have:=(memB_iff s d).2 ⟨h,.inr hd⟩
    rw [hm] at this;cases this
   have hb0:bnot true=false:=rfl
   rw [hb0]
   simp only [br_false]
   have:=rput_l k s d (by omega) (zarr 16 0) [] k 0 [] false (by omega) (by omega) (by simp)
   rw [show z29.l6 k k [] false 0 s d (zarr 16 0) []=_ from this]
   simp only [List.drop_zero,List.nil_append,Bool.false_eq_true,if_false]
   rw [filled_is k (s.1,insR d s.2) (by show (insR d s.2).length<k;rw [(insR_perm d s.2).length_eq];simpa using hl) hk (fun e he=>by
    rcases List.mem_cons.1 ((insR_perm d s.2).mem_iff.1 he) with rfl | he
    ·exact h
    ·exact hs.rt e he) (insR_srt hs.srt hn) hs.vok]
   simp [bnd]
end Go.Proofs.YtggcagclpkhlhaaGreatDoor
end
noncomputable section
/- The same, and right, among sets of dots. -/
namespace Go.Proofs.YtggcagclpkhlhaaGreatDoor
open Pal
theorem eqD_l (k:Nat) (xs ys:List Dot) (hl:xs.length=ys.length) (hb:xs.length<1000000):∀ (n i:Nat),i≤xs.length→xs.length<n+i →
  z0e.l4 k n xs ys (ilen xs) (i:Int)=some (zall (fun x y=>decide (x=y)) (xs.drop i) (ys.drop i))
 | 0,i,h,h'=>by omega
 | n+1,i,h,h'=>by
  rw [z0e.l4_eq,ilt_nat,inL_nat,inL_nat,natOf_nat]
  by_cases hi:i<xs.length
  ·have hi':i<ys.length:=by omega
   rw [zall_step hi hi',rd_at' (e:=tDot) hi,rd_at' (e:=tDot) hi',deqD,bnot_dec,iadd_nat (by omega)]
   simp only [hi,hi',decide_true,br_true]
   by_cases he:xs[i]=ys[i]
   ·simp only [he,not_true,decide_true,decide_false,br_false,Bool.true_and]
    exact eqD_l k xs ys hl hb n (i+1) (by omega) (by omega)
   ·simp only [he,not_false_eq_true,decide_false,decide_true,br_true,Bool.false_and]
  ·rw [zall_end (by omega)]
   simp only [hi,decide_false,br_false]
theorem eqD (k:Nat) (xs ys:List Dot) (hb:xs.length<k) (hk:k<1000000):z0e.f k xs ys=some (decide (xs=ys)):=by
 rw [z0e.f_eq,ieq_len,bnot_dec]
 by_cases hl:xs.length=ys.length
 ·simp only [hl,not_true,decide_false,br_false]
  have:=eqD_l k xs ys hl (by omega) k 0 (by omega) (by omega)
  simp only [List.drop_zero,zall_eq xs ys hl] at this
  exact this
 ·have:xs ≠ ys:=fun e=>hl (by rw [e])
  simp only [hl,this,not_false_eq_true,decide_true,decide_false,br_true]
theorem reqD_l (k:Nat) (xs ys:List Dot) (hl:xs.length=ys.length) (hb:xs.length<1000000):∀ (n i:Nat),i≤xs.length→xs.length<n+i →
  z1Y.l4 k n xs ys (i:Int)=some (zall (fun x y=>decide (x=y)) (xs.drop i) (ys.drop i))
 | 0,i,h,h'=>by omega
 | n+1,i,h,h'=>by
  rw [z1Y.l4_eq,ilt_nat,inL_nat,inL_nat,natOf_nat]
  by_cases hi:i<xs.length
  ·have hi':i<ys.length:=by omega
   rw [zall_step hi hi',rd_at' (e:=tDot) hi,rd_at' (e:=tDot) hi',deqD,bnot_dec,iadd_nat (by omega)]
   simp only [hi,hi',decide_true,br_true]
   by_cases he:xs[i]=ys[i]
   ·simp only [he,not_true,decide_true,decide_false,br_false,Bool.true_and]
    exact reqD_l k xs ys hl hb n (i+1) (by omega) (by omega)
   ·simp only [he,not_false_eq_true,decide_false,decide_true,br_true,Bool.false_and]
  ·rw [zall_end (by omega)]
   simp only [hi,decide_false,br_false]
theorem reqD (k:Nat) (xs ys:List Dot) (hb:xs.length<k) (hk:k<1000000):z1Y.f k xs ys=some (decide (xs=ys)):=by
 rw [z1Y.f_eq,ieq_len,bnot_dec]
 by_cases hl:xs.length=ys.length
 ·simp only [hl,not_true,decide_false,br_false]
  have:=reqD_l k xs ys hl (by omega) k 0 (by omega) (by omega)
  simp only [List.drop_zero,zall_eq xs ys hl] at this
  exact this
 ·have:xs ≠ ys:=fun e=>hl (by rw [e])
  simp only [hl,this,not_false_eq_true,decide_true,decide_false,br_true]
theorem deqV (a b:Vec):deq tVec a b=decide (a=b):=by
 have h:=deq_iff tVec rfl a b
 by_cases he:a=b
 ·rw [decide_eq_true he];exact h.2 he
 ·rw [decide_eq_false he,← Bool.not_eq_true,h];exact he
theorem same_is (k:Nat) (s t:DSet) (hb:s.2.length<k) (hk:k<1000000):z2k.f k s t=some (decide (s=t)):=by
 rw [z2k.f_eq,deqV,eqD k _ _ hb hk]
 obtain ⟨a,b⟩:=s
 obtain ⟨c,d⟩:=t
 by_cases h1:a=c <;> by_cases h2:b=d <;> simp [h1,h2,br_true,br_false,bnd]
theorem rsame_is (k:Nat) (s t:DSet) (hb:s.2.length<k) (hk:k<1000000):z1t.f k s t=some (decide (s=t)):=by
 rw [z1t.f_eq,deqV,reqD k _ _ hb hk]
 obtain ⟨a,b⟩:=s
 obtain ⟨c,d⟩:=t
 by_cases h1:a=c <;> by_cases h2:b=d <;> simp [h1,h2,br_true,br_false,bnd]
def vin (v:Vec) (r:Int):Prop:=0≤vat v r∧vat v r≤1048576
theorem rvr_l (k:Nat) (v:Vec):∀ (n i:Nat),i≤16→16<n+i→∃ b,z1n.l2 k n (i:Int) v=some b∧(b=true ↔ ∀ r:Nat,i≤r→r<16→vin v r)
 | 0,i,h,h'=>by omega
 | n+1,i,h,h'=>by
  rw [z1n.l2_eq,natOf_nat]
  have e1:ilt (i:Int) 16=decide (i<16):=ilt_nn i 16
  rw [e1,inB_nat]
  by_cases hi:i<16
  ·have hv:rd (.int .i64) v i=vat v (i:Int):=rfl
   rw [hv,iadd_nat (by omega),ilt_dec,ilt_dec]
   simp only [hi,decide_true,br_true]
   by_cases h1:vat v (i:Int)<0
   ·simp only [h1,decide_true,br_true]
    exact ⟨false,rfl,⟨fun h=>(by cases h),fun h=>by have:=(h i (Nat.le_refl _) hi).1;omega⟩⟩
   ·simp only [h1,decide_false,br_false]
    by_cases h2:1048576<vat v (i:Int)
    ·simp only [h2,decide_true,br_true]
     exact ⟨false,rfl,⟨fun h=>(by cases h),fun h=>by have:=(h i (Nat.le_refl _) hi).2;omega⟩⟩
    ·simp only [h2,decide_false,br_false]
     obtain ⟨b,hb,hbi⟩:=rvr_l k v n (i+1) (by omega) (by omega)
     refine ⟨b,hb,hbi.trans ⟨fun h r hr hr2=>?_,fun h r hr hr2=>h r (by omega) hr2⟩⟩
     by_cases he:r=i
     ·subst he;exact ⟨by omega,by omega⟩
     ·exact h r (by omega) hr2
  ·simp only [hi,decide_false,br_false]
   exact ⟨true,rfl,⟨fun _ r hr hr2=>by omega,fun _=>rfl⟩⟩
theorem vok_iff {v:Vec} (hl:v.length=16):VOk v ↔ ∀ r:Nat,0≤r→r<16→vin v r:=by
 constructor
 ·intro h r _ hr;exact ⟨h.lo r (by omega) (by omega),h.hi r (by omega) (by omega)⟩
 ·intro h
  refine ⟨hl,fun r h0 h1=>?_,fun r h0 h1=>?_⟩
  ·obtain ⟨a,rfl⟩:=Int.eq_ofNat_of_zero_le h0;exact (h a (by omega) (by omega)).1
  ·obtain ⟨a,rfl⟩:=Int.eq_ofNat_of_zero_le h0;exact (h a (by omega) (by omega)).2
theorem rvr_is (k:Nat) (v:Vec) (hl:v.length=16) (hk:17<k):∃ b,z1n.f k v=some b∧(b=true ↔ VOk v):=by
 rw [z1n.f_eq,vok_iff hl]
 exact rvr_l k v k 0 (by omega) (by omega)
theorem vr_l (k:Nat) (v:Vec):∀ (n i:Nat),i≤16→16<n+i→∃ b,z2g.l2 k n v (i:Int)=some b∧(b=true ↔ ∀ r:Nat,i≤r→r<16→vin v r)
 | 0,i,h,h'=>by omega
 | n+1,i,h,h'=>by
  rw [z2g.l2_eq,natOf_nat]
  have e1:ilt (i:Int) 16=decide (i<16):=ilt_nn i 16
  rw [e1,inB_nat]
  by_cases hi:i<16
  ·have hv:rd (.int .i64) v i=vat v (i:Int):=rfl
   rw [hv,iadd_nat (by omega),ilt_dec,ilt_dec]
   simp only [hi,decide_true,br_true]
   by_cases h1:vat v (i:Int)<0
   ·simp only [h1,decide_true,br_true]
    exact ⟨false,rfl,⟨fun h=>(by cases h),fun h=>by have:=(h i (Nat.le_refl _) hi).1;omega⟩⟩
   ·simp only [h1,decide_false,br_false]
    by_cases h2:1048576<vat v (i:Int)
    ·simp only [h2,decide_true,br_true]
     exact ⟨false,rfl,⟨fun h=>(by cases h),fun h=>by have:=(h i (Nat.le_refl _) hi).2;omega⟩⟩
    ·simp only [h2,decide_false,br_false]
     obtain ⟨b,hb,hbi⟩:=vr_l k v n (i+1) (by omega) (by omega)
     refine ⟨b,hb,hbi.trans ⟨fun h r hr hr2=>?_,fun h r hr hr2=>h r (by omega) hr2⟩⟩
     by_cases he:r=i
     ·subst he;exact ⟨by omega,by omega⟩
     ·exact h r (by omega) hr2
  ·simp only [hi,decide_false,br_false]
   exact ⟨true,rfl,⟨fun _ r hr hr2=>by omega,fun _=>rfl⟩⟩
theorem vr_is (k:Nat) (v:Vec) (hl:v.length=16) (hk:17<k):∃ b,z2g.f k v=some b∧(b=true ↔ VOk v):=by
 rw [z2g.f_eq,vok_iff hl]
 exact vr_l k v k 0 (by omega) (by omega)
def okAt (s:DSet) (j:Nat) (h:j<s.2.length):Prop:=rightD s.2[j]=true∧vat s.1 s.2[j].1+1<s.2[j].2∧(∀ h0:0<j,dotLt (s.2[j - 1]'(by omega)) s.2[j]=true)
theorem can_iff {s:DSet} (hv:VOk s.1):Can s ↔ ∀ j (h:j<s.2.length),0≤j→okAt s j h:=by
 constructor
 ·intro hs j h _
  exact ⟨hs.rt _ (List.getElem_mem h),hs.gap _ (List.getElem_mem h),fun h0=>srt_get hs.srt (by omega) h (by omega)⟩
 ·intro h
  refine ⟨hv,fun d hd=>?_,fun d hd=>?_,?_⟩
  ·obtain ⟨j,hj,rfl⟩:=List.getElem_of_mem hd;exact (h j hj (Nat.zero_le _)).1
  ·obtain ⟨j,hj,rfl⟩:=List.getElem_of_mem hd;exact (h j hj (Nat.zero_le _)).2.1
  ·have key:∀ t i (hi:i<s.2.length) (hj:i+1+t<s.2.length),dotLt s.2[i] s.2[i+1+t]=true:=by
    intro t
    induction t with
    | zero=>intro i hi hj;exact (h (i+1) hj (Nat.zero_le _)).2.2 (by omega)
    | succ t ih =>
     intro i hi hj
     have h1:=ih i hi (by omega)
     have h2:=(h (i+1+(t+1)) hj (Nat.zero_le _)).2.2 (by omega)
     exact dotLt_swo.trans _ _ _ h1 h2
   rw [List.pairwise_iff_getElem]
   intro i j hi hj hij
   have:=key (j - i - 1) i hi (by omega)
   have e:i+1+(j - i - 1)=j:=by omega
   simp only [e] at this;exact this
theorem cmp_m1 (a b:Dot):bnot (ieq (cmpD a b) (-1))=!dotLt a b:=by
 have h1:∀ x y:Int,cmpI x y=-1∨cmpI x y=0∨cmpI x y=1:=fun x y=>by unfold cmpI;split <;> (try split) <;> simp
 have h:cmpD a b=-1∨cmpD a b=0∨cmpD a b=1:=by unfold cmpD;split <;> exact h1 _ _
 show bnot (ieq (cmpD a b) (-1))=!decide (cmpD a b<0)
 rcases h with h | h | h <;> rw [h] <;> rfl
theorem rr_l (k:Nat) (s:DSet) (hl:s.2.length<1000000) (hv:VOk s.1):∀ (n i:Nat),i≤s.2.length→s.2.length<n+i→∃ b,z1f.l4 k n (i:Int) s=some b∧(b=true ↔ ∀ j (h:j<s.2.length),i≤j→okAt s j h)
 | 0,i,h,h'=>by omega
 | n+1,i,h,h'=>by
  rw [z1f.l4_eq,ilt_nat,inL_nat,natOf_nat]
  by_cases hi:i<s.2.length
  ·rw [rd_at' (e:=tDot) hi,rright_is,iadd_nat (by omega)]
   simp only [hi,decide_true,br_true,bnd_some]
   cases hr:rightD s.2[i] with
   | false =>
    have e:bnot false=true:=rfl
    rw [e]
    exact ⟨false,rfl,⟨fun h=>(by cases h),fun h=>by rw [(h i hi (Nat.le_refl _)).1] at hr;cases hr⟩⟩
   | true =>
    have e:bnot true=false:=rfl
    obtain ⟨r0,r1,r2,r3⟩:=(rightD_iff s.2[i]).1 hr
    have hvv:rd (.int .i64) s.1 (natOf s.2[i].1)=vat s.1 s.2[i].1:=rfl
    rw [e,inB16 r0 r1,hvv,isub_s (by omega) (by omega) (by omega) (by omega),ile_dec]
    simp only [br_true,br_false]
    by_cases hg:s.2[i].2 - 1≤vat s.1 s.2[i].1
    ·simp only [hg,decide_true,br_true]
     exact ⟨false,rfl,⟨fun h=>(by cases h),fun h=>by have:=(h i hi (Nat.le_refl _)).2.1;omega⟩⟩
    ·simp only [hg,decide_false,br_false]
     obtain ⟨b,hb,hbi⟩:=rr_l k s hl hv n (i+1) (by omega) (by omega)
     have step:(∀ h0:0<i,dotLt (s.2[i - 1]'(by omega)) s.2[i]=true)→(b=true ↔ ∀ j (h:j<s.2.length),i≤j→okAt s j h):=fun hlt=>hbi.trans ⟨fun h j hj hij=>by
      by_cases he:j=i
      ·subst he;exact ⟨hr,by omega,hlt⟩
      ·exact h j hj (by omega),fun h j hj hij=>h j hj (by omega)⟩
     by_cases h0:0<i
     ·have e2:ilt 0 (i:Int)=true:=by simp [ilt];omega
      have e3:isub .i64 (i:Int) 1=((i - 1:Nat):Int):=by rw [isub_s (by omega) (by omega) (by omega) (by omega)];omega
      have hi1:i - 1<s.2.length:=by omega
      rw [e2,e3,inL_nat,natOf_nat,rd_at' (e:=tDot) hi1,rcmp_is]
      simp only [hi1,decide_true,br_true,bnd_some,cmp_m1]
      cases hc:dotLt s.2[i - 1] s.2[i] with
      | true=>exact ⟨b,hb,step fun _=>hc⟩
      | false=>exact ⟨false,rfl,⟨fun h=>(by cases h),fun h=>by have:=(h i hi (Nat.le_refl _)).2.2 h0;rw [hc] at this;cases this⟩⟩
     ·have e2:ilt 0 (i:Int)=false:=by simp [ilt];omega
      rw [e2]
      exact ⟨b,hb,step fun h=>absurd h h0⟩
  ·simp only [hi,decide_false,br_false]
   exact ⟨true,rfl,⟨fun _ j hj hij=>by omega,fun _=>rfl⟩⟩
theorem rr_is (k:Nat) (s:DSet) (hl:s.1.length=16) (hk:5000<k) (hk2:k<1000000):∃ b,z1f.f k s=some b∧(b=true ↔ Can s∧s.2.length≤4096):=by
 obtain ⟨b,hb,hbi⟩:=rvr_is k s.1 hl (by omega)
 rw [z1f.f_eq,hb]
 simp only [bnd_some]
 cases b with
 | false=>exact ⟨false,rfl,⟨fun h=>(by cases h),fun h=>hbi.2 h.1.vok⟩⟩
 | true =>
  have hv:=hbi.1 rfl
  have e:bnot true=false:=rfl
  have e2:ilt 4096 (ilen s.2)=decide (4096<s.2.length):=ilt_nat 4096 s.2
  rw [e,e2]
  simp only [br_false]
  by_cases h:4096<s.2.length
  ·simp only [h,decide_true,br_true]
   exact ⟨false,rfl,⟨fun h=>(by cases h),fun h=>by omega⟩⟩
  ·simp only [h,decide_false,br_false]
   obtain ⟨b,hb,hbi⟩:=rr_l k s (by omega) hv k 0 (by omega) (by omega)
   exact ⟨b,hb,hbi.trans ⟨fun h2=>⟨(can_iff hv).2 h2,by omega⟩,fun h2=>(can_iff hv).1 h2.1⟩⟩
end Go.Proofs.YtggcagclpkhlhaaGreatDoor
end
noncomputable section
/- Whether a set is right, how many dots there are, and the next one's number. -/
namespace Go.Proofs.YtggcagclpkhlhaaGreatDoor
open Pal
theorem dr_l (k:Nat) (s:DSet) (hl:s.2.length<1000000) (hv:VOk s.1):∀ (n i:Nat),i≤s.2.length→s.2.length<n+i→∃ b,z1I.l4 (k+3) n s.2 (ilen s.2) (i:Int) s=some b∧(b=true ↔ ∀ j (h:j<s.2.length),i≤j→okAt s j h)
 | 0,i,h,h'=>by omega
 | n+1,i,h,h'=>by
  rw [z1I.l4_eq,ilt_nat,inL_nat,natOf_nat]
  by_cases hi:i<s.2.length
  ·rw [rd_at' (e:=tDot) hi,right_is,iadd_nat (by omega)]
   simp only [hi,decide_true,br_true,bnd_some]
   cases hr:rightD s.2[i] with
   | false =>
    have e:bnot false=true:=rfl
    rw [e]
    exact ⟨false,rfl,⟨fun h=>(by cases h),fun h=>by rw [(h i hi (Nat.le_refl _)).1] at hr;cases hr⟩⟩
   | true =>
    have e:bnot true=false:=rfl
    obtain ⟨r0,r1,r2,r3⟩:=(rightD_iff s.2[i]).1 hr
    have hvv:rd (.int .i64) s.1 (natOf s.2[i].1)=vat s.1 s.2[i].1:=rfl
    have v0:=hv.lo s.2[i].1 r0 r1
    have v1:=hv.hi s.2[i].1 r0 r1
    rw [e,inB16 r0 r1,hvv,iadd_s (by omega) (by omega) (by omega) (by omega),ile_dec]
    simp only [br_true,br_false]
    by_cases hg:s.2[i].2≤vat s.1 s.2[i].1+1
    ·simp only [hg,decide_true,br_true]
     exact ⟨false,rfl,⟨fun h=>(by cases h),fun h=>by have:=(h i hi (Nat.le_refl _)).2.1;omega⟩⟩
    ·simp only [hg,decide_false,br_false]
     obtain ⟨b,hb,hbi⟩:=dr_l k s hl hv n (i+1) (by omega) (by omega)
     have step:(∀ h0:0<i,dotLt (s.2[i - 1]'(by omega)) s.2[i]=true)→(b=true ↔ ∀ j (h:j<s.2.length),i≤j→okAt s j h):=fun hlt=>hbi.trans ⟨fun h j hj hij=>by
      by_cases he:j=i
      ·subst he;exact ⟨hr,by omega,hlt⟩
      ·exact h j hj (by omega),fun h j hj hij=>h j hj (by omega)⟩
     by_cases h0:0<i
     ·have e2:ilt 0 (i:Int)=true:=by simp [ilt];omega
      have e3:isub .i64 (i:Int) 1=((i - 1:Nat):Int):=by rw [isub_s (by omega) (by omega) (by omega) (by omega)];omega
      have hi1:i - 1<s.2.length:=by omega
      have e4:∀ a b:Dot,ile 0 (cmpD a b)=!dotLt a b:=fun a b=>by
       show decide (0≤cmpD a b)=!decide (cmpD a b<0)
       by_cases h:cmpD a b<0
       ·rw [decide_eq_true h,decide_eq_false (by omega)];rfl
       ·rw [decide_eq_false h,decide_eq_true (by omega)];rfl
      rw [e2,e3,inL_nat,natOf_nat,rd_at' (e:=tDot) hi1,cmpD_is]
      simp only [hi1,decide_true,br_true,bnd_some,e4]
      cases hc:dotLt s.2[i - 1] s.2[i] with
      | true=>exact ⟨b,hb,step fun _=>hc⟩
      | false=>exact ⟨false,rfl,⟨fun h=>(by cases h),fun h=>by have:=(h i hi (Nat.le_refl _)).2.2 h0;rw [hc] at this;cases this⟩⟩
     ·have e2:ilt 0 (i:Int)=false:=by simp [ilt];omega
      rw [e2]
      exact ⟨b,hb,step fun h=>absurd h h0⟩
  ·simp only [hi,decide_false,br_false]
   exact ⟨true,rfl,⟨fun _ j hj hij=>by omega,fun _=>rfl⟩⟩
theorem dr_is (k:Nat) (s:DSet) (hl:s.1.length=16) (hk:5000<k) (hk2:k<1000000):∃ b,z1I.f k s=some b∧(b=true ↔ Can s∧s.2.length≤4096):=by
 obtain ⟨b,hb,hbi⟩:=vr_is k s.1 hl (by omega)
 rw [z1I.f_eq,hb]
 simp only [bnd_some]
 cases b with
 | false=>exact ⟨false,rfl,⟨fun h=>(by cases h),fun h=>hbi.2 h.1.vok⟩⟩
 | true =>
  have hv:=hbi.1 rfl
  have e:bnot true=false:=rfl
  have e2:ilt 4096 (ilen s.2)=decide (4096<s.2.length):=ilt_nat 4096 s.2
  rw [e,e2]
  simp only [br_false]
  by_cases h:4096<s.2.length
  ·simp only [h,decide_true,br_true]
   exact ⟨false,rfl,⟨fun h=>(by cases h),fun h=>by omega⟩⟩
  ·simp only [h,decide_false,br_false]
   obtain ⟨q,rfl⟩:∃ q,k=q+3:=⟨k - 3,by omega⟩
   obtain ⟨b,hb,hbi⟩:=dr_l q s (by omega) hv (q+3) 0 (by omega) (by omega)
   exact ⟨b,hb,hbi.trans ⟨fun h2=>⟨(can_iff hv).2 h2,by omega⟩,fun h2=>(can_iff hv).1 h2.1⟩⟩
end Go.Proofs.YtggcagclpkhlhaaGreatDoor
end
noncomputable section
/- Unions, and what is within what. -/
namespace Go.Proofs.YtggcagclpkhlhaaGreatDoor
open Pal
end Go.Proofs.YtggcagclpkhlhaaGreatDoor
end
noncomputable section
/- That runs answer; binary search. -/
namespace Go.Proofs.YtggcagclpkhlhaaGreatDoor.Pal
open Go
end Go.Proofs.YtggcagclpkhlhaaGreatDoor.Pal
end
noncomputable section
/- The document's checks of names, paths, values, operations and transactions answer, of short ones. -/
namespace Go.Proofs.YtggcagclpkhlhaaGreatDoor
open Pal
abbrev Str:=List UInt8
abbrev Val:=Int × (Int × Str)
abbrev Op:=Int × (List Str × (Val × (Int × List (Dot × Int))))
abbrev Txn:=Dot × (Int × (Int × (Bool × List Op)))
noncomputable instance decOp:DecidableEq Op:=fun a b=>Classical.propDecidable (a=b)
noncomputable instance decTxn:DecidableEq Txn:=fun a b=>Classical.propDecidable (a=b)
theorem ilt_lenR {α:Type} (c:Nat) (xs:List α):ilt (c:Int) (ilen xs)=decide (c<xs.length):=by unfold ilt ilen;exact decide_eq_decide.2 ⟨fun h=>by omega,fun h=>by omega⟩
theorem ile_len {α:Type} (c:Nat) (xs:List α):ile (ilen xs) (c:Int)=decide (xs.length≤c):=by unfold ile ilen;exact decide_eq_decide.2 ⟨fun h=>by omega,fun h=>by omega⟩
theorem rchar_is (k:Nat) (s:Str) (hk:10<k) (hs:s.length<4000000):∃ (c n:Int),z1W.f k s=some (c,n)∧0≤n∧n≤(s.length:Int):=by
 rw [z1W.f_eq]
 have e0:ieq (ilen s) 0=decide (s.length=0):=ieq0 s
 rw [e0]
 by_cases h0:s.length=0
 ·rw [decide_eq_true h0];exact ⟨0,0,rfl,by decide,by omega⟩
 rw [decide_eq_false h0]
 have e1:inL 0 s=true:=by
  have:=inL_nat 0 s
  rw [show inL 0 s=decide (0<s.length) from this];exact decide_eq_true (by omega)
 have l2:∀ c:Nat,ilt (ilen s) (c:Int)=decide (s.length<c):=fun c=>by unfold ilt ilen;exact decide_eq_decide.2 ⟨fun h=>by omega,fun h=>by omega⟩
 have key:∀ (N:Nat) (m x:Int),1≤N→N≤s.length→N≤4→∃ (c n:Int),z1W.l17 k k s x (N:Int) m 1=some (c,n)∧0≤n∧n≤(s.length:Int):=by
  intro N m x hN1 hN hN4
  have:∀ n i (x:Int),1≤i→N<n+i→i≤N→∃ (c q:Int),z1W.l17 k n s x (N:Int) m (i:Int)=some (c,q)∧0≤q∧q≤(s.length:Int):=by
   intro n
   induction n with
   | zero =>
    intro i x h1 h2 h3
    omega
   | succ n ih =>
    intro i x h1 h2 h3
    rw [z1W.l17_eq,ilt_nn]
    by_cases hi:i<N
    ·have e2:inL (i:Int) s=true:=by rw [inL_nat];exact decide_eq_true (by omega)
     have e3:iadd .i64 (i:Int) 1=((i+1:Nat):Int):=iadd_nat (by omega)
     rw [decide_eq_true hi,e2,e3]
     simp only [br_true]
     have z:∃ (c q:Int),(some ((0:Int),(0:Int)))=some (c,q)∧0≤q∧q≤(s.length:Int):=⟨0,0,rfl,by decide,by omega⟩
     have y:=ih (i+1) (isub .i64 (iadd .i64 (imul .i64 64 x) (iwrap .i64 (byteAt s (i:Int)))) 128) (by omega) (by omega) (by omega)
     cases ilt (byteAt s (i:Int)) 128 with
     | true=>exact z
     | false =>
      cases ilt 191 (byteAt s (i:Int)) with
      | true=>exact z
      | false=>exact y
    ·rw [decide_eq_false hi]
     simp only [br_false]
     have z:∃ (c q:Int),(some ((0:Int),(0:Int)))=some (c,q)∧0≤q∧q≤(s.length:Int):=⟨0,0,rfl,by decide,by omega⟩
     have y:∃ (c q:Int),(some (x,(N:Int)))=some (c,q)∧0≤q∧q≤(s.length:Int):=⟨x,N,rfl,by omega,by omega⟩
     cases ilt x m with
     | true=>exact z
     | false =>
      cases ilt 1114111 x with
      | true=>exact z
      | false =>
       cases ile 55296 x with
       | false=>exact y
       | true=>cases ile x 57343 with
        | true=>exact z
        | false=>exact y
  exact this k 1 x (by omega) (by omega) (by omega)
 have z:∃ (c q:Int),(some ((0:Int),(0:Int)))=some (c,q)∧0≤q∧q≤(s.length:Int):=⟨0,0,rfl,by decide,by omega⟩
 have kk:∀ (N:Nat) (m x:Int),1≤N→N≤4→∃ (c n:Int),br (ilt (ilen s) (N:Int)) (some ((0:Int),(0:Int))) (z1W.l17 k k s x (N:Int) m 1)=some (c,n)∧0≤n∧n≤(s.length:Int):=by
  intro N m x hN1 hN
  rw [l2]
  by_cases h:s.length<N
  ·rw [decide_eq_true h];exact z
  ·rw [decide_eq_false h];exact key N m x hN1 (by omega) hN
 have k2:=fun m x=>kk 2 m x (by decide) (by decide)
 have k3:=fun m x=>kk 3 m x (by decide) (by decide)
 have k4:=fun m x=>kk 4 m x (by decide) (by decide)
 rw [e1]
 simp only [br_true,br_false]
 generalize iwrap .i64 (byteAt s 0)=b
 cases ilt b 128 with
 | true=>exact ⟨b,1,rfl,by decide,by omega⟩
 | false =>
  cases ile 194 b <;> cases ilt b 224 <;> cases ile 224 b <;> cases ilt b 240 <;> cases ile 240 b <;> cases ilt b 245 <;> simp only [br_true,br_false] <;> first | exact z | exact k2 _ _ | exact k3 _ _ | exact k4 _ _
def ShortP (p:List Str):Prop:=p.length≤12∧∀ s ∈ p,List.length s≤120
structure ShortO (o:Op):Prop where
 path:ShortP o.2.1
 val:o.2.2.1.2.2.length≤200
 seen:o.2.2.2.2.length≤300
structure ShortT (t:Txn):Prop where
 len:t.2.2.2.2.length≤20
 ops:∀ o ∈ t.2.2.2.2,ShortO o
theorem rpathshort_is (k:Nat) (p:List Str) (hk:1000<k) (hk2:k<1000000):∃ b,z1i.f k p=some b∧(b=true→ShortP p):=by
 rw [z1i.f_eq,show ilt 12 (ilen p)=decide (12<p.length) from ilt_lenR 12 p]
 by_cases h:12<p.length
 ·rw [decide_eq_true h];exact ⟨false,rfl,fun h=>by cases h⟩
 ·rw [decide_eq_false h]
  simp only [br_false]
  obtain ⟨b,hb,hbi⟩:=loop_all' p.length (fun n i=>z1i.l4 k n p (i:Int)) (fun j=>∀ s,p[j]? = some s→List.length s≤120) (fun n i hi=>by
   have e3:iadd .i64 (i:Int) 1=((i+1:Nat):Int):=iadd_nat (by omega)
   have e4:ilt 120 (ilen p[i])=decide (120<List.length p[i]):=ilt_lenR 120 p[i]
   simp only [z1i.l4_eq,ilt_nat,inL_nat,natOf_nat,hi,decide_true,br_true,e3,rd_at' (e:=.str) hi,e4,br_dec,List.getElem?_eq_getElem hi]
   by_cases hl:120<List.length p[i]
   ·exact .inr ⟨fun hh=>by have:=hh _ rfl;omega,if_pos hl⟩
   ·exact .inl ⟨fun s hs=>by injection hs with hs;subst hs;omega,if_neg hl⟩) (fun n=>by simp only [z1i.l4_eq,ilt_nat,Nat.lt_irrefl,decide_false,br_false]) k 0 (by omega) (by omega)
  refine ⟨b,hb,fun hh=>⟨by omega,fun s hs=>?_⟩⟩
  obtain ⟨j,hj,rfl⟩:=List.mem_iff_getElem.1 hs
  exact hbi.1 hh j (by omega) hj _ (List.getElem?_eq_getElem hj)
theorem ropshort_is (k:Nat) (o:Op) (hk:1000<k) (hk2:k<1000000):∃ b,z1b.f k o=some b∧(b=true→ShortO o):=by
 obtain ⟨b,hb,hbi⟩:=rpathshort_is k o.2.1 hk hk2
 rw [z1b.f_eq,hb]
 simp only [bnd_some]
 rw [show ile (ilen o.2.2.1.2.2) 200=decide (o.2.2.1.2.2.length≤200) from ile_len 200 _,show ile (ilen o.2.2.2.2) 300=decide (o.2.2.2.2.length≤300) from ile_len 300 _]
 cases b with
 | false=>exact ⟨false,rfl,fun h=>by cases h⟩
 | true =>
  simp only [br_true,br_dec]
  by_cases h:o.2.2.1.2.2.length≤200
  ·rw [if_pos h];exact ⟨_,rfl,fun hh=>⟨hbi rfl,h,of_decide_eq_true hh⟩⟩
  ·rw [if_neg h];exact ⟨false,rfl,fun h=>by cases h⟩
def shortAt (k:Nat) (t:Txn) (j:Nat):Prop:=∀ o,t.2.2.2.2[j]? = some o→∃ b,z1b.f k o=some b∧b=true
theorem rtxnshort_is (k:Nat) (t:Txn) (hk:1000<k) (hk2:k<1000000):∃ b,z1l.f k t=some b∧(b=true→ShortT t):=by
 rw [z1l.f_eq,show ilt 20 (ilen t.2.2.2.2)=decide (20<t.2.2.2.2.length) from ilt_lenR 20 _]
 by_cases h:20<t.2.2.2.2.length
 ·rw [decide_eq_true h];exact ⟨false,rfl,fun h=>by cases h⟩
 ·rw [decide_eq_false h]
  simp only [br_false]
  obtain ⟨b,hb,hbi⟩:=loop_all' t.2.2.2.2.length (fun n i=>br (decide True) (z1l.l4 k n (i:Int) t) none) (shortAt k t) (fun n i hi=>by
   have e3:iadd .i64 (i:Int) 1=((i+1:Nat):Int):=iadd_nat (by omega)
   obtain ⟨b,hb,_⟩:=ropshort_is k t.2.2.2.2[i] hk hk2
   simp only [decide_true,br_true,z1l.l4_eq,ilt_nat,inL_nat,natOf_nat,hi,e3,rd_at' (e:=tOp) hi,hb,bnd_some]
   cases b with
   | false=>exact .inr ⟨fun hh=>(by obtain ⟨c,h1,h2⟩:=hh _ (List.getElem?_eq_getElem hi);rw [hb] at h1;injection h1 with h1;subst h1;cases h2),rfl⟩
   | true=>exact .inl ⟨fun s hs=>(by rw [List.getElem?_eq_getElem hi] at hs;injection hs with hs;subst hs;exact ⟨true,hb,rfl⟩),rfl⟩) (fun n=>by simp only [decide_true,br_true,z1l.l4_eq,ilt_nat,Nat.lt_irrefl,decide_false,br_false]) k 0 (by omega) (by omega)
  refine ⟨b,hb,fun hh=>⟨by omega,fun o ho=>?_⟩⟩
  obtain ⟨j,hj,rfl⟩:=List.mem_iff_getElem.1 ho
  obtain ⟨c,h1,h2⟩:=hbi.1 hh j (by omega) hj _ (List.getElem?_eq_getElem hj)
  obtain ⟨d,h3,h4⟩:=ropshort_is k _ hk hk2
  rw [h3] at h1;injection h1 with h1;subst h1
  exact h4 h2
end Go.Proofs.YtggcagclpkhlhaaGreatDoor
end
noncomputable section
/- The document's characters are the machine's. -/
namespace Go.Proofs.YtggcagclpkhlhaaGreatDoor
open Pal
def finN (x m w:Nat):Nat × Nat:=if x<m∨1114111<x∨(55296≤x∧x≤57343) then (0,0) else (x,w)
def refN (n b0 b1 b2 b3:Nat):Nat × Nat :=
 if b0<128 then (b0,1)
 else if 194≤b0∧b0<224 then (if n<2 then (0,0) else if b1<128∨191<b1 then (0,0) else finN (64 * (b0 - 192)+b1 - 128) 128 2)
 else if 224≤b0∧b0<240 then (if n<3 then (0,0) else if b1<128∨191<b1 then (0,0) else if b2<128∨191<b2 then (0,0) else finN (64 * (64 * (b0 - 224)+b1 - 128)+b2 - 128) 2048 3)
 else if 240≤b0∧b0<245 then (if n<4 then (0,0) else if b1<128∨191<b1 then (0,0) else if b2<128∨191<b2 then (0,0) else if b3<128∨191<b3 then (0,0) else finN (64 * (64 * (64 * (b0 - 240)+b1 - 128)+b2 - 128)+b3 - 128) 65536 4)
 else (0,0)
def charN (n b0 b1 b2 b3:Nat):Nat × Nat:=if (Go.Lib.decodeN n b0 b1 b2 b3).1=65533∧(Go.Lib.decodeN n b0 b1 b2 b3).2≤1 then (0,0) else Go.Lib.decodeN n b0 b1 b2 b3
theorem charN_bad {n b0 b1 b2 b3:Nat} (e:Go.Lib.decodeN n b0 b1 b2 b3=(65533,1)):charN n b0 b1 b2 b3=(0,0):=by
 unfold charN;rw [e];exact if_pos ⟨rfl,Nat.le_refl _⟩
theorem charN_ok {n b0 b1 b2 b3 c w:Nat} (e:Go.Lib.decodeN n b0 b1 b2 b3=(c,w)) (h:¬ (c=65533∧w≤1)):charN n b0 b1 b2 b3=(c,w):=by
 unfold charN;rw [e];exact if_neg h
theorem decN2 {n b0 b1 b2 b3:Nat} (h:194≤b0∧b0<224):Go.Lib.decodeN n b0 b1 b2 b3=if 1<n∧b1 / 64=2 then (b0 % 32 * 64+b1 % 64,2) else (65533,1):=by
 unfold Go.Lib.decodeN
 rw [if_neg (show ¬ b0<128 by omega)]
 by_cases g:1<n∧b1 / 64=2
 ·rw [if_pos (show b0 / 32=6∧(1<n∧b1 / 64=2) from ⟨by omega,g⟩),if_pos g,if_pos (show b0 % 32 * 64+b1 % 64≥128 by omega)]
 ·rw [if_neg (show ¬ (b0 / 32=6∧(1<n∧b1 / 64=2)) from fun h=>g h.2),if_neg g,if_neg (fun hh=>by omega),if_neg (fun hh=>by omega)]
def val3 (b0 b1 b2:Nat):Nat:=b0 % 16 * 4096+b1 % 64 * 64+b2 % 64
def val4 (b0 b1 b2 b3:Nat):Nat:=b0 % 8 * 262144+b1 % 64 * 4096+b2 % 64 * 64+b3 % 64
theorem decN3 {n b0 b1 b2 b3:Nat} (h:224≤b0∧b0<240):Go.Lib.decodeN n b0 b1 b2 b3=if (1<n∧b1 / 64=2)∧(2<n∧b2 / 64=2) then (if val3 b0 b1 b2≥2048∧(val3 b0 b1 b2<55296∨(57344≤val3 b0 b1 b2∧val3 b0 b1 b2≤1114111)) then (val3 b0 b1 b2,3) else (65533,1)) else (65533,1):=by
 unfold Go.Lib.decodeN
 rw [if_neg (show ¬ b0<128 by omega),if_neg (show ¬ (b0 / 32=6∧(1<n∧b1 / 64=2)) from fun hh=>by omega)]
 by_cases g:(1<n∧b1 / 64=2)∧(2<n∧b2 / 64=2)
 ·rw [if_pos (show b0 / 16=14∧(1<n∧b1 / 64=2)∧(2<n∧b2 / 64=2) from ⟨by omega,g⟩),if_pos g];rfl
 ·rw [if_neg (show ¬ (b0 / 16=14∧(1<n∧b1 / 64=2)∧(2<n∧b2 / 64=2)) from fun h=>g h.2),if_neg g,if_neg (fun hh=>by omega)]
theorem decN4 {n b0 b1 b2 b3:Nat} (h:240≤b0∧b0<248):Go.Lib.decodeN n b0 b1 b2 b3=if (1<n∧b1 / 64=2)∧(2<n∧b2 / 64=2)∧(3<n∧b3 / 64=2) then (if val4 b0 b1 b2 b3≥65536∧(val4 b0 b1 b2 b3<55296∨(57344≤val4 b0 b1 b2 b3∧val4 b0 b1 b2 b3≤1114111)) then (val4 b0 b1 b2 b3,4) else (65533,1)) else (65533,1):=by
 unfold Go.Lib.decodeN
 rw [if_neg (show ¬ b0<128 by omega),if_neg (show ¬ (b0 / 32=6∧(1<n∧b1 / 64=2)) from fun hh=>by omega),if_neg (show ¬ (b0 / 16=14∧(1<n∧b1 / 64=2)∧(2<n∧b2 / 64=2)) from fun hh=>by omega)]
 by_cases g:(1<n∧b1 / 64=2)∧(2<n∧b2 / 64=2)∧(3<n∧b3 / 64=2)
 ·rw [if_pos (show b0 / 8=30∧(1<n∧b1 / 64=2)∧(2<n∧b2 / 64=2)∧(3<n∧b3 / 64=2) from ⟨by omega,g⟩),if_pos g];rfl
 ·rw [if_neg (show ¬ (b0 / 8=30∧(1<n∧b1 / 64=2)∧(2<n∧b2 / 64=2)∧(3<n∧b3 / 64=2)) from fun h=>g h.2),if_neg g]
theorem decN0 {n b0 b1 b2 b3:Nat} (h:(128≤b0∧b0<194)∨248≤b0) (hb:b0<256):Go.Lib.decodeN n b0 b1 b2 b3=(65533,1):=by
 unfold Go.Lib.decodeN
 rw [if_neg (show ¬ b0<128 by omega)]
 by_cases g:b0 / 32=6∧(1<n∧b1 / 64=2)
 ·rw [if_pos g,if_neg (show ¬ b0 % 32 * 64+b1 % 64≥128 by omega)]
 ·rw [if_neg g,if_neg (show ¬ (b0 / 16=14∧(1<n∧b1 / 64=2)∧(2<n∧b2 / 64=2)) from fun hh=>by omega),if_neg (show ¬ (b0 / 8=30∧(1<n∧b1 / 64=2)∧(2<n∧b2 / 64=2)∧(3<n∧b3 / 64=2)) from fun hh=>by omega)]
theorem finN_no {x m w:Nat} (h:¬ (x≥m∧(x<55296∨(57344≤x∧x≤1114111)))):finN x m w=(0,0):=if_pos (by omega)
theorem finN_ok {x m w:Nat} (h:x≥m∧(x<55296∨(57344≤x∧x≤1114111))):finN x m w=(x,w):=if_neg (by omega)
theorem refN_eq (n b0 b1 b2 b3:Nat) (hn:1≤n) (h0:b0<256) (h1:b1<256) (h2:b2<256) (h3:b3<256):refN n b0 b1 b2 b3=charN n b0 b1 b2 b3:=by
 unfold refN
 by_cases c0:b0<128
 ·have e:Go.Lib.decodeN n b0 b1 b2 b3=(b0,1):=by unfold Go.Lib.decodeN;rw [if_pos c0]
  rw [if_pos c0,charN_ok e (fun h=>by omega)]
 rw [if_neg c0]
 by_cases c1:194≤b0∧b0<224
 ·rw [if_pos c1]
  have e:=decN2 (n:=n) (b1:=b1) (b2:=b2) (b3:=b3) c1
  by_cases g:1<n∧b1 / 64=2
  ·rw [if_pos g] at e
   rw [charN_ok e (fun h=>by omega),if_neg (show ¬ n<2 by omega),if_neg (show ¬ (b1<128∨191<b1) by omega),show 64 * (b0 - 192)+b1 - 128=b0 % 32 * 64+b1 % 64 by omega]
   exact finN_ok (by omega)
  ·rw [if_neg g] at e
   rw [charN_bad e]
   by_cases g1:n<2
   ·rw [if_pos g1]
   ·rw [if_neg g1,if_pos (show b1<128∨191<b1 by omega)]
 rw [if_neg c1]
 by_cases c2:224≤b0∧b0<240
 ·rw [if_pos c2]
  have e:=decN3 (n:=n) (b1:=b1) (b2:=b2) (b3:=b3) c2
  by_cases g:(1<n∧b1 / 64=2)∧(2<n∧b2 / 64=2)
  ·rw [if_pos g] at e
   rw [if_neg (show ¬ n<3 by omega),if_neg (show ¬ (b1<128∨191<b1) by omega),if_neg (show ¬ (b2<128∨191<b2) by omega),show 64 * (64 * (b0 - 224)+b1 - 128)+b2 - 128=val3 b0 b1 b2 by unfold val3;omega]
   by_cases q:val3 b0 b1 b2≥2048∧(val3 b0 b1 b2<55296∨(57344≤val3 b0 b1 b2∧val3 b0 b1 b2≤1114111))
   ·rw [if_pos q] at e
    rw [charN_ok e (fun h=>by omega),finN_ok q]
   ·rw [if_neg q] at e
    rw [charN_bad e,finN_no q]
  ·rw [if_neg g] at e
   rw [charN_bad e]
   by_cases g1:n<3
   ·rw [if_pos g1]
   ·rw [if_neg g1]
    by_cases g2:b1<128∨191<b1
    ·rw [if_pos g2]
    ·rw [if_neg g2,if_pos (show b2<128∨191<b2 by omega)]
 rw [if_neg c2]
 by_cases c3:240≤b0∧b0<245
 ·rw [if_pos c3]
  have e:=decN4 (n:=n) (b1:=b1) (b2:=b2) (b3:=b3) (show 240≤b0∧b0<248 by omega)
  by_cases g:(1<n∧b1 / 64=2)∧(2<n∧b2 / 64=2)∧(3<n∧b3 / 64=2)
  ·rw [if_pos g] at e
   rw [if_neg (show ¬ n<4 by omega),if_neg (show ¬ (b1<128∨191<b1) by omega),if_neg (show ¬ (b2<128∨191<b2) by omega),if_neg (show ¬ (b3<128∨191<b3) by omega),show 64 * (64 * (64 * (b0 - 240)+b1 - 128)+b2 - 128)+b3 - 128=val4 b0 b1 b2 b3 by unfold val4;omega]
   by_cases q:val4 b0 b1 b2 b3≥65536∧(val4 b0 b1 b2 b3<55296∨(57344≤val4 b0 b1 b2 b3∧val4 b0 b1 b2 b3≤1114111))
   ·rw [if_pos q] at e
    rw [charN_ok e (fun h=>by omega),finN_ok q]
   ·rw [if_neg q] at e
    rw [charN_bad e,finN_no q]
  ·rw [if_neg g] at e
   rw [charN_bad e]
   by_cases g1:n<4
   ·rw [if_pos g1]
   ·rw [if_neg g1]
    by_cases g2:b1<128∨191<b1
    ·rw [if_pos g2]
    ·rw [if_neg g2]
     by_cases g3:b2<128∨191<b2
     ·rw [if_pos g3]
     ·rw [if_neg g3,if_pos (show b3<128∨191<b3 by omega)]
 ·rw [if_neg c3]
  by_cases c4:245≤b0∧b0<248
  ·have e:=decN4 (n:=n) (b1:=b1) (b2:=b2) (b3:=b3) (show 240≤b0∧b0<248 by omega)
   have hv:¬ (val4 b0 b1 b2 b3≥65536∧(val4 b0 b1 b2 b3<55296∨(57344≤val4 b0 b1 b2 b3∧val4 b0 b1 b2 b3≤1114111))):=by unfold val4;omega
   rw [if_neg hv,ite_self] at e
   rw [charN_bad e]
  ·rw [charN_bad (decN0 (by omega) h0)]
def byt (t:Str) (i:Nat):Nat:=(List.getD t i 0).toNat
theorem byt_lt (t:Str) (i:Nat):byt t i<256:=UInt8.toNat_lt _
theorem byt_at (t:Str) (i:Nat):byteAt t (i:Int)=(byt t i:Int):=rfl
theorem l17_end (k n N x m:Nat) (t:Str):z1W.l17 k (n+1) t (x:Int) (N:Int) (m:Int) (N:Int)=some (((finN x m N).1:Int),((finN x m N).2:Int)):=by
 rw [z1W.l17_eq,ilt_nn,decide_eq_false (Nat.lt_irrefl _),br_false,ilt_nn]
 unfold finN
 by_cases h1:x<m
 ·rw [decide_eq_true h1,br_true,if_pos (.inl h1)];rfl
 ·rw [decide_eq_false h1,br_false,show ilt (1114111:Int) (x:Int)=decide (1114111<x) from ilt_nn 1114111 x]
  by_cases h2:1114111<x
  ·rw [decide_eq_true h2,br_true,if_pos (.inr (.inl h2))];rfl
  ·rw [decide_eq_false h2,br_false,show ile (55296:Int) (x:Int)=decide (55296≤x) from decide_eq_decide.2 ⟨fun h=>by omega,fun h=>by omega⟩]
   by_cases h3:55296≤x
   ·rw [decide_eq_true h3,br_true,show ile (x:Int) (57343:Int)=decide (x≤57343) from decide_eq_decide.2 ⟨fun h=>by omega,fun h=>by omega⟩]
    by_cases h4:x≤57343
    ·rw [decide_eq_true h4,br_true,if_pos (.inr (.inr ⟨h3,h4⟩))];rfl
    ·rw [decide_eq_false h4,br_false,if_neg (by omega)]
   ·rw [decide_eq_false h3,br_false,if_neg (by omega)]
theorem l17_step (k n N x m i:Nat) (t:Str) (hi:i<N) (hN:N≤t.length) (hx:x<1000000) (hi4:i<100) :
  z1W.l17 k (n+1) t (x:Int) (N:Int) (m:Int) (i:Int)=if byt t i<128∨191<byt t i then some (0,0) else z1W.l17 k n t ((64 * x+byt t i - 128:Nat):Int) (N:Int) (m:Int) ((i+1:Nat):Int):=by
 have hb:=byt_lt t i
 rw [z1W.l17_eq,ilt_nn,decide_eq_true hi,br_true,inL_nat,decide_eq_true (show i<t.length by omega),br_true,byt_at,show ilt ((byt t i:Nat):Int) 128=decide (byt t i<128) from ilt_nn _ 128,
  show ilt (191:Int) ((byt t i:Nat):Int)=decide (191<byt t i) from ilt_nn 191 _]
 by_cases h1:byt t i<128
 ·rw [decide_eq_true h1,br_true,if_pos (.inl h1)]
 ·rw [decide_eq_false h1,br_false,br_true]
  by_cases h2:191<byt t i
  ·rw [decide_eq_true h2,br_true,if_pos (.inr h2)]
  ·have e1:iwrap .i64 ((byt t i:Nat):Int)=((byt t i:Nat):Int):=by
    show IntKind.wrap .i64 _=_
    rw [IntKind.wrap_i64];omega
   have e2:imul .i64 64 (x:Int)=((64 * x:Nat):Int):=by
    show IntKind.wrap .i64 (64 * (x:Int))=_
    rw [IntKind.wrap_i64];omega
   have e3:iadd .i64 ((64 * x:Nat):Int) ((byt t i:Nat):Int)=((64 * x+byt t i:Nat):Int):=by
    show IntKind.wrap .i64 (((64 * x:Nat):Int)+((byt t i:Nat):Int))=_
    rw [IntKind.wrap_i64];omega
   have e4:isub .i64 ((64 * x+byt t i:Nat):Int) 128=((64 * x+byt t i - 128:Nat):Int):=by
    show IntKind.wrap .i64 (((64 * x+byt t i:Nat):Int) - 128)=_
    rw [IntKind.wrap_i64];omega
   rw [decide_eq_false h2,br_false,br_true,e1,e2,e3,e4,iadd_nat (show i<4611686018427387904 by omega),if_neg (by omega)]
theorem rchar_eq (k:Nat) (t:Str) (hk:10<k) (h0:t ≠ []):z1W.f k t=some (((refN t.length (byt t 0) (byt t 1) (byt t 2) (byt t 3)).1:Int),((refN t.length (byt t 0) (byt t 1) (byt t 2) (byt t 3)).2:Int)):=by
 have hl:0<t.length:=List.length_pos_iff.2 h0
 obtain ⟨q,rfl⟩:∃ q,k=q+5:=⟨k - 5,by omega⟩
 have hb:=byt_lt t 0;have hb1:=byt_lt t 1;have hb2:=byt_lt t 2;have hb3:=byt_lt t 3
 have e0:ieq (ilen t) 0=decide (t.length=0):=ieq0 t
 have e1:inL 0 t=true:=by
  rw [show inL 0 t=decide (0<t.length) from inL_nat 0 t];exact decide_eq_true hl
 have l2:∀ c:Nat,ilt (ilen t) (c:Int)=decide (t.length<c):=fun c=>by unfold ilt ilen;exact decide_eq_decide.2 ⟨fun h=>by omega,fun h=>by omega⟩
 have eb:iwrap .i64 (byteAt t 0)=((byt t 0:Nat):Int):=by
  show IntKind.wrap .i64 ((byt t 0:Nat):Int)=_
  rw [IntKind.wrap_i64];omega
 have m2:∀ x:Nat,x<100→2≤t.length→z1W.l17 (q+5) (q+5) t (x:Int) 2 128 1=some (((if byt t 1<128∨191<byt t 1 then (0,0) else finN (64 * x+byt t 1 - 128) 128 2:Nat × Nat).1:Int),((if byt t 1<128∨191<byt t 1 then (0,0) else finN (64 * x+byt t 1 - 128) 128 2:Nat × Nat).2:Int)):=fun x hx h2=>by
  have s1:=l17_step (q+5) (q+4) 2 x 128 1 t (by omega) h2 (by omega) (by omega)
  have s2:=l17_end (q+5) (q+3) 2 (64 * x+byt t 1 - 128) 128 t
  refine s1.trans ?_
  by_cases h:byt t 1<128∨191<byt t 1
  ·rw [if_pos h,if_pos h];rfl
  ·rw [if_neg h,if_neg h];exact s2
 have m3:∀ x:Nat,x<100→3≤t.length→z1W.l17 (q+5) (q+5) t (x:Int) 3 2048 1=some (((if byt t 1<128∨191<byt t 1 then (0,0) else if byt t 2<128∨191<byt t 2 then (0,0) else finN (64 * (64 * x+byt t 1 - 128)+byt t 2 - 128) 2048 3:Nat × Nat).1:Int),((if byt t 1<128∨191<byt t 1 then (0,0) else if byt t 2<128∨191<byt t 2 then (0,0) else finN (64 * (64 * x+byt t 1 - 128)+byt t 2 - 128) 2048 3:Nat × Nat).2:Int)):=fun x hx h2=>by
  have s1:=l17_step (q+5) (q+4) 3 x 2048 1 t (by omega) h2 (by omega) (by omega)
  have s2:=l17_step (q+5) (q+3) 3 (64 * x+byt t 1 - 128) 2048 2 t (by omega) h2 (by omega) (by omega)
  have s3:=l17_end (q+5) (q+2) 3 (64 * (64 * x+byt t 1 - 128)+byt t 2 - 128) 2048 t
  refine s1.trans ?_
  by_cases h:byt t 1<128∨191<byt t 1
  ·rw [if_pos h,if_pos h];rfl
  ·rw [if_neg h,if_neg h]
   refine s2.trans ?_
   by_cases h':byt t 2<128∨191<byt t 2
   ·rw [if_pos h',if_pos h'];rfl
   ·rw [if_neg h',if_neg h'];exact s3
 have m4:∀ x:Nat,x<100→4≤t.length→z1W.l17 (q+5) (q+5) t (x:Int) 4 65536 1=some (((if byt t 1<128∨191<byt t 1 then (0,0) else if byt t 2<128∨191<byt t 2 then (0,0) else if byt t 3<128∨191<byt t 3 then (0,0) else finN (64 * (64 * (64 * x+byt t 1 - 128)+byt t 2 - 128)+byt t 3 - 128) 65536 4:Nat × Nat).1:Int),((if byt t 1<128∨191<byt t 1 then (0,0) else if byt t 2<128∨191<byt t 2 then (0,0) else if byt t 3<128∨191<byt t 3 then (0,0) else finN (64 * (64 * (64 * x+byt t 1 - 128)+byt t 2 - 128)+byt t 3 - 128) 65536 4:Nat × Nat).2:Int)):=fun x hx h2=>by
  have s1:=l17_step (q+5) (q+4) 4 x 65536 1 t (by omega) h2 (by omega) (by omega)
  have s2:=l17_step (q+5) (q+3) 4 (64 * x+byt t 1 - 128) 65536 2 t (by omega) h2 (by omega) (by omega)
  have s3:=l17_step (q+5) (q+2) 4 (64 * (64 * x+byt t 1 - 128)+byt t 2 - 128) 65536 3 t (by omega) h2 (by omega) (by omega)
  have s4:=l17_end (q+5) (q+1) 4 (64 * (64 * (64 * x+byt t 1 - 128)+byt t 2 - 128)+byt t 3 - 128) 65536 t
  refine s1.trans ?_
  by_cases h:byt t 1<128∨191<byt t 1
  ·rw [if_pos h,if_pos h];rfl
  ·rw [if_neg h,if_neg h]
   refine s2.trans ?_
   by_cases h':byt t 2<128∨191<byt t 2
   ·rw [if_pos h',if_pos h'];rfl
   ·rw [if_neg h',if_neg h']
    refine s3.trans ?_
    by_cases h'':byt t 3<128∨191<byt t 3
    ·rw [if_pos h'',if_pos h''];rfl
    ·rw [if_neg h'',if_neg h''];exact s4
 have bl:∀ c:Nat,ilt ((byt t 0:Nat):Int) (c:Int)=decide (byt t 0<c):=fun c=>ilt_nn _ c
 have bg:∀ c:Nat,ile (c:Int) ((byt t 0:Nat):Int)=decide (c≤byt t 0):=fun c=>decide_eq_decide.2 ⟨fun h=>by omega,fun h=>by omega⟩
 have su:∀ c:Nat,c≤byt t 0→isub .i64 ((byt t 0:Nat):Int) (c:Int)=((byt t 0 - c:Nat):Int):=fun c hc=>by
  show IntKind.wrap .i64 (((byt t 0:Nat):Int) - (c:Int))=_
  rw [IntKind.wrap_i64];omega
 rw [z1W.f_eq,e0,decide_eq_false (by omega),br_false,e1,br_true,eb,show ilt ((byt t 0:Nat):Int) 128=_ from bl 128]
 unfold refN
 by_cases c0:byt t 0<128
 ·rw [decide_eq_true c0,br_true,if_pos c0];rfl
 rw [decide_eq_false c0,br_false,if_neg c0,show ile (194:Int) ((byt t 0:Nat):Int)=_ from bg 194,show ilt ((byt t 0:Nat):Int) 224=_ from bl 224,show ile (224:Int) ((byt t 0:Nat):Int)=_ from bg 224,
  show ilt ((byt t 0:Nat):Int) 240=_ from bl 240,show ile (240:Int) ((byt t 0:Nat):Int)=_ from bg 240,show ilt ((byt t 0:Nat):Int) 245=_ from bl 245,
  show ilt (ilen t) 2=_ from l2 2,show ilt (ilen t) 3=_ from l2 3,show ilt (ilen t) 4=_ from l2 4]
 by_cases c1:194≤byt t 0∧byt t 0<224
 ·rw [decide_eq_true c1.1,br_true,decide_eq_true c1.2,br_true,if_pos c1]
  by_cases g:t.length<2
  ·rw [decide_eq_true g,br_true,if_pos g];rfl
  ·rw [decide_eq_false g,br_false,if_neg g,show isub .i64 ((byt t 0:Nat):Int) 192=_ from su 192 (by omega)]
   exact m2 _ (by omega) (by omega)
 rw [if_neg c1]
 by_cases c2:224≤byt t 0∧byt t 0<240
 ·rw [decide_eq_true (show 194≤byt t 0 by omega),br_true,decide_eq_false (show ¬ byt t 0<224 by omega),br_false,decide_eq_true c2.1,br_true,decide_eq_true c2.2,br_true,if_pos c2]
  by_cases g:t.length<3
  ·rw [decide_eq_true g,br_true,if_pos g];rfl
  ·rw [decide_eq_false g,br_false,if_neg g,show isub .i64 ((byt t 0:Nat):Int) 224=_ from su 224 (by omega)]
   exact m3 _ (by omega) (by omega)
 rw [if_neg c2]
 by_cases c3:240≤byt t 0∧byt t 0<245
 ·rw [decide_eq_true (show 194≤byt t 0 by omega),br_true,decide_eq_false (show ¬ byt t 0<224 by omega),br_false,decide_eq_true (show 224≤byt t 0 by omega),br_true,decide_eq_false (show ¬ byt t 0<240 by omega),br_false,decide_eq_true c3.1,br_true,decide_eq_true c3.2,br_true,if_pos c3]
  by_cases g:t.length<4
  ·rw [decide_eq_true g,br_true,if_pos g];rfl
  ·rw [decide_eq_false g,br_false,if_neg g,show isub .i64 ((byt t 0:Nat):Int) 240=_ from su 240 (by omega)]
   exact m4 _ (by omega) (by omega)
 rw [if_neg c3]
 by_cases d1:194≤byt t 0
 ·have d2:¬ byt t 0<224:=by omega
  have d3:224≤byt t 0:=by omega
  have d4:¬ byt t 0<240:=by omega
  have d5:240≤byt t 0:=by omega
  have d6:¬ byt t 0<245:=by omega
  rw [decide_eq_true d1,br_true,decide_eq_false d2,br_false,decide_eq_true d3,br_true,decide_eq_false d4,br_false,decide_eq_true d5,br_true,decide_eq_false d6,br_false];rfl
 ·have d3:¬ 224≤byt t 0:=by omega
  have d5:¬ 240≤byt t 0:=by omega
  rw [decide_eq_false d1,br_false,decide_eq_false d3,br_false,decide_eq_false d5,br_false];rfl
end Go.Proofs.YtggcagclpkhlhaaGreatDoor
end
noncomputable section
/- Names and values: the program's tests are the document's. -/
namespace Go.Proofs.YtggcagclpkhlhaaGreatDoor
open Pal
theorem bget (s:Str) (j:Nat):((⟨s.toArray⟩:ByteArray).get! j).toNat=byt s j:=by
 unfold byt
 show (s.toArray.getD j default).toNat=_
 rw [Array.getD_eq_getD_getElem?,List.getElem?_toArray,← List.getD_eq_getElem?_getD];rfl
theorem byt_drop (s:Str) (i j:Nat):byt (s.drop i) j=byt s (i+j):=by
 unfold byt
 rw [List.getD_eq_getElem?_getD,List.getD_eq_getElem?_getD,List.getElem?_drop]
theorem piece_drop (s:Str) (i:Nat):piece s (i:Int) (ilen s)=s.drop i:=by
 unfold piece ilen
 rw [Int.toNat_natCast,Int.toNat_natCast,List.take_length]
theorem rchar_at (k:Nat) (s:Str) (i:Nat) (hi:i<s.length) (hk:10<k) :
  z1W.f k (piece s (i:Int) (ilen s))=some (if badAt ⟨s.toArray⟩ i=true then (0,0) else (((Go.Utf8.decode ⟨s.toArray⟩ i).1:Int),((Go.Utf8.decode ⟨s.toArray⟩ i).2:Int))):=by
 have hne:s.drop i ≠ []:=fun h=>by have:=congrArg List.length h;rw [List.length_drop,List.length_nil] at this;omega
 have hd:Go.Utf8.decode ⟨s.toArray⟩ i=Go.Lib.decodeN (s.length - i) (byt s i) (byt s (i+1)) (byt s (i+2)) (byt s (i+3)):=by
  rw [Go.Lib.decode_at,bget,bget,bget,bget];rfl
 rw [piece_drop,rchar_eq k _ hk hne,refN_eq _ _ _ _ _ (by rw [List.length_drop];omega) (byt_lt _ _) (byt_lt _ _) (byt_lt _ _) (byt_lt _ _),List.length_drop,byt_drop,byt_drop,byt_drop,byt_drop,Nat.add_zero]
 unfold charN badAt
 rw [← hd]
 by_cases h:(Go.Utf8.decode ⟨s.toArray⟩ i).1=65533∧(Go.Utf8.decode ⟨s.toArray⟩ i).2≤1
 ·rw [if_pos h,if_pos (by rw [decide_eq_true h.1,decide_eq_true h.2];rfl)];rfl
 ·rw [if_neg h,if_neg (fun hh=>h (by simpa using hh))]
theorem rrunes_l (k:Nat) (s:Str) (hk:10<k) (hs:s.length<1000000):∀ (f n i:Nat) (x:List Int),s.length≤f+i→s.length<n+i→i≤s.length→x.length≤i →
  z0Y.l3 k n s x (i:Int)=some (match runesX ⟨s.toArray⟩ f i with | some l=>(x++l,true) | none=>([],false))
 | f,0,i,x,_,h,_,_=>by omega
 | 0,n+1,i,x,h0,h,hi,hx=>by
  have e:i=s.length:=by omega
  subst e
  rw [z0Y.l3_eq,ilt_nat,decide_eq_false (Nat.lt_irrefl _),br_false]
  show some (x,true)=some (x++[],true)
  rw [List.append_nil]
 | f+1,n+1,i,x,h0,h,hi,hx=>by
  have hsz:(⟨s.toArray⟩:ByteArray).size=s.length:=by simp [ByteArray.size]
  rw [z0Y.l3_eq,ilt_nat]
  by_cases hl:i<s.length
  ·have hin:inS (i:Int) (ilen s) (ilen s)=true:=by
    have h1:(i:Int)≤(s.length:Int):=by omega
    show (decide ((0:Int)≤(i:Int)) && decide ((i:Int)≤(s.length:Int)) && decide ((s.length:Int)≤(s.length:Int)))=true
    rw [decide_eq_true h1,decide_eq_true (show (0:Int)≤(i:Int) by omega),decide_eq_true (Int.le_refl _)];rfl
   have hw:=rwidth_pos ⟨s.toArray⟩ i (by rw [hsz];exact hl)
   obtain ⟨c,q,hc,q0,q1⟩:=rchar_is k (piece s (i:Int) (ilen s)) hk (by rw [piece_drop,List.length_drop];omega)
   rw [piece_drop,List.length_drop] at q1
   have hr:=rchar_at k s i hl hk
   rw [runesX,if_pos (by rw [hsz];exact hl),decide_eq_true hl,br_true,hin,br_true,hr,bnd_some]
   by_cases hb:badAt ⟨s.toArray⟩ i=true
   ·rw [if_pos hb,if_pos hb];rfl
   ·rw [if_neg hb,if_neg hb]
    rw [hr,if_neg hb] at hc
    injection hc with hc
    have hq:((Go.Utf8.decode ⟨s.toArray⟩ i).2:Int)=q:=congrArg Prod.snd hc
    have e0:ieq ((Go.Utf8.decode ⟨s.toArray⟩ i).2:Int) 0=false:=by rw [ieq_dec];exact decide_eq_false (by omega)
    have e3:iadd .i64 (i:Int) ((Go.Utf8.decode ⟨s.toArray⟩ i).2:Int)=((i+(Go.Utf8.decode ⟨s.toArray⟩ i).2:Nat):Int):=by rw [iadd_s (by omega) (by omega) (by omega) (by omega)];omega
    rw [show ieq ((((Go.Utf8.decode ⟨s.toArray⟩ i).1:Int),((Go.Utf8.decode ⟨s.toArray⟩ i).2:Int)):Int × Int).2 0=false from e0,br_false,room1 (show x.length<4000000 by omega),br_true]
    show z0Y.l3 k n s _ (iadd .i64 (i:Int) ((Go.Utf8.decode ⟨s.toArray⟩ i).2:Int))=_
    rw [e3,rrunes_l k s hk hs f n _ _ (by omega) (by omega) (by omega) (by simp only [app,List.length_append,List.length_cons,List.length_nil];omega)]
    cases runesX ⟨s.toArray⟩ f (i+(Go.Utf8.decode ⟨s.toArray⟩ i).2) with
    | none=>rfl
    | some l=>simp [app]
  ·have e:i=s.length:=by omega
   subst e
   rw [decide_eq_false hl,br_false,runesX,if_neg (by rw [hsz];omega)]
   show some (x,true)=some (x++[],true)
   rw [List.append_nil]
theorem runes_is (k:Nat) (s:Str) (hk:10<k) (hs:s.length<k) (hk2:k<1000000):z0Y.f k s=runesB s:=by
 have h:=rrunes_l k s hk (by omega) s.length k 0 [] (by omega) (by omega) (by omega) (by simp)
 have hz:Nat.ble s.length 1099511627776=true:=Nat.ble_eq_true_of_le (by omega)
 rw [z0Y.f_eq]
 refine h.trans ?_
 unfold runesB
 rw [hz,cond_true];rfl
theorem may_is (k:Nat) (c:Int):z2x.f k c=some (mayB c):=by
 rw [z2x.f_eq,show ilt c 32=decide (c<32) from rfl]
 unfold mayB
 by_cases h1:c<32
 ·rw [decide_eq_true h1,br_true,br_true];rfl
 ·rw [decide_eq_false h1,br_false,show ile 127 c=decide (127≤c) from rfl,show ilt c 160=decide (c<160) from rfl,ieq_dec,bnot_dec]
  by_cases h2:127≤c
  ·rw [decide_eq_true h2,br_true]
   by_cases h3:c<160
   ·rw [decide_eq_true h3,br_true];rfl
   ·rw [decide_eq_false h3,br_false];simp
  ·rw [decide_eq_false h2,br_false];simp
theorem rmay_is (k:Nat) (c:Int):z2r.f k c=some (mayB c):=by
 rw [z2r.f_eq,show ile 32 c=decide (32≤c) from rfl,show ilt c 127=decide (c<127) from rfl,show ilt 159 c=decide (159<c) from rfl,ieq_dec,bnot_dec]
 unfold mayB
 by_cases h1:32≤c
 ·rw [decide_eq_true h1,br_true,decide_eq_false (show ¬ c<32 by omega)]
  by_cases h2:c<127
  ·rw [decide_eq_true h2,br_true,decide_eq_false (show ¬ 127≤c by omega)];simp
  ·rw [decide_eq_false h2,br_false,decide_eq_true (show 127≤c by omega)]
   by_cases h3:159<c
   ·rw [decide_eq_true h3,br_true,decide_eq_false (show ¬ c<160 by omega)];simp
   ·rw [decide_eq_false h3,br_false,decide_eq_true (show c<160 by omega)];rfl
 ·rw [decide_eq_false h1,br_false,decide_eq_true (show c<32 by omega)];rfl
theorem all_step {α:Type} {xs:List α} {i:Nat} (h:i<xs.length) (p:α→Bool):(xs.drop i).all p=(p xs[i] && (xs.drop (i+1)).all p):=by
 rw [List.drop_eq_getElem_cons h,List.all_cons]
theorem name_l (k:Nat) (l:List Int) (hl:l.length<1000000):∀ (n i:Nat),i≤l.length→l.length<n+i→z1P.l5 k n l (ilen l) (i:Int)=some ((l.drop i).all mayB)
 | 0,i,_,h=>by omega
 | n+1,i,h,h'=>by
  rw [z1P.l5_eq,ilt_nat,inL_nat,natOf_nat]
  by_cases hi:i<l.length
  ·rw [decide_eq_true hi,br_true,br_true,rd_at' (e:=.int .i32) hi,may_is,bnd_some,iadd_nat (by omega),all_step hi,name_l k l hl n (i+1) (by omega) (by omega)]
   cases mayB l[i] <;> rfl
  ·rw [decide_eq_false hi,br_false,List.drop_eq_nil_of_le (by omega)];rfl
theorem rname_l (k:Nat) (l:List Int) (b:Bool) (hl:l.length<1000000):∀ (n i:Nat),i≤l.length→l.length<n+i→z1a.l3 k n l b (i:Int)=some ((l.drop i).all mayB && (b && (decide (1≤l.length) && decide (l.length≤24))))
 | 0,i,_,h=>by omega
 | n+1,i,h,h'=>by
  rw [z1a.l3_eq,ilt_nat,inL_nat,natOf_nat]
  by_cases hi:i<l.length
  ·rw [decide_eq_true hi,br_true,br_true,rd_at' (e:=.int .i64) hi,rmay_is,bnd_some,iadd_nat (by omega),all_step hi,rname_l k l b hl n (i+1) (by omega) (by omega)]
   cases mayB l[i] <;> rfl
  ·have e1:ile 1 (ilen l)=decide (1≤l.length):=decide_eq_decide.2 ⟨fun h=>by unfold ilen at h;omega,fun h=>by unfold ilen;omega⟩
   have e2:ile (ilen l) 24=decide (l.length≤24):=ile_len 24 l
   rw [decide_eq_false hi,br_false,List.drop_eq_nil_of_le (by omega),e1,e2]
   cases b <;> cases decide (1≤l.length) <;> rfl
theorem runesB_len {s:Str} {r:List Int × Bool} (h:runesB s=some r):r.1.length≤s.length∧(r.2=false→r.1=[]):=by
 unfold runesB at h
 cases hz:Nat.ble s.length 1099511627776 with
 | false=>rw [hz] at h;cases h
 | true =>
  rw [hz,cond_true] at h
  injection h with h
  subst h
  have key:∀ (f i:Nat) (l:List Int),runesX ⟨s.toArray⟩ f i=some l→l.length≤f:=by
   intro f
   induction f with
   | zero=>intro i l h;injection h with h;subst h;simp
   | succ f ih =>
    intro i l h
    rw [runesX] at h
    by_cases hp:i<(⟨s.toArray⟩:ByteArray).size
    ·rw [if_pos hp] at h
     by_cases hb:badAt ⟨s.toArray⟩ i=true
     ·rw [if_pos hb] at h;cases h
     ·rw [if_neg hb] at h
      cases hr:runesX ⟨s.toArray⟩ f (i+(Go.Utf8.decode ⟨s.toArray⟩ i).2) with
      | none=>rw [hr] at h;cases h
      | some l' =>
       rw [hr] at h
       have h:some (((Go.Utf8.decode ⟨s.toArray⟩ i).1:Int)::l')=some l:=h
       injection h with h;subst h
       have:=ih _ _ hr
       simp only [List.length_cons];omega
    ·rw [if_neg hp] at h;injection h with h;subst h;simp
  cases hr:runesX ⟨s.toArray⟩ s.length 0 with
  | none=>exact ⟨by simp,fun _=>rfl⟩
  | some l=>exact ⟨key _ _ _ hr,fun h=>by cases h⟩
theorem name_is (k:Nat) (s:Str) (hk:10<k) (hs:s.length<k) (hk2:k<1000000):∃ b,z1P.f k s=some b∧z1a.f k s=some b:=by
 have hz:Nat.ble s.length 1099511627776=true:=Nat.ble_eq_true_of_le (by omega)
 obtain ⟨r,hr⟩:∃ r,runesB s=some r:=⟨_,by unfold runesB;rw [hz,cond_true]⟩
 obtain ⟨l1,l2⟩:=runesB_len hr
 rw [z1a.f_eq,runes_is k s hk hs hk2,hr,bnd_some,z1P.f_eq,hr,bnd_some]
 have g2:=rname_l k r.1 r.2 (by omega) k 0 (by omega) (by omega)
 have g1:=name_l k r.1 (by omega) k 0 (by omega) (by omega)
 rw [List.drop_zero] at g1 g2
 refine ⟨_,?_,g2⟩
 cases h2:r.2 with
 | false=>rw [l2 h2];rfl
 | true =>
  have bt:bnot true=false:=rfl
  have e0:ieq (ilen r.1) 0=decide (r.1.length=0):=ieq0 r.1
  rw [bt,br_false,e0,show ilt 24 (ilen r.1)=decide (24<r.1.length) from ilt_lenR 24 r.1]
  by_cases c1:r.1.length=0
  ·rw [decide_eq_true c1,br_true,decide_eq_false (show ¬ 1≤r.1.length by omega)];simp
  ·rw [decide_eq_false c1,br_false,decide_eq_true (show 1≤r.1.length by omega)]
   by_cases c2:24<r.1.length
   ·rw [decide_eq_true c2,br_true,decide_eq_false (show ¬ r.1.length≤24 by omega)];simp
   ·rw [decide_eq_false c2,br_false,decide_eq_true (show r.1.length≤24 by omega)]
    refine g1.trans ?_
    simp
theorem val_is (k:Nat) (v:Val) (hk:10<k) (hs:v.2.2.length<k) (hk2:k<1000000):∃ b,z15.f k v=some b∧z1k.f k v=some b:=by
 have hz:Nat.ble v.2.2.length 1099511627776=true:=Nat.ble_eq_true_of_le (by omega)
 obtain ⟨r,hr⟩:∃ r,runesB v.2.2=some r:=⟨_,by unfold runesB;rw [hz,cond_true]⟩
 rw [z15.f_eq,z1k.f_eq,runes_is k v.2.2 hk hs hk2,hr]
 simp only [bnd_some]
 cases ieq v.1 1 with
 | true =>
  simp only [br_true]
  cases seq v.2.2 [] <;> cases ile (-2147483647) v.2.1 <;> exact ⟨_,rfl,rfl⟩
 | false =>
  simp only [br_false]
  cases ieq v.1 2 with
  | true =>
   simp only [br_true]
   cases r.2 <;> cases ieq v.2.1 0 <;> exact ⟨_,rfl,rfl⟩
  | false =>
   simp only [br_false]
   cases ieq v.1 3 with
   | false=>exact ⟨_,rfl,rfl⟩
   | true =>
    simp only [br_true]
    cases seq v.2.2 [] with
    | false=>exact ⟨_,rfl,rfl⟩
    | true =>
     simp only [br_true]
     rw [ieq_dec,show ile 0 v.2.1=decide (0≤v.2.1) from rfl,show ile v.2.1 1=decide (v.2.1≤1) from rfl,ieq_dec]
     by_cases h0:v.2.1=0
     ·rw [decide_eq_true h0,br_true,decide_eq_true (show 0≤v.2.1 by omega),br_true,decide_eq_true (show v.2.1≤1 by omega)];exact ⟨_,rfl,rfl⟩
     ·rw [decide_eq_false h0,br_false]
      by_cases h1:v.2.1=1
      ·rw [decide_eq_true h1,decide_eq_true (show 0≤v.2.1 by omega),br_true,decide_eq_true (show v.2.1≤1 by omega)];exact ⟨_,rfl,rfl⟩
      ·rw [decide_eq_false h1]
       by_cases h2:0≤v.2.1
       ·rw [decide_eq_true h2,br_true,decide_eq_false (show ¬ v.2.1≤1 by omega)];exact ⟨_,rfl,rfl⟩
       ·rw [decide_eq_false h2,br_false];exact ⟨_,rfl,rfl⟩
end Go.Proofs.YtggcagclpkhlhaaGreatDoor
end
noncomputable section
/- Paths, operations, transactions: the program's tests are the document's. -/
namespace Go.Proofs.YtggcagclpkhlhaaGreatDoor
open Pal
theorem path_l (k:Nat) (p:List Str) (hp:∀ s ∈ p,List.length s<k) (hk:10<k) (hk2:k<1000000) (hl:p.length<1000000):∀ (n i:Nat),i≤p.length→p.length<n+i →
  ∃ r:Int,z0c.l2 k n p (ilen p) (i:Int)=some r∧z1h.l6 k n p (i:Int)=some (if 0≤r then 8 else 0)
 | 0,i,_,h=>by omega
 | n+1,i,h,h'=>by
  rw [z0c.l2_eq,z1h.l6_eq,ilt_nat,inL_nat,natOf_nat]
  by_cases hi:i<p.length
  ·obtain ⟨b,g1,g2⟩:=name_is k p[i] hk (hp _ (List.getElem_mem hi)) hk2
   rw [decide_eq_true hi,br_true,br_true,br_true,br_true,rd_at' (e:=.str) hi,z0P.f_eq,g1,g2,bnd_some,bnd_some,bnd_some,iadd_nat (by omega)]
   cases b with
   | false=>exact ⟨(i:Int),rfl,by rw [if_pos (by omega)];rfl⟩
   | true=>exact path_l k p hp hk hk2 hl n (i+1) (by omega) (by omega)
  ·rw [decide_eq_false hi,br_false,br_false];exact ⟨-1,rfl,rfl⟩
theorem path_is (k:Nat) (p:List Str) (hp:∀ s ∈ p,List.length s<k) (hk:10<k) (hk2:k<1000000) (hl:p.length<k):∃ e:Int,z1T.f k p=some e∧z1h.f k p=some e:=by
 rw [z1T.f_eq,z1h.f_eq,z09.f_eq,z0c.f_eq]
 cases ieq (ilen p) 0 with
 | true=>exact ⟨8,rfl,rfl⟩
 | false =>
  cases ilt 8 (ilen p) with
  | true=>exact ⟨9,rfl,rfl⟩
  | false =>
   obtain ⟨r,g1,g2⟩:=path_l k p hp hk hk2 (by omega) k 0 (by omega) (by omega)
   rw [show ((0:Nat):Int)=0 from rfl] at g1 g2
   rw [br_false,br_false,br_false,br_false,g1,g2,bnd_some,bnd_some,show ile 0 r=decide (0≤r) from rfl]
   by_cases h:0≤r
   ·rw [decide_eq_true h,br_true,if_pos h];exact ⟨8,rfl,rfl⟩
   ·rw [decide_eq_false h,br_false,if_neg h];exact ⟨0,rfl,rfl⟩
def cmpR (a b:Dot × Int):Int:=if cmpD a.1 b.1=0 then cmpI a.2 b.2 else cmpD a.1 b.1
theorem cmpI_three (a b:Int):cmpI a b=-1∨cmpI a b=0∨cmpI a b=1:=by unfold cmpI;split <;> (try split) <;> simp
theorem cmpR_three (a b:Dot × Int):cmpR a b=-1∨cmpR a b=0∨cmpR a b=1:=by
 unfold cmpR cmpD
 have h1:=cmpI_three a.1.1 b.1.1;have h2:=cmpI_three a.1.2 b.1.2;have h3:=cmpI_three a.2 b.2
 split <;> (try split) <;> assumption
theorem ref_is (k:Nat) (a b:Dot × Int) (h3:3≤k):z2A.f k a b=some (cmpR a b):=by
 obtain ⟨q,rfl⟩:∃ q,k=q+3:=⟨k - 3,by omega⟩
 rw [z2A.f_eq,cmpD_is,cmpI_is,bnd_some,bnd_some,or2,bnd_some];rfl
theorem ints_is (k:Nat) (a b:Int):z24.f k a b=some (cmpI a b):=by
 rw [z24.f_eq]
 unfold cmpI
 by_cases h1:a<b
 ·simp [ilt,h1,br_true]
 ·by_cases h2:b<a <;> simp [ilt,h1,h2,br_true,br_false]
theorem rref_is (k:Nat) (a b:Dot × Int):z1O.f k a b=some (cmpR a b):=by
 rw [z1O.f_eq,rcmp_is,bnd_some,bnd_some,ints_is,bnd_some,ieq_dec,bnot_dec]
 unfold cmpR
 by_cases h:cmpD a.1 b.1=0
 ·rw [decide_eq_false (by simp [h]),br_false,if_pos h]
 ·rw [decide_eq_true h,br_true,if_neg h]
theorem refs_l (k:Nat) (l:List (Dot × Int)) (h3:3≤k) (hl:l.length<1000000):∀ (n i:Nat),i≤l.length→l.length<n+i→∃ b,z2R.l2 k n l l (ilen l) (i:Int)=some b∧z1V.l2 k n l (i:Int)=some b
 | 0,i,_,h=>by omega
 | n+1,i,h,h'=>by
  rw [z2R.l2_eq,z1V.l2_eq,ilt_nat,inL_nat,natOf_nat]
  by_cases hi:i<l.length
  ·have ih:=refs_l k l h3 hl n (i+1) (by omega) (by omega)
   rw [decide_eq_true hi,rd_at' (e:=tUndo) hi,right_is,rright_is,iadd_nat (by omega)]
   simp only [br_true,bnd_some]
   cases rightD l[i].1 with
   | false=>exact ⟨false,rfl,rfl⟩
   | true =>
    have bt:bnot true=false:=rfl
    simp only [bt,br_false]
    cases ilt l[i].2 0 with
    | true=>exact ⟨false,rfl,rfl⟩
    | false =>
     simp only [br_false]
     rw [show ile 16 l[i].2=decide (16≤l[i].2) from rfl,show ilt 15 l[i].2=decide (16≤l[i].2) from decide_eq_decide.2 ⟨fun h=>by omega,fun h=>by omega⟩]
     by_cases h16:16≤l[i].2
     ·rw [decide_eq_true h16];exact ⟨false,rfl,rfl⟩
     ·rw [decide_eq_false h16]
      simp only [br_false]
      rw [show ilt 0 (i:Int)=decide (0<i) from ilt_nn 0 i]
      by_cases hp:0<i
      ·have hi1:i - 1<l.length:=by omega
       have e3:isub .i64 (i:Int) 1=((i - 1:Nat):Int):=by rw [isub_s (by omega) (by omega) (by omega) (by omega)];omega
       rw [decide_eq_true hp,br_true,br_true,e3,inL_nat,natOf_nat,rd_at' (e:=tUndo) hi1,decide_eq_true hi1,br_true,br_true,ref_is k _ _ h3,rref_is,bnd_some,bnd_some,ieq_dec,bnot_dec,
        show ile 0 (cmpR l[i - 1] l[i])=decide (0≤cmpR l[i - 1] l[i]) from rfl]
       rcases cmpR_three l[i - 1] l[i] with e | e | e
       ·rw [e,decide_eq_false (by decide),decide_eq_false (by decide),br_false,br_false];exact ih
       ·rw [e];exact ⟨false,rfl,rfl⟩
       ·rw [e];exact ⟨false,rfl,rfl⟩
      ·rw [decide_eq_false hp,br_false,br_false];exact ih
  ·rw [decide_eq_false hi,br_false,br_false];exact ⟨true,rfl,rfl⟩
theorem refs_is (k:Nat) (l:List (Dot × Int)) (h3:3≤k) (hl:l.length<k) (hk:k<1000000):∃ b,z2R.f k l=some b∧z1V.f k l=some b:=by
 rw [z2R.f_eq,z1V.f_eq]
 exact refs_l k l h3 (by omega) k 0 (by omega) (by omega)
theorem ile_bnot (a b:Int):ile a b=bnot (ilt b a):=by
 show decide (a≤b)=!decide (b<a)
 by_cases h:a≤b
 ·rw [decide_eq_true h,decide_eq_false (by omega)];rfl
 ·rw [decide_eq_false h,decide_eq_true (by omega)];rfl
theorem gone_both (k:Nat) (o:Op):z2Q.f k o=z1X.f k o:=by rw [z2Q.f_eq,z1X.f_eq]
set_option maxHeartbeats 4000000 in
theorem op_is (k:Nat) (o:Op) (hp:∀ s ∈ o.2.1,List.length s<k) (hpl:o.2.1.length<k) (hv:o.2.2.1.2.2.length<k) (hs:o.2.2.2.2.length<k) (hk:10<k) (hk2:k<1000000):∃ e:Int,z2y.f k o=some e∧z13.f k o=some e:=by
 obtain ⟨e1,p1,p2⟩:=path_is k o.2.1 hp hk hk2 hpl
 obtain ⟨b1,v1,v2⟩:=val_is k o.2.2.1 hk hv hk2
 obtain ⟨b2,r1,r2⟩:=refs_is k o.2.2.2.2 (by omega) hs hk2
 rw [z2y.f_eq,z13.f_eq,z2b.f_eq,z2q.f_eq,p1,p2,v1,v2,r1,r2]
 obtain ⟨K,P,V,A,S⟩:=o
 simp only at *
 have bt:bnot true=false:=rfl
 have bf:bnot false=true:=rfl
 by_cases h1:K<1
 ·rw [show ilt K 1=true from decide_eq_true h1];exact ⟨18,rfl,rfl⟩
 by_cases h5:5<K
 ·rw [show ilt K 1=false from decide_eq_false h1,show ilt 5 K=true from decide_eq_true h5];exact ⟨18,rfl,rfl⟩
 have hK:K=1∨K=2∨K=3∨K=4∨K=5:=by omega
 rw [show ilt K 1=false from decide_eq_false h1,show ilt 5 K=false from decide_eq_false h5]
 clear h1 h5 p1 p2 v1 v2 r1 r2 hp hpl hv hs
 have i1:ile A 2147483647=bnot (ilt 2147483647 A):=ile_bnot _ _
 have i2:ile (-2147483647) A=bnot (ilt A (-2147483647)):=ile_bnot _ _
 rw [i1,i2]
 rcases hK with rfl | rfl | rfl | rfl | rfl
 ·simp only [show ieq (1:Int) 1=true from rfl,show ieq (1:Int) 2=false from rfl,show ieq (1:Int) 3=false from rfl,show ieq (1:Int) 4=false from rfl,show ieq (1:Int) 5=false from rfl,br_true,br_false,bt,bf,bnd_some]
  cases ieq e1 0 <;> cases b1 <;> cases ieq A 0 <;> cases ilt 256 (ilen S) <;> cases b2 <;> exact ⟨_,rfl,rfl⟩
 ·simp only [show ieq (2:Int) 1=false from rfl,show ieq (2:Int) 2=true from rfl,show ieq (2:Int) 3=false from rfl,show ieq (2:Int) 4=false from rfl,show ieq (2:Int) 5=false from rfl,br_true,br_false,bt,bf,bnd_some]
  cases ieq e1 0 <;> cases b1 <;> cases ieq A 0 <;> cases ilt 0 (ilen S) <;> cases ilt 256 (ilen S) <;> cases b2 <;> exact ⟨_,rfl,rfl⟩
 ·simp only [show ieq (3:Int) 1=false from rfl,show ieq (3:Int) 2=false from rfl,show ieq (3:Int) 3=true from rfl,show ieq (3:Int) 4=false from rfl,show ieq (3:Int) 5=false from rfl,br_true,br_false,bt,bf,bnd_some]
  cases ieq e1 0 <;> cases deq tValue V (0,(0,[])) <;> cases ieq A 0 <;> cases ilt 2147483647 A <;> cases ilt A (-2147483647) <;> cases ilt 0 (ilen S) <;> cases ilt 256 (ilen S) <;> cases b2 <;> exact ⟨_,rfl,rfl⟩
 ·simp only [show ieq (4:Int) 1=false from rfl,show ieq (4:Int) 2=false from rfl,show ieq (4:Int) 3=false from rfl,show ieq (4:Int) 4=true from rfl,show ieq (4:Int) 5=false from rfl,br_true,br_false,bt,bf,bnd_some]
  cases ieq e1 0 <;> cases b1 <;> cases ieq A 0 <;> cases ilt 256 (ilen S) <;> cases b2 <;> exact ⟨_,rfl,rfl⟩
 ·simp only [show ieq (5:Int) 1=false from rfl,show ieq (5:Int) 2=false from rfl,show ieq (5:Int) 3=false from rfl,show ieq (5:Int) 4=false from rfl,show ieq (5:Int) 5=true from rfl,br_true,br_false,bt,bf,bnd_some]
  cases ieq e1 0 <;> cases deq tValue V (0,(0,[])) <;> cases ieq A 0 <;> cases ilt 256 (ilen S) <;> cases b2 <;> exact ⟨_,rfl,rfl⟩
end Go.Proofs.YtggcagclpkhlhaaGreatDoor
end
noncomputable section
/- Transactions: the program's test is the document's. -/
namespace Go.Proofs.YtggcagclpkhlhaaGreatDoor
open Pal
theorem gone_tot (k:Nat) (o:Op):∃ g,z2Q.f k o=some g∧z1X.f k o=some g:=by
 rw [← gone_both,z2Q.f_eq]
 cases ieq o.1 0 with
 | false=>exact ⟨_,rfl,rfl⟩
 | true =>
  cases ieq (ilen o.2.1) 0 with
  | false=>exact ⟨_,rfl,rfl⟩
  | true =>
   cases deq tValue o.2.2.1 (0,(0,[])) with
   | false=>exact ⟨_,rfl,rfl⟩
   | true=>cases ieq o.2.2.2.1 0 <;> exact ⟨_,rfl,rfl⟩
structure SizO (k:Nat) (o:Op):Prop where
 path:∀ s ∈ o.2.1,List.length s<k
 names:o.2.1.length<k
 val:o.2.2.1.2.2.length<k
 seen:o.2.2.2.2.length<k
theorem txn_l (k:Nat) (t:Txn) (ho:∀ o ∈ t.2.2.2.2,SizO k o) (hl:t.2.2.2.2.length<1000000) (hk:10<k) (hk2:k<1000000):∀ (n i:Nat),i≤t.2.2.2.2.length→t.2.2.2.2.length<n+i →
  ∃ e:Int,z2o.l10 k n t.2.2.2.2 (ilen t.2.2.2.2) (i:Int) t=some e∧z1g.l8 k n (i:Int) t=some e
 | 0,i,_,h=>by omega
 | n+1,i,h,h'=>by
  rw [z2o.l10_eq,z1g.l8_eq,ilt_nat,inL_nat,natOf_nat]
  by_cases hi:i<t.2.2.2.2.length
  ·have ih:=txn_l k t ho hl hk hk2 n (i+1) (by omega) (by omega)
   have so:=ho _ (List.getElem_mem hi)
   obtain ⟨e,p1,p2⟩:=op_is k t.2.2.2.2[i] so.path so.names so.val so.seen hk hk2
   obtain ⟨g,q1,q2⟩:=gone_tot k t.2.2.2.2[i]
   rw [decide_eq_true hi,rd_at' (e:=tOp) hi,p1,p2,q1,q2,iadd_nat (by omega)]
   simp only [br_true,bnd_some]
   have bt:bnot true=false:=rfl
   have bf:bnot false=true:=rfl
   cases t.2.2.2.1 with
   | true =>
    simp only [br_true]
    cases g with
    | true =>
     simp only [br_true,bt,br_false]
     cases ieq e 0 <;> exact ih
    | false =>
     simp only [br_false,bf,br_true]
     cases ieq e 0 with
     | true=>exact ih
     | false=>exact ⟨e,rfl,rfl⟩
   | false =>
    simp only [br_false,bf,br_true]
    cases ieq e 0 with
    | true=>exact ih
    | false=>exact ⟨e,rfl,rfl⟩
  ·rw [decide_eq_false hi,br_false,br_false];exact ⟨0,rfl,rfl⟩
theorem txn_is (k:Nat) (t:Txn) (ho:∀ o ∈ t.2.2.2.2,SizO k o) (hl:t.2.2.2.2.length<k) (hk:10<k) (hk2:k<1000000):∃ e:Int,z2o.f k t=some e∧z1g.f k t=some e:=by
 obtain ⟨e,g1,g2⟩:=txn_l k t ho (by omega) hk hk2 k 0 (by omega) (by omega)
 rw [show ((0:Nat):Int)=0 from rfl] at g1 g2
 have bt:bnot true=false:=rfl
 have bf:bnot false=true:=rfl
 rw [z2o.f_eq,z1g.f_eq,right_is,rright_is,g1,g2,show ilt 7 t.2.1=ile 8 t.2.1 from decide_eq_decide.2 ⟨fun h=>by omega,fun h=>by omega⟩]
 simp only [bnd_some]
 cases rightD t.1 with
 | false=>exact ⟨2,rfl,rfl⟩
 | true =>
  simp only [bt,br_false]
  cases ilt t.2.1 0 <;> cases ile 8 t.2.1 <;> cases ilt t.2.2.1 1 <;> cases ilt 1099511627776 t.2.2.1 <;> cases ieq (ilen t.2.2.2.2) 0 <;> cases ilt 16 (ilen t.2.2.2.2) <;> exact ⟨_,rfl,rfl⟩
end Go.Proofs.YtggcagclpkhlhaaGreatDoor
end
noncomputable section
/- Readers: the program's and the document's read the same. -/
namespace Go.Proofs.YtggcagclpkhlhaaGreatDoor
open Pal
abbrev Rdr:=List UInt8 × Int
abbrev RefRdr:=List UInt8 × (Int × Int)
structure RR (S:List UInt8) (r:Rdr) (x:RefRdr):Prop where
 src:x.1=S
 lo:0≤x.2.1
 hi:x.2.1≤(S.length:Int)
 bad:r.2=x.2.2
 rest:x.2.2=0→r.1=S.drop x.2.1.toNat
theorem fine_is (k:Nat) (o:Rdr):z0q.f k o=some (decide (o.2=0),o):=by rw [z0q.f_eq,ieq_dec]
theorem fail_is (k:Nat) (e:Int) (o:Rdr):z0o.f k e o=some ((),if o.2=0 then (o.1,e) else o):=by
 rw [z0o.f_eq,fine_is]
 simp only [bnd_some,br_dec]
 split <;> rfl
theorem byte_lt (b:UInt8):b.toNat<256:=b.toNat_lt
theorem byteAt_drop (S:List UInt8) (a i:Nat):byteAt (S.drop a) (i:Int)=byteAt S ((a+i:Nat):Int):=by
 unfold byteAt
 rw [Int.toNat_natCast,Int.toNat_natCast]
 simp [List.getD]
theorem byteAt_rng (S:List UInt8) (i:Int):0≤byteAt S i∧byteAt S i<256:=by
 unfold byteAt
 have:=byte_lt (S.getD i.toNat 0);omega
theorem wrap64 {n:Int} (h1:-9000000000000000000≤n) (h2:n≤9000000000000000000):IntKind.wrap .i64 n=n:=by
 have e1:((2:Int) ^ 63)=9223372036854775808:=by decide
 exact wrap_i64 (by rw [e1];omega) (by rw [e1];omega)
theorem iand127 {c:Nat} (h:c<9000000000000000000):iand .i64 (c:Int) 127=((c % 128:Nat):Int):=by
 show IntKind.wrap .i64 (((BitVec.ofInt 64 (c:Int) &&& BitVec.ofInt 64 127).toNat:Nat):Int)=_
 have e:(BitVec.ofInt 64 (c:Int) &&& BitVec.ofInt 64 127).toNat=c % 128:=by
  have e1:BitVec.ofInt 64 (c:Int)=BitVec.ofNat 64 c:=by simp
  have e2:BitVec.ofInt 64 127=BitVec.ofNat 64 127:=by decide
  rw [e1,e2,BitVec.toNat_and,BitVec.toNat_ofNat,BitVec.toNat_ofNat,Nat.mod_eq_of_lt (show c<2 ^ 64 by omega),show 127 % 2 ^ 64=2 ^ 7 - 1 by decide,Nat.and_two_pow_sub_one_eq_mod]
 rw [e,wrap64 (by omega) (by omega)]
theorem ior_add {a b m:Nat} (ha:a<2 ^ m) (hb:2 ^ m * b+a<9000000000000000000):ior .i64 (a:Int) ((2 ^ m * b:Nat):Int)=((2 ^ m * b+a:Nat):Int):=by
 show IntKind.wrap .i64 (((BitVec.ofInt 64 (a:Int) ||| BitVec.ofInt 64 ((2 ^ m * b:Nat):Int)).toNat:Nat):Int)=_
 have e:(BitVec.ofInt 64 (a:Int) ||| BitVec.ofInt 64 ((2 ^ m * b:Nat):Int)).toNat=2 ^ m * b+a:=by
  have e1:∀ c:Nat,BitVec.ofInt 64 (c:Int)=BitVec.ofNat 64 c:=fun c=>by simp
  rw [e1,e1,BitVec.toNat_or,BitVec.toNat_ofNat,BitVec.toNat_ofNat,Nat.mod_eq_of_lt (show a<2 ^ 64 by omega),Nat.mod_eq_of_lt (show 2 ^ m * b<2 ^ 64 by omega),Nat.or_comm,Nat.two_pow_add_eq_or_of_lt ha]
 rw [e,wrap64 (by omega) (by omega)]
theorem pow_mono {i:Nat} (h:i≤8):2 ^ (7 * i)≤72057594037927936:=by
 have:2 ^ (7 * i)≤2 ^ 56:=Nat.pow_le_pow_right (by decide) (by omega)
 exact this
theorem pow_mono7 {i:Nat} (h:i<8):2 ^ (7 * i)≤562949953421312:=by
 have:2 ^ (7 * i)≤2 ^ 49:=Nat.pow_le_pow_right (by decide) (by omega)
 exact this
theorem num_step {i c n:Nat} (hi:i<8) (hc:c<256) (hn:n<2 ^ (7 * i)) :
  ior .i64 (n:Int) (ishl .i64 (iand .i64 (c:Int) 127) (imul .i64 7 (i:Int)))=((2 ^ (7 * i) * (c % 128)+n:Nat):Int)∧2 ^ (7 * i) * (c % 128)+n<2 ^ (7 * (i+1)):=by
 have hp:=pow_mono7 hi
 have hp1:=pow_mono (show i+1≤8 by omega)
 have e7:2 ^ (7 * (i+1))=2 ^ (7 * i) * 128:=by rw [show 7 * (i+1)=7 * i+7 by omega,Nat.pow_add]
 have hm:c % 128≤127:=by omega
 have hmul:2 ^ (7 * i) * (c % 128)≤2 ^ (7 * i) * 127:=Nat.mul_le_mul_left _ hm
 have hlt:2 ^ (7 * i) * (c % 128)+n<2 ^ (7 * (i+1)):=by rw [e7];omega
 refine ⟨?_,hlt⟩
 have e1:imul .i64 7 (i:Int)=((7 * i:Nat):Int):=by
  show IntKind.wrap .i64 (7 * (i:Int))=_
  rw [wrap64 (by omega) (by omega)];omega
 have e2:ishl .i64 ((c % 128:Nat):Int) ((7 * i:Nat):Int)=((2 ^ (7 * i) * (c % 128):Nat):Int):=by
  show IntKind.wrap .i64 (((c % 128:Nat):Int) * 2 ^ (min ((7 * i:Nat):Int).toNat 64))=_
  have:min ((7 * i:Nat):Int).toNat 64=7 * i:=by omega
  rw [this]
  have e3:((c % 128:Nat):Int) * 2 ^ (7 * i)=((2 ^ (7 * i) * (c % 128):Nat):Int):=by
   rw [Int.natCast_mul,Int.natCast_pow,Int.mul_comm];rfl
  rw [e3,wrap64 (by omega) (by omega)]
 rw [iand127 (by omega),e1,e2,ior_add hn (by omega)]
theorem ref_step {i c n:Nat} (hi:i<8) (hc:c<256) (hn:n<2 ^ (7 * i)) (hc2:128≤c) :
  iadd .i64 (n:Int) (imul .i64 (isub .i64 (c:Int) 128) ((2 ^ (7 * i):Nat):Int))=((2 ^ (7 * i) * (c % 128)+n:Nat):Int):=by
 have hp:=pow_mono7 hi
 have e1:isub .i64 (c:Int) 128=((c % 128:Nat):Int):=by
  show IntKind.wrap .i64 ((c:Int) - 128)=_
  rw [wrap64 (by omega) (by omega)];omega
 have hmul:(c % 128) * 2 ^ (7 * i)≤127 * 2 ^ (7 * i):=Nat.mul_le_mul_right _ (by omega)
 have e2:imul .i64 ((c % 128:Nat):Int) ((2 ^ (7 * i):Nat):Int)=(((c % 128) * 2 ^ (7 * i):Nat):Int):=by
  show IntKind.wrap .i64 (((c % 128:Nat):Int) * ((2 ^ (7 * i):Nat):Int))=_
  rw [← Int.natCast_mul,wrap64 (by omega) (by omega)]
 rw [e1,e2]
 show IntKind.wrap .i64 ((n:Int)+(((c % 128) * 2 ^ (7 * i):Nat):Int))=_
 rw [wrap64 (by omega) (by omega),Nat.mul_comm];omega
theorem ref_last {i c n:Nat} (hi:i<8) (hn:n<2 ^ (7 * i)) (hc2:c<128) :
  iadd .i64 (n:Int) (imul .i64 (c:Int) ((2 ^ (7 * i):Nat):Int))=((2 ^ (7 * i) * (c % 128)+n:Nat):Int):=by
 have hp:=pow_mono7 hi
 have hmul:c * 2 ^ (7 * i)≤127 * 2 ^ (7 * i):=Nat.mul_le_mul_right _ (by omega)
 have e2:imul .i64 (c:Int) ((2 ^ (7 * i):Nat):Int)=((c * 2 ^ (7 * i):Nat):Int):=by
  show IntKind.wrap .i64 ((c:Int) * ((2 ^ (7 * i):Nat):Int))=_
  rw [← Int.natCast_mul,wrap64 (by omega) (by omega)]
 rw [e2,Nat.mod_eq_of_lt (show c<128 by omega)]
 show IntKind.wrap .i64 ((n:Int)+((c * 2 ^ (7 * i):Nat):Int))=_
 rw [wrap64 (by omega) (by omega),Nat.mul_comm];omega
theorem unit_step {i:Nat} (hi:i<8):imul .i64 ((2 ^ (7 * i):Nat):Int) 128=((2 ^ (7 * (i+1)):Nat):Int):=by
 have hp:=pow_mono7 hi
 have e7:2 ^ (7 * (i+1))=2 ^ (7 * i) * 128:=by rw [show 7 * (i+1)=7 * i+7 by omega,Nat.pow_add]
 show IntKind.wrap .i64 (((2 ^ (7 * i):Nat):Int) * 128)=_
 rw [wrap64 (by omega) (by omega),e7];omega
theorem rr_bad {S s:List UInt8} {a:Nat} {e:Int} (h:a≤S.length) (he:e ≠ 0):RR S (s,e) (S,((a:Int),e)) :=
 ⟨rfl,by show (0:Int)≤(a:Int);omega,by show (a:Int)≤(S.length:Int);omega,rfl,fun hh=>absurd hh he⟩
def IntOK (S:List UInt8) (p:Option (Int × Rdr)) (q:Option (Int × RefRdr)):Prop :=
 ∃ n r x,p=some (n,r)∧q=some (n,x)∧RR S r x∧0≤n∧n<72057594037927936∧(x.2.2 ≠ 0→n=0)
theorem int_bad (k m:Nat) (a b:Int) (s:List UInt8) (e:Int) (he:e ≠ 0):z0y.l3 k (m+1) a b (s,e)=some (0,(s,e)):=by
 rw [z0y.l3_eq,fine_is]
 simp only [bnd_some,he,decide_false,br_false]
theorem int_fin {S:List UInt8} {a i:Nat} (hl:a+i<S.length) (hS:S.length<4000000) {v:Int} (h0:0≤v) (h1:v<72057594037927936) :
  IntOK S (br (inS ((i+1:Nat):Int) (ilen (S.drop a)) (ilen (S.drop a))) (some (v,((piece (S.drop a) ((i+1:Nat):Int) (ilen (S.drop a))),(0:Int)))) none) (some (v,(S,((iadd .i64 ((a+i:Nat):Int) 1),(0:Int))))):=by
 have hin:inS ((i+1:Nat):Int) (ilen (S.drop a)) (ilen (S.drop a))=true:=by
  have q1:((i+1:Nat):Int)≤((S.drop a).length:Int):=by rw [List.length_drop];omega
  show (decide ((0:Int)≤((i+1:Nat):Int)) && decide (((i+1:Nat):Int)≤((S.drop a).length:Int)) && decide (((S.drop a).length:Int)≤((S.drop a).length:Int)))=true
  rw [decide_eq_true q1,decide_eq_true (show (0:Int)≤((i+1:Nat):Int) by omega),decide_eq_true (Int.le_refl _)];rfl
 rw [hin,iadd_nat (by omega)]
 refine ⟨_,_,_,rfl,rfl,⟨rfl,by show (0:Int)≤((a+i+1:Nat):Int);omega,by show ((a+i+1:Nat):Int)≤(S.length:Int);omega,rfl,fun _=>?_⟩,h0,h1,fun h=>absurd rfl h⟩
 show piece (S.drop a) ((i+1:Nat):Int) (ilen (S.drop a))=S.drop ((a+i+1:Nat):Int).toNat
 unfold piece ilen
 rw [Int.toNat_natCast,Int.toNat_natCast,Int.toNat_natCast,List.take_length,List.drop_drop]
 congr 1
theorem int_end (k:Nat) (S:List UInt8) (a:Nat) (ha:a≤S.length) (n u:Int) (m1 m2:Nat) :
  IntOK S (z0y.l3 k (m1+2) n ((8:Nat):Int) (S.drop a,0)) (z0n.l5 k (m2+1) n u ((8:Nat):Int) (S,((a:Int),0))):=by
  rw [z0y.l3_eq,z0n.l5_eq,fine_is]
  have e1:ieq ((8:Nat):Int) 8=true:=rfl
  have e2:ilt ((8:Nat):Int) 8=false:=rfl
  simp only [bnd_some,decide_true,br_true,e1,e2,br_false,fail_is,if_true]
  rw [int_bad k m1 _ _ _ 6 (by decide)]
  exact ⟨0,_,_,rfl,rfl,rr_bad ha (by decide),by decide,by decide,fun _=>rfl⟩
theorem int_step (k:Nat) (S:List UInt8) (a:Nat) (ha:a≤S.length) (hS:S.length<4000000) (i n m1 m2:Nat) (hi8:i<8) (hn:n<2 ^ (7 * i))
  (ih:∀ v:Nat,v<2 ^ (7 * (i+1))→IntOK S (z0y.l3 k (m1+1) (v:Int) ((i+1:Nat):Int) (S.drop a,0)) (z0n.l5 k m2 (v:Int) ((2 ^ (7 * (i+1)):Nat):Int) ((i+1:Nat):Int) (S,((a:Int),0)))) :
  IntOK S (z0y.l3 k (m1+2) (n:Int) (i:Int) (S.drop a,0)) (z0n.l5 k (m2+1) (n:Int) ((2 ^ (7 * i):Nat):Int) (i:Int) (S,((a:Int),0))):=by
  rw [z0y.l3_eq,z0n.l5_eq,fine_is]
  have e1:ieq (i:Int) 8=false:=by rw [ieq_dec];exact decide_eq_false (by omega)
  have e2:ilt (i:Int) 8=true:=decide_eq_true (by omega)
  have e3:iadd .i64 (a:Int) (i:Int)=((a+i:Nat):Int):=by rw [iadd_s (by omega) (by omega) (by omega) (by omega)];omega
  have e4:ile (ilen (S.drop a)) (i:Int)=decide (S.length≤a+i):=by
   unfold ile ilen;rw [List.length_drop];exact decide_eq_decide.2 ⟨fun h=>by omega,fun h=>by omega⟩
  have e5:ile (ilen S) ((a+i:Nat):Int)=decide (S.length≤a+i):=by
   unfold ile ilen;exact decide_eq_decide.2 ⟨fun h=>by omega,fun h=>by omega⟩
  have e6:inL (i:Int) (S.drop a)=decide (a+i<S.length):=by
   rw [inL_nat,List.length_drop];exact decide_eq_decide.2 ⟨fun h=>by omega,fun h=>by omega⟩
  have e8':inL ((a+i:Nat):Int) S=decide (a+i<S.length):=inL_nat _ _
  have e7:ilt (imul .i64 7 (i:Int)) 0=false:=by
   show decide (IntKind.wrap .i64 (7 * (i:Int))<0)=false
   rw [wrap64 (by omega) (by omega)];exact decide_eq_false (by omega)
  simp only [bnd_some,decide_true,br_true,e1,e2,br_false,fail_is,if_true,e3,e4,e5,e6,e7,e8',byteAt_drop]
  by_cases hl:S.length≤a+i
  ·simp only [hl,decide_true,br_true]
   rw [int_bad k m1 _ _ _ 4 (by decide)]
   exact ⟨0,_,_,rfl,rfl,rr_bad ha (by decide),by decide,by decide,fun _=>rfl⟩
  ·have hl2:a+i<S.length:=by omega
   simp only [hl,hl2,decide_true,decide_false,br_true,br_false]
   have hcr:=byteAt_rng S ((a+i:Nat):Int)
   obtain ⟨c,hc⟩:∃ c:Nat,byteAt S ((a+i:Nat):Int)=(c:Int):=⟨(byteAt S ((a+i:Nat):Int)).toNat,by omega⟩
   rw [hc] at hcr ⊢
   have hw:iwrap .i64 (c:Int)=(c:Int):=wrap64 (by omega) (by omega)
   have hc256:c<256:=by omega
   obtain ⟨g1,g2⟩:=num_step (c:=c) hi8 hc256 hn
   have e12:iadd .i64 (i:Int) 1=((i+1:Nat):Int):=iadd_nat (by omega)
   rw [hw,g1,e12]
   have e8:ile 128 (c:Int)=decide (128≤c):=by unfold ile;exact decide_eq_decide.2 ⟨fun h=>by omega,fun h=>by omega⟩
   have e9:ilt (c:Int) 128=decide (c<128):=by unfold ilt;exact decide_eq_decide.2 ⟨fun h=>by omega,fun h=>by omega⟩
   have e10:ieq (c:Int) 0=decide (c=0):=by rw [ieq_dec];exact decide_eq_decide.2 ⟨fun h=>by omega,fun h=>by omega⟩
   have e11:ilt 0 (i:Int)=decide (0<i):=ilt_nn 0 i
   rw [e8,e9,e10,e11]
   by_cases hc2:128≤c
   ·have hc3:¬ c<128:=by omega
    rw [decide_eq_true hc2,decide_eq_false hc3,br_true,br_false]
    rw [ref_step hi8 hc256 hn hc2,unit_step hi8]
    exact ih _ g2
   ·have hc3:c<128:=by omega
    rw [decide_eq_false hc2,decide_eq_true hc3,br_false,br_true]
    rw [ref_last hi8 hn hc3]
    have hp1:=pow_mono (show i+1≤8 by omega)
    obtain ⟨v,hv⟩:∃ v:Int,v=((2 ^ (7 * i) * (c % 128)+n:Nat):Int):=⟨_,rfl⟩
    have v0:0≤v:=by omega
    have v1:v<72057594037927936:=by omega
    rw [← hv]
    have fin:=int_fin hl2 hS v0 v1
    by_cases hc0:c=0
    ·simp only [hc0,decide_true,br_true]
     by_cases h0:0<i
     ·simp only [h0,decide_true,br_true]
      rw [int_bad k m1 _ _ _ 3 (by decide)]
      exact ⟨0,_,_,rfl,rfl,rr_bad ha (by decide),by decide,by decide,fun _=>rfl⟩
     ·simp only [h0,decide_false,br_false]
      exact fin
    ·simp only [hc0,decide_false,br_false]
     exact fin
theorem int_l (k:Nat) (S:List UInt8) (a:Nat) (ha:a≤S.length) (hS:S.length<4000000) (m:Nat):∀ (i n m1 m2:Nat),i+m=8→m+2≤m1→m+1≤m2→n<2 ^ (7 * i) →
  IntOK S (z0y.l3 k m1 (n:Int) (i:Int) (S.drop a,0)) (z0n.l5 k m2 (n:Int) ((2 ^ (7 * i):Nat):Int) (i:Int) (S,((a:Int),0))):=by
 induction m with
 | zero =>
  intro i n m1 m2 hi h1 h2 hn
  obtain ⟨q1,rfl⟩:∃ q,m1=q+2:=⟨m1 - 2,by omega⟩
  obtain ⟨q2,rfl⟩:∃ q,m2=q+1:=⟨m2 - 1,by omega⟩
  have:i=8:=by omega
  subst this
  exact int_end k S a ha _ _ q1 q2
 | succ m ih =>
  intro i n m1 m2 hi h1 h2 hn
  obtain ⟨q1,rfl⟩:∃ q,m1=q+2:=⟨m1 - 2,by omega⟩
  obtain ⟨q2,rfl⟩:∃ q,m2=q+1:=⟨m2 - 1,by omega⟩
  exact int_step k S a ha hS i n q1 q2 (by omega) hn fun v hv=>ih (i+1) v (q1+1) q2 (by omega) (by omega) (by omega) hv
theorem int_is (k:Nat) (S:List UInt8) (r:Rdr) (x:RefRdr) (h:RR S r x) (hS:S.length<4000000) (hk:12<k):IntOK S (z0y.f k r) (z0n.f k x):=by
 obtain ⟨s,b⟩:=r
 obtain ⟨S',a,e⟩:=x
 obtain ⟨h1,h2,h3,h4,h5⟩:=h
 simp only at h1 h2 h3 h4 h5
 subst h1;subst h4
 rw [z0y.f_eq,z0n.f_eq,ieq_dec,bnot_dec]
 by_cases hb:b=0
 ·subst hb
  simp only [not_true,decide_false,br_false]
  rw [h5 rfl]
  obtain ⟨A,hA⟩:∃ A:Nat,a=(A:Int):=⟨a.toNat,by omega⟩
  subst hA
  have:=int_l k S' A (by omega) hS 8 0 0 k k (by omega) (by omega) (by omega) (by decide)
  exact this
 ·simp only [hb,not_false_eq_true,decide_true,br_true]
  obtain ⟨m,rfl⟩:∃ m,k=m+1:=⟨k - 1,by omega⟩
  rw [int_bad (m+1) m _ _ _ b hb]
  exact ⟨0,_,_,rfl,rfl,⟨rfl,h2,h3,rfl,fun h=>absurd h hb⟩,by decide,by decide,fun _=>rfl⟩
theorem many_is (k:Nat) (S:List UInt8) (most:Int) (r:Rdr) (x:RefRdr) (h:RR S r x) (hS:S.length<4000000) (hk:12<k):∃ (n:Int) (r':Rdr) (x':RefRdr),z0s.f k most r=some (n,r')∧z0j.f k most x=some (n,x')∧RR S r' x'∧0≤n∧n≤(S.length:Int)∧(n ≠ 0→n≤most):=by
 obtain ⟨n,r1,x1,e1,e2,hr,n0,n1,nb⟩:=int_is k S r x h hS hk
 rw [z0s.f_eq,z0j.f_eq,e1,e2]
 simp only [bnd_some,fine_is,fail_is,ieq_dec,bnot_dec,br_dec,ilt_dec]
 obtain ⟨s1,b1⟩:=r1
 obtain ⟨S1,a1,e3⟩:=x1
 obtain ⟨q1,q2,q3,q4,q5⟩:=hr
 simp only at q1 q2 q3 q4 q5 nb ⊢
 subst q1;subst q4
 by_cases hb:b1=0
 ·subst hb
  have hl:(s1.length:Int)=(S1.length:Int) - a1:=by rw [q5 rfl,List.length_drop];omega
  have hsub:isub .i64 (ilen S1) a1=(S1.length:Int) - a1:=by unfold ilen;exact isub_s (by omega) (by omega) (by omega) (by omega)
  have hlen:ilen s1=(S1.length:Int) - a1:=hl
  simp only [hsub,hlen,not_true,if_false,if_true]
  by_cases c1:most<n
  ·rw [if_pos c1,if_pos c1]
   exact ⟨0,_,_,rfl,rfl,⟨rfl,q2,q3,rfl,fun h=>by cases h⟩,by omega,by omega,fun h=>absurd rfl h⟩
  ·rw [if_neg c1,if_neg c1]
   by_cases c2:(S1.length:Int) - a1<n
   ·rw [if_pos c2,if_pos c2]
    exact ⟨0,_,_,rfl,rfl,⟨rfl,q2,q3,rfl,fun h=>by cases h⟩,by omega,by omega,fun h=>absurd rfl h⟩
   ·rw [if_neg c2,if_neg c2]
    exact ⟨n,_,_,rfl,rfl,⟨rfl,q2,q3,rfl,q5⟩,n0,by omega,fun _=>by omega⟩
 ·simp only [hb,not_false_eq_true,if_true,if_false]
  exact ⟨0,_,_,rfl,rfl,⟨rfl,q2,q3,rfl,q5⟩,by omega,by omega,fun h=>absurd rfl h⟩
theorem fault_is (k:Nat) (r:Rdr):z0i.f k r=some (r.2,r):=z0i.f_eq k r
theorem left_is (k:Nat) (S:List UInt8) (r:Rdr) (x:RefRdr) (h:RR S r x) (hS:S.length<4000000):∃ n,z0p.f k r=some (n,r)∧z0l.f k x=some (n,x):=by
 rw [z0p.f_eq,z0l.f_eq,fine_is]
 obtain ⟨s1,b1⟩:=r
 obtain ⟨S1,a1,e3⟩:=x
 obtain ⟨q1,q2,q3,q4,q5⟩:=h
 simp only at q1 q2 q3 q4 q5 ⊢
 subst q1;subst q4
 simp only [bnd_some,ieq_dec,bnot_dec,br_dec]
 by_cases hb:b1=0
 ·subst hb
  refine ⟨ilen s1,by simp,?_⟩
  have hsub:isub .i64 (ilen S1) a1=ilen s1:=by unfold ilen;rw [isub_s (by omega) (by omega) (by omega) (by omega),q5 rfl,List.length_drop];omega
  simp [hsub]
 ·exact ⟨0,by simp [hb],by simp [hb]⟩
theorem open_rr (S:List UInt8):RR S (S,0) (S,(0,0)):=⟨rfl,Int.le_refl _,by show (0:Int)≤_;omega,rfl,fun _=>rfl⟩
theorem RR.fail {S:List UInt8} {r:Rdr} {x:RefRdr} (h:RR S r x) {e:Int} (he:e ≠ 0) (hb:x.2.2=0):RR S (r.1,e) (x.1,(x.2.1,e)):=⟨h.src,h.lo,h.hi,rfl,fun hh=>absurd hh he⟩
end Go.Proofs.YtggcagclpkhlhaaGreatDoor
end
noncomputable section
/- Dots, vectors, rows of dots and sets: the program and the document read the same. -/
namespace Go.Proofs.YtggcagclpkhlhaaGreatDoor
open Pal
theorem dotread_is (k:Nat) (S:List UInt8) (r:Rdr) (x:RefRdr) (h:RR S r x) (hS:S.length<4000000) (hk:12<k) :
  ∃ (d:Dot) (r':Rdr) (x':RefRdr),z2C.f k r=some (d,r')∧z1Q.f k x=some (d,x')∧RR S r' x'∧(x'.2.2=0→rightD d=true):=by
 obtain ⟨a,r1,x1,e1,e2,h1,_,_,_⟩:=int_is k S r x h hS hk
 obtain ⟨b,r2,x2,e3,e4,h2,_,_,_⟩:=int_is k S r1 x1 h1 hS hk
 rw [z2C.f_eq,z1Q.f_eq,e1,e2]
 simp only [bnd_some,e3,e4,fault_is,fail_is,ieq_dec,bnot_dec,br_dec,right_is,rright_is]
 obtain ⟨s2,b2⟩:=r2
 obtain ⟨S2,a2,c2⟩:=x2
 have hb:b2=c2:=h2.bad
 subst hb
 by_cases hz:b2=0
 ·subst hz
  simp only [if_true]
  cases hr:rightD (a,b) with
  | true =>
   have e:bnot true=false:=rfl
   simp only [e,br_false,not_true,if_false]
   exact ⟨(a,b),_,_,rfl,rfl,h2,fun _=>hr⟩
  | false =>
   have e:bnot false=true:=rfl
   simp only [e,br_true]
   exact ⟨(0,0),_,_,rfl,rfl,h2.fail (e:=2) (by decide) rfl,fun hh=>by cases hh⟩
 ·simp only [hz,not_false_eq_true,if_true,if_false]
  exact ⟨(0,0),_,_,rfl,rfl,h2,fun hh=>absurd hh hz⟩
theorem upd_len {v:Vec} {i:Nat} {x:Int}:(upd v i x).length=v.length:=by simp [upd]
theorem vread_l (k:Nat) (S:List UInt8) (hS:S.length<4000000) (hk:17<k) (za zb:Vec):∀ (n i:Nat) (v:Vec) (r:Rdr) (x:RefRdr),i≤16→16<n+i→v.length=16→RR S r x →
  ∃ (v':Vec) (r':Rdr) (x':RefRdr),z2B.l3 k n (i:Int) za v r=some (v',r')∧z1u.l3 k n (i:Int) zb v x=some (v',x')∧RR S r' x'∧v'.length=16∧(x'.2.2=0→VOk v')
 | 0,i,_,_,_,h,h',_,_=>by omega
 | n+1,i,v,r,x,h,h',hv,hr=>by
  rw [z2B.l3_eq,z1u.l3_eq]
  have e1:ilt (i:Int) 16=decide (i<16):=ilt_nn i 16
  rw [e1,inB_nat]
  by_cases hi:i<16
  ·obtain ⟨a,r1,x1,e2,e3,h1,_,_,_⟩:=int_is k S r x hr hS (by omega)
   have e4:iadd .i64 (i:Int) 1=((i+1:Nat):Int):=iadd_nat (by omega)
   rw [decide_eq_true hi,e2,e3,e4]
   simp only [br_true,bnd_some]
   exact vread_l k S hS hk za zb n (i+1) _ r1 x1 (by omega) (by omega) (by rw [upd_len];exact hv) h1
  ·rw [decide_eq_false hi]
   obtain ⟨b1,g1,i1⟩:=vr_is k v hv hk
   obtain ⟨b2,g2,i2⟩:=rvr_is k v hv hk
   have hbb:b1=b2:=by rw [Bool.eq_iff_iff,i1,i2]
   subst hbb
   simp only [br_false,bnd_some,g1,g2,fault_is,fail_is,ieq_dec,bnot_dec,br_dec]
   obtain ⟨s2,c1⟩:=r
   obtain ⟨S2,a2,c2⟩:=x
   have hb:c1=c2:=hr.bad
   subst hb
   by_cases hz:c1=0
   ·subst hz
    simp only [if_true]
    cases b1 with
    | true =>
     have e:bnot true=false:=rfl
     simp only [e,br_false,not_true,if_false]
     exact ⟨v,_,_,rfl,rfl,hr,hv,fun _=>i1.1 rfl⟩
    | false =>
     have e:bnot false=true:=rfl
     simp only [e,br_true]
     exact ⟨zarr 16 0,_,_,rfl,rfl,hr.fail (e:=2) (by decide) rfl,rfl,fun hh=>by cases hh⟩
   ·simp only [hz,not_false_eq_true,if_true,if_false]
    exact ⟨zarr 16 0,_,_,rfl,rfl,hr,rfl,fun hh=>absurd hh hz⟩
theorem vread_is (k:Nat) (S:List UInt8) (r:Rdr) (x:RefRdr) (h:RR S r x) (hS:S.length<4000000) (hk:17<k) :
  ∃ (v':Vec) (r':Rdr) (x':RefRdr),z2B.f k r=some (v',r')∧z1u.f k x=some (v',x')∧RR S r' x'∧v'.length=16∧(x'.2.2=0→VOk v'):=by
 rw [z2B.f_eq,z1u.f_eq]
 exact vread_l k S hS hk _ _ k 0 (zarr 16 0) r x (by omega) (by omega) rfl h
theorem lread_l (k:Nat) (S:List UInt8) (hS:S.length<1000000) (hk:12<k) (N:Nat) (hN:N≤S.length):∀ (n i:Nat) (l:List Dot) (r:Rdr) (x:RefRdr),i≤N→N<n+i→l.length=i→RR S r x →
  ∃ (l':List Dot) (r':Rdr) (x':RefRdr),z0M.l3 k n l (N:Int) (i:Int) r=some (l',r')∧z0C.l4 k n (N:Int) l (i:Int) x=some (l',x')∧RR S r' x'∧l'.length≤N
 | 0,i,_,_,_,h,h',_,_=>by omega
 | n+1,i,l,r,x,h,h',hl,hr=>by
  rw [z0M.l3_eq,z0C.l4_eq,ilt_nn]
  by_cases hi:i<N
  ·obtain ⟨d,r1,x1,e1,e2,h1,_⟩:=dotread_is k S r x hr (by omega) hk
   have e4:iadd .i64 (i:Int) 1=((i+1:Nat):Int):=iadd_nat (by omega)
   rw [decide_eq_true hi,e1,e2,e4]
   simp only [br_true,bnd_some,room1 (show l.length<4000000 by omega)]
   exact lread_l k S hS hk N hN n (i+1) _ r1 x1 (by omega) (by omega) (by simp [app,hl]) h1
  ·rw [decide_eq_false hi]
   simp only [br_false,bnd_some,fault_is,ieq_dec,bnot_dec,br_dec]
   have hb:r.2=x.2.2:=hr.bad
   rw [hb]
   by_cases hz:x.2.2=0
   ·simp only [hz,not_true,if_false]
    exact ⟨l,_,_,rfl,rfl,hr,by omega⟩
   ·simp only [hz,not_false_eq_true,if_true]
    exact ⟨[],_,_,rfl,rfl,hr,by simp⟩
theorem lread_is (k:Nat) (S:List UInt8) (most:Int) (r:Rdr) (x:RefRdr) (h:RR S r x) (hS:S.length<1000000) (hk:12<k) (hk2:S.length<k) :
  ∃ (l:List Dot) (r':Rdr) (x':RefRdr),z0M.f k most r=some (l,r')∧z0C.f k most x=some (l,x')∧RR S r' x'∧l.length≤S.length∧(l ≠ []→(l.length:Int)≤most):=by
 obtain ⟨n,r1,x1,e1,e2,h1,n0,n1,nm⟩:=many_is k S most r x h (by omega) hk
 rw [z0M.f_eq,z0C.f_eq,e1,e2]
 simp only [bnd_some]
 obtain ⟨N,rfl⟩:∃ N:Nat,n=(N:Int):=⟨n.toNat,by omega⟩
 obtain ⟨l,r',x',g1,g2,g3,g4⟩:=lread_l k S hS hk N (by omega) k 0 [] r1 x1 (by omega) (by omega) rfl h1
 refine ⟨l,r',x',g1,g2,g3,by omega,fun hne=>?_⟩
 have hpos:0<l.length:=List.length_pos_iff.2 hne
 have:=nm (by omega)
 omega
theorem dread_is (k:Nat) (S:List UInt8) (r:Rdr) (x:RefRdr) (h:RR S r x) (hS:S.length<5000) (hk:5000<k) (hk2:k<1000000) :
  ∃ (s:DSet) (r':Rdr) (x':RefRdr),z2p.f k r=some (s,r')∧z1R.f k x=some (s,x')∧RR S r' x'∧s.2.length≤S.length∧s.1.length=16∧(x'.2.2=0→Can s):=by
 obtain ⟨v,r1,x1,e1,e2,h1,hv,hvo⟩:=vread_is k S r x h (by omega) (by omega)
 obtain ⟨l,r2,x2,e3,e4,h2,hl,hlm⟩:=lread_is k S 4096 r1 x1 h1 (by omega) (by omega) (by omega)
 obtain ⟨b1,g1,i1⟩:=dr_is k (v,l) hv hk hk2
 obtain ⟨b2,g2,i2⟩:=rr_is k (v,l) hv hk hk2
 have hbb:b1=b2:=by rw [Bool.eq_iff_iff,i1,i2]
 subst hbb
 rw [z2p.f_eq,z1R.f_eq,e1,e2]
 simp only [bnd_some,e3,e4]
 simp only [g1,g2,bnd_some,fault_is,fail_is,ieq_dec,bnot_dec,br_dec]
 obtain ⟨s2,c1⟩:=r2
 obtain ⟨S2,a2,c2⟩:=x2
 have hb:c1=c2:=h2.bad
 subst hb
 by_cases hz:c1=0
 ·subst hz
  simp only [if_true]
  cases b1 with
  | true =>
   have e:bnot true=false:=rfl
   simp only [e,br_false,not_true,if_false]
   exact ⟨(v,l),_,_,rfl,rfl,h2,hl,hv,fun _=>(i1.1 rfl).1⟩
  | false =>
   have e:bnot false=true:=rfl
   simp only [e,br_true]
   exact ⟨(zarr 16 0,[]),_,_,rfl,rfl,h2.fail (e:=2) (by decide) rfl,by simp,rfl,fun hh=>by cases hh⟩
 ·simp only [hz,not_false_eq_true,if_true,if_false]
  exact ⟨(zarr 16 0,[]),_,_,rfl,rfl,h2,by simp,rfl,fun hh=>absurd hh hz⟩
end Go.Proofs.YtggcagclpkhlhaaGreatDoor
end
noncomputable section
/- Texts, values, paths: the program and the document read the same. -/
namespace Go.Proofs.YtggcagclpkhlhaaGreatDoor
open Pal
theorem inS_nn {a b c:Nat} (h1:a≤b) (h2:b≤c):inS (a:Int) (b:Int) (c:Int)=true:=by
 show (decide ((0:Int)≤(a:Int)) && decide ((a:Int)≤(b:Int)) && decide ((b:Int)≤(c:Int)))=true
 rw [decide_eq_true (show (0:Int)≤(a:Int) by omega),decide_eq_true (show (a:Int)≤(b:Int) by omega),decide_eq_true (show (b:Int)≤(c:Int) by omega)];rfl
theorem text_is (k:Nat) (S:List UInt8) (r:Rdr) (x:RefRdr) (h:RR S r x) (hS:S.length<4000000) (hk:12<k) :
  ∃ (t:List UInt8) (r':Rdr) (x':RefRdr),z0w.f k r=some (t,r')∧z0h.f k x=some (t,x')∧RR S r' x'∧t.length≤S.length:=by
 obtain ⟨n,r1,x1,e1,e2,h1,n0,n1,nb⟩:=int_is k S r x h hS hk
 obtain ⟨N,rfl⟩:∃ N:Nat,n=(N:Int):=⟨n.toNat,by omega⟩
 rw [z0w.f_eq,z0h.f_eq,e1,e2]
 simp only [bnd_some,fine_is,fail_is]
 obtain ⟨s1,b1⟩:=r1
 obtain ⟨S1,a1,c1⟩:=x1
 obtain ⟨q1,q2,q3,q4,q5⟩:=h1
 simp only at q1 q2 q3 q4 q5 nb ⊢
 subst q1;subst q4
 have bt:bnot true=false:=rfl
 have bf:bnot false=true:=rfl
 by_cases hb:b1=0
 case neg =>
  rw [ieq_dec,decide_eq_false hb,bf]
  simp only [br_true,br_false,bf]
  exact ⟨[],(s1,b1),(S1,(a1,b1)),rfl,rfl,⟨rfl,q2,q3,rfl,q5⟩,by simp⟩
 subst hb
 have hs1:=q5 rfl
 obtain ⟨A,rfl⟩:∃ A:Nat,a1=(A:Int):=⟨a1.toNat,by omega⟩
 rw [Int.toNat_natCast] at hs1
 have hA:A≤S1.length:=by omega
 have hlen:s1.length=S1.length - A:=by rw [hs1,List.length_drop]
 have hsub:isub .i64 (ilen S1) (A:Int)=(s1.length:Int):=by unfold ilen;rw [isub_s (by omega) (by omega) (by omega) (by omega)];omega
 have e0:ieq (0:Int) 0=true:=rfl
 have d0:decide ((0:Int)=0)=true:=rfl
 rw [e0,bt,d0,show ilt (ilen s1) (N:Int)=decide (s1.length<N) from ilt_nn s1.length N,hsub,show ilt (s1.length:Int) (N:Int)=decide (s1.length<N) from ilt_nn s1.length N]
 simp only [br_true,br_false,bt]
 by_cases hn:s1.length<N
 ·rw [decide_eq_true hn,br_true,br_true]
  simp only [if_true]
  have d4:decide ((4:Int)=0)=false:=rfl
  rw [d4,bf,br_true]
  exact ⟨[],(s1,4),(S1,((A:Int),4)),rfl,rfl,⟨rfl,q2,q3,rfl,fun h=>by cases h⟩,by simp⟩
 ·have hadd:iadd .i64 (A:Int) (N:Int)=((A+N:Nat):Int):=by rw [iadd_s (by omega) (by omega) (by omega) (by omega)];omega
  have i1:inS 0 (N:Int) (ilen s1)=true:=inS_nn (a:=0) (b:=N) (c:=s1.length) (by omega) (by omega)
  have i2:inS (N:Int) (ilen s1) (ilen s1)=true:=inS_nn (a:=N) (b:=s1.length) (c:=s1.length) (by omega) (by omega)
  have i3:inS (A:Int) ((A+N:Nat):Int) (ilen S1)=true:=inS_nn (a:=A) (b:=A+N) (c:=S1.length) (by omega) (by omega)
  have p1:piece s1 0 (N:Int)=s1.take N:=by unfold piece;simp
  have p2:piece s1 (N:Int) (ilen s1)=s1.drop N:=by unfold piece ilen;rw [Int.toNat_natCast,Int.toNat_natCast,List.take_length]
  have p3:piece S1 (A:Int) ((A+N:Nat):Int)=s1.take N:=by
   unfold piece;rw [Int.toNat_natCast,Int.toNat_natCast,hs1,List.take_drop]
  rw [decide_eq_false hn,br_false,br_false,i1,br_true,i2,br_true,hadd,i3,br_true,p1,p2,p3]
  refine ⟨s1.take N,(s1.drop N,0),(S1,(((A+N:Nat):Int),0)),rfl,rfl,⟨rfl,by show (0:Int)≤((A+N:Nat):Int);omega,by show ((A+N:Nat):Int)≤(S1.length:Int);omega,rfl,fun _=>?_⟩,by rw [List.length_take];omega⟩
  show s1.drop N=S1.drop ((A+N:Nat):Int).toNat
  rw [Int.toNat_natCast,hs1,List.drop_drop]
theorem pathr_l (k:Nat) (S:List UInt8) (hS:S.length<5000) (hk:5000<k) (hk2:k<1000000) (N:Nat) (hN:N≤8):∀ (n i:Nat) (p:List Str) (r:Rdr) (x:RefRdr),i≤N→N<n+i→p.length=i→(∀ s ∈ p,List.length s<k)→RR S r x →
  ∃ (p':List Str) (r':Rdr) (x':RefRdr),z2d.l3 k n p (N:Int) (i:Int) r=some (p',r')∧z1A.l4 k n (N:Int) p (i:Int) x=some (p',x')∧RR S r' x'∧p'.length≤N∧∀ s ∈ p',List.length s<k
 | 0,i,_,_,_,h,h',_,_,_=>by omega
 | n+1,i,p,r,x,h,h',hp,hs,hr=>by
  rw [z2d.l3_eq,z1A.l4_eq,ilt_nn]
  by_cases hi:i<N
  ·obtain ⟨t,r1,x1,e1,e2,h1,ht⟩:=text_is k S r x hr (by omega) (by omega)
   have e4:iadd .i64 (i:Int) 1=((i+1:Nat):Int):=iadd_nat (by omega)
   rw [decide_eq_true hi,e1,e2,e4]
   simp only [br_true,bnd_some,room1 (show p.length<4000000 by omega)]
   exact pathr_l k S hS hk hk2 N hN n (i+1) _ r1 x1 (by omega) (by omega) (by simp [app,hp]) (fun s hs'=>by
    simp only [app,List.mem_append,List.mem_singleton] at hs'
    rcases hs' with hs' | rfl
    ·exact hs s hs'
    ·omega) h1
  ·obtain ⟨e,g1,g2⟩:=path_is k p hs (by omega) hk2 (by omega)
   rw [decide_eq_false hi]
   simp only [br_false,bnd_some,g1,g2,fault_is,fail_is,z0k.f_eq,ieq_dec,bnot_dec,br_dec]
   obtain ⟨s2,c1⟩:=r
   obtain ⟨S2,a2,c2⟩:=x
   have hb:c1=c2:=hr.bad
   subst hb
   by_cases hz:c1=0
   ·subst hz
    simp only [if_true]
    by_cases he:e=0
    ·subst he
     simp only [not_true,if_false,if_true,bnd_some]
     exact ⟨p,_,_,rfl,rfl,hr,by omega,hs⟩
    ·simp only [he,not_false_eq_true,if_true,bnd_some]
     exact ⟨[],_,_,rfl,rfl,hr.fail he rfl,by simp,fun s hs=>by simp at hs⟩
   ·simp only [hz,not_false_eq_true,if_true,if_false]
    exact ⟨[],_,_,rfl,rfl,hr,by simp,fun s hs=>by simp at hs⟩
theorem pathr_is (k:Nat) (S:List UInt8) (r:Rdr) (x:RefRdr) (h:RR S r x) (hS:S.length<5000) (hk:5000<k) (hk2:k<1000000) :
  ∃ (p:List Str) (r':Rdr) (x':RefRdr),z2d.f k r=some (p,r')∧z1A.f k x=some (p,x')∧RR S r' x'∧p.length≤8∧∀ s ∈ p,List.length s<k:=by
 obtain ⟨n,r1,x1,e1,e2,h1,n0,n1,nm⟩:=many_is k S 8 r x h (by omega) (by omega)
 rw [z2d.f_eq,z1A.f_eq,e1,e2]
 simp only [bnd_some]
 obtain ⟨N,rfl⟩:∃ N:Nat,n=(N:Int):=⟨n.toNat,by omega⟩
 have hN:N≤8:=by
  by_cases h0:N=0
  ·omega
  ·have:=nm (by omega);omega
 obtain ⟨p,r',x',g1,g2,g3,g4,g5⟩:=pathr_l k S hS hk hk2 N hN k 0 [] r1 x1 (by omega) (by omega) rfl (fun s hs=>by simp at hs) h1
 exact ⟨p,r',x',g1,g2,g3,by omega,g5⟩
def unf (n:Nat):Int:=if n % 2=0 then ((n / 2:Nat):Int) else -(((n+1) / 2:Nat):Int)
theorem irem2 (n:Nat):irem (n:Int) 2=((n % 2:Nat):Int):=by
 rfl
theorem tdiv2 (q:Nat):(q:Int).tdiv 2=((q / 2:Nat):Int):=rfl
theorem unfold_is (k n:Nat) (hn:n<72057594037927936):z0N.f k (n:Int)=some (unf n)∧z0S.f k (n:Int)=some (unf n):=by
 rw [z0N.f_eq,z0S.f_eq,irem2]
 unfold unf
 by_cases h:n % 2=0
 ·have q:iquo .i64 (n:Int) 2=((n / 2:Nat):Int):=by
   show IntKind.wrap .i64 ((n:Int).tdiv 2)=_
   rw [tdiv2,wrap64 (by omega) (by omega)]
  rw [h,if_pos rfl,q];exact ⟨rfl,rfl⟩
 ·have h1:n % 2=1:=by omega
  have a1:iadd .i64 (n:Int) 1=((n+1:Nat):Int):=iadd_nat (by omega)
  have a2:isub .i64 0 ((n+1:Nat):Int)=-((n+1:Nat):Int):=by
   show IntKind.wrap .i64 (0 - ((n+1:Nat):Int))=_
   rw [wrap64 (by omega) (by omega)];omega
  have a3:iquo .i64 (-((n+1:Nat):Int)) 2=-(((n+1) / 2:Nat):Int):=by
   show IntKind.wrap .i64 ((-((n+1:Nat):Int)).tdiv 2)=_
   rw [Int.neg_tdiv,tdiv2,wrap64 (by omega) (by omega)]
  have a4:iquo .i64 (n:Int) 2=((n / 2:Nat):Int):=by
   show IntKind.wrap .i64 ((n:Int).tdiv 2)=_
   rw [tdiv2,wrap64 (by omega) (by omega)]
  have a5:isub .i64 0 ((n / 2:Nat):Int)=-((n / 2:Nat):Int):=by
   show IntKind.wrap .i64 (0 - ((n / 2:Nat):Int))=_
   rw [wrap64 (by omega) (by omega)];omega
  have a6:isub .i64 (-((n / 2:Nat):Int)) 1=-(((n+1) / 2:Nat):Int):=by
   show IntKind.wrap .i64 (-((n / 2:Nat):Int) - 1)=_
   rw [wrap64 (by omega) (by omega)];omega
  rw [h1,if_neg (by decide),a1,a2,a3,a4,a5,a6];exact ⟨rfl,rfl⟩
theorem valr_is (k : Nat) (S : List UInt8) (r : Rdr) (x : RefRdr) (h : RR S r x) (hS : S.length < 5000) (hk : 5000 < k) (hk2 : k < 1000000) :
    ∃ (v : Val) (r' : Rdr) (x' : RefRdr), z1J.f k r = some (v, r') ∧ z1F.f k x = some (v, x') ∧ RR S r' x' ∧ v.2.2.length < k := by
  obtain ⟨n, r1, x1, e1, e2, h1, n0, n1, nb⟩ := int_is k S r x h (by omega) (by omega)
  rw [z1J.f_eq, z1F.f_eq, e1, e2]
  simp only [bnd_some]
  have fin : ∀ (v : Val) (r2 : Rdr) (x2 : RefRdr), RR S r2 x2 → v.2.2.length < k → ∃ (v' : Val) (r' : Rdr) (x' : RefRdr),
      (bnd (z0i.f k r2) fun q => br (ieq q.1 0) (bnd (z15.f k v) fun q3 => br (bnot q3) (bnd (z0o.f k 2 q.2) fun q4 => bnd (z0i.f k q4.2) fun q5 => br (bnot (ieq q5.1 0)) (some ((0, (0, [])), q5.2)) (some (v, q5.2))) (bnd (z0i.f k q.2) fun q6 => br (bnot (ieq q6.1 0)) (some ((0, (0, [])), q6.2)) (some (v, q6.2)))) (bnd (z0i.f k q.2) fun q7 => br (bnot (ieq q7.1 0)) (some ((0, (0, [])), q7.2)) (some (v, q7.2)))) = some (v', r') ∧
      (br (ieq x2.2.2 0) (bnd (z1k.f k v) fun q2 => br (bnot q2) (some ((0, (0, [])), (x2.1, (x2.2.1, 2)))) (br (bnot (ieq x2.2.2 0)) (some ((0, (0, [])), x2)) (some (v, x2)))) (br (bnot (ieq x2.2.2 0)) (some ((0, (0, [])), x2)) (some (v, x2)))) = some (v', x') ∧ RR S r' x' ∧ v'.2.2.length < k := by
    intro v r2 x2 h2 hv
    obtain ⟨b, g1, g2⟩ := val_is k v (by omega) hv hk2
    simp only [bnd_some, g1, g2, fault_is, fail_is, ieq_dec, bnot_dec, br_dec]
    obtain ⟨s2, c1⟩ := r2
    obtain ⟨S2, a2, c2⟩ := x2
    have hb : c1 = c2 := h2.bad
    subst hb
    by_cases hz : c1 = 0
    · subst hz
      simp only [if_true]
      cases b with
      | true =>
        have e : bnot true = false := rfl
        simp only [e, br_false, not_true, if_false]
        exact ⟨v, _, _, rfl, rfl, h2, hv⟩
      | false =>
        have e : bnot false = true := rfl
        simp only [e, br_true]
        exact ⟨(0, (0, [])), _, _, rfl, rfl, h2.fail (e := 2) (by decide) rfl, by show 0 < k; omega⟩
    · simp only [hz, not_false_eq_true, if_true, if_false]
      exact ⟨(0, (0, [])), _, _, rfl, rfl, h2, by show 0 < k; omega⟩
  cases ieq n 2 with
  | true =>
    obtain ⟨t, r2, x2, e3, e4, h2, ht⟩ := text_is k S r1 x1 h1 (by omega) (by omega)
    simp only [br_true]
    rw [e3, e4]
    simp only [bnd_some]
    exact fin (n, (0, t)) r2 x2 h2 (by show t.length < k; omega)
  | false =>
    obtain ⟨m, r2, x2, e3, e4, h2, m0, m1, mb⟩ := int_is k S r1 x1 h1 (by omega) (by omega)
    obtain ⟨M, rfl⟩ : ∃ M : Nat, m = (M : Int) := ⟨m.toNat, by omega⟩
    obtain ⟨u1, u2⟩ := unfold_is k M (by omega)
    simp only [br_false]
    rw [e3, e4]
    simp only [bnd_some]
    rw [u1, u2]
    simp only [bnd_some]
    exact fin (n, (unf M, [])) r2 x2 h2 (by show 0 < k; omega)
end Go.Proofs.YtggcagclpkhlhaaGreatDoor
end
noncomputable section
/- Operations: the end of reading one is the same in the program and the document. -/
namespace Go.Proofs.YtggcagclpkhlhaaGreatDoor
open Pal
theorem op_fin (k:Nat) (S:List UInt8) (hk:10<k) (hk2:k<1000000) (o:Op) (so:SizO k o) (r2:Rdr) (x2:RefRdr) (h2:RR S r2 x2):∃ (o':Op) (r':Rdr) (x':RefRdr),
  (bnd (z0i.f k r2) fun q=>br (ieq q.1 0) (bnd (z2y.f k o) fun q3=>bnd (z0o.f k q3 q.2) fun q4=>bnd (z0i.f k q4.2) fun q5=>br (bnot (ieq q5.1 0)) (some ((0,([],((0,(0,[])),(0,[])))),q5.2)) (some (o,q5.2))) (bnd (z0i.f k q.2) fun q7=>br (bnot (ieq q7.1 0)) (some ((0,([],((0,(0,[])),(0,[])))),q7.2)) (some (o,q7.2))))=some (o',r') ∧
  (br (ieq x2.2.2 0) (bnd (z13.f k o) fun q2=>bnd (z0k.f k q2 x2) fun q3=>br (bnot (ieq q3.2.2.2 0)) (some ((0,([],((0,(0,[])),(0,[])))),q3.2)) (some (o,q3.2))) (br (bnot (ieq x2.2.2 0)) (some ((0,([],((0,(0,[])),(0,[])))),x2)) (some (o,x2))))=some (o',x')∧RR S r' x'∧SizO k o':=by
 have hz0:SizO k (0,([],((0,(0,[])),(0,[])))):=⟨fun s hs=>by simp at hs,by show 0<k;omega,by show 0<k;omega,by show 0<k;omega⟩
 obtain ⟨e,g1,g2⟩:=op_is k o so.path so.names so.val so.seen hk hk2
 simp only [bnd_some,g1,g2,fault_is,fail_is,z0k.f_eq,ieq_dec,bnot_dec,br_dec]
 obtain ⟨s2,c1⟩:=r2
 obtain ⟨S2,a2,c2⟩:=x2
 have hb:c1=c2:=h2.bad
 subst hb
 by_cases hz:c1=0
 ·subst hz
  simp only [if_true,bnd_some]
  by_cases he:e=0
  ·subst he
   simp only [not_true,if_false]
   exact ⟨o,_,_,rfl,rfl,h2,so⟩
  ·simp only [he,not_false_eq_true,if_true]
   exact ⟨_,_,_,rfl,rfl,h2.fail he rfl,hz0⟩
 ·simp only [hz,not_false_eq_true,if_true,if_false]
  exact ⟨_,_,_,rfl,rfl,h2,hz0⟩
theorem seen_both (k:Nat) (S:List UInt8) (hS:S.length<5000) (hk:5000<k) (N:Nat) (hN:N≤S.length) (K:Int) (P:List Str) (V:Val) (A:Int) (z1:Int) (z2:List Str) (z3:Val) (z4:Int) (z5:List (Dot × Int)):∀ (n i:Nat) (l:List (Dot × Int)) (r:Rdr) (x:RefRdr),i≤N→N<n+i→l.length=i→RR S r x →
  ∃ (l':List (Dot × Int)) (r':Rdr) (x':RefRdr),z2M.l3 k n l (N:Int) (i:Int) r=some (l',r')∧l'.length≤N∧RR S r' x' ∧
   z1x.l13 k n (N:Int) (i:Int) z1 z2 z3 z4 z5 K P V A l x=br (ieq x'.2.2 0) (bnd (z13.f k (K,(P,(V,(A,l'))))) fun q2=>bnd (z0k.f k q2 x') fun q3=>br (bnot (ieq q3.2.2.2 0)) (some ((0,([],((0,(0,[])),(0,[])))),q3.2)) (some ((K,(P,(V,(A,l')))),q3.2))) (br (bnot (ieq x'.2.2 0)) (some ((0,([],((0,(0,[])),(0,[])))),x')) (some ((K,(P,(V,(A,l')))),x')))
 | 0,i,_,_,_,h,h',_,_=>by omega
 | n+1,i,l,r,x,h,h',hl,hr=>by
  rw [z2M.l3_eq,z1x.l13_eq,ilt_nn]
  by_cases hi:i<N
  ·obtain ⟨d,r1,x1,e1,e2,h1,_⟩:=dotread_is k S r x hr (by omega) (by omega)
   obtain ⟨c,r2,x2,e3,e5,h2,_,_,_⟩:=int_is k S r1 x1 h1 (by omega) (by omega)
   have e4:iadd .i64 (i:Int) 1=((i+1:Nat):Int):=iadd_nat (by omega)
   rw [decide_eq_true hi,e1,e2,e4]
   simp only [br_true,bnd_some]
   rw [e3,e5]
   simp only [bnd_some,room1 (show l.length<4000000 by omega),br_true]
   exact seen_both k S hS hk N hN K P V A z1 z2 z3 z4 z5 n (i+1) _ r2 x2 (by omega) (by omega) (by simp [app,hl]) h2
  ·rw [decide_eq_false hi]
   exact ⟨l,r,x,rfl,by omega,hr,rfl⟩
end Go.Proofs.YtggcagclpkhlhaaGreatDoor
end
noncomputable section
/- An operation is read: the program and the document do the same. -/
namespace Go.Proofs.YtggcagclpkhlhaaGreatDoor
open Pal
theorem siz_of (k:Nat) (K:Int) (p:List Str) (v:Val) (A:Int) (l:List (Dot × Int)) (hp:p.length<k) (hs:∀ s ∈ p,List.length s<k) (hv:v.2.2.length<k) (hl:l.length<k):SizO k (K,(p,(v,(A,l)))):=⟨hs,hp,hv,hl⟩
set_option maxHeartbeats 4000000 in
theorem opr_is (k : Nat) (S : List UInt8) (r : Rdr) (x : RefRdr) (h : RR S r x) (hS : S.length < 5000) (hk : 5000 < k) (hk2 : k < 1000000) :
    ∃ (o : Op) (r' : Rdr) (x' : RefRdr), z2L.f k r = some (o, r') ∧ z1x.f k x = some (o, x') ∧ RR S r' x' ∧ SizO k o := by
  obtain ⟨K, r1, x1, e1, e2, h1, n0, n1, nb⟩ := int_is k S r x h (by omega) (by omega)
  rw [z2L.f_eq, z1x.f_eq, e1, e2]
  simp only [bnd_some]
  by_cases h0 : K = 0
  · subst h0
    exact ⟨(0, ([], ((0, (0, [])), (0, [])))), r1, x1, rfl, rfl, h1, siz_of k 0 [] (0, (0, [])) 0 [] (by show 0 < k; omega) (fun s hs => by simp at hs) (by show 0 < k; omega) (by show 0 < k; omega)⟩
  rw [show ieq K 0 = false from by rw [ieq_dec]; exact decide_eq_false h0]
  simp only [br_false]
  obtain ⟨p, r2, x2, e3, e4, h2, hp, hps⟩ := pathr_is k S r1 x1 h1 hS hk hk2
  rw [e3, e4]
  simp only [bnd_some]
  have hpk : p.length < k := by omega
  have hz : (0 : Nat) < k := by omega
  have fin := fun (K : Int) (v : Val) (A : Int) (l : List (Dot × Int)) (hv : v.2.2.length < k) (hl : l.length < k) (r3 : Rdr) (x3 : RefRdr) (h3 : RR S r3 x3) => op_fin k S (by omega) hk2 (K, (p, (v, (A, l)))) (siz_of k K p v A l hpk hps hv hl) r3 x3 h3
  have seen : ∀ (K : Int) (v : Val) (A : Int) (hv : v.2.2.length < k) (r3 : Rdr) (x3 : RefRdr) (h3 : RR S r3 x3), ∃ (o : Op) (r' : Rdr) (x' : RefRdr),
      (bnd (z2M.f k r3) fun r10 => bnd (z0i.f k r10.2) fun q => br (ieq q.1 0) (bnd (z2y.f k (K, (p, (v, (A, r10.1))))) fun q3 => bnd (z0o.f k q3 q.2) fun q4 => bnd (z0i.f k q4.2) fun q5 => br (bnot (ieq q5.1 0)) (some ((0, ([], ((0, (0, [])), (0, [])))), q5.2)) (some ((K, (p, (v, (A, r10.1)))), q5.2))) (bnd (z0i.f k q.2) fun q7 => br (bnot (ieq q7.1 0)) (some ((0, ([], ((0, (0, [])), (0, [])))), q7.2)) (some ((K, (p, (v, (A, r10.1)))), q7.2)))) = some (o, r') ∧
      (bnd (z0j.f k 256 x3) fun r5 => z1x.l13 k k r5.1 0 0 [] (0, (0, [])) 0 [] K p v A [] r5.2) = some (o, x') ∧ RR S r' x' ∧ SizO k o := by
    intro K v A hv r3 x3 h3
    obtain ⟨n, r4, x4, e5, e6, h4, m0, m1, mm⟩ := many_is k S 256 r3 x3 h3 (by omega) (by omega)
    obtain ⟨N, rfl⟩ : ∃ N : Nat, n = (N : Int) := ⟨n.toNat, by omega⟩
    obtain ⟨l, r5, x5, g1, g2, g3, g4⟩ := seen_both k S hS hk N (by omega) K p v A 0 [] (0, (0, [])) 0 [] k 0 [] r4 x4 (by omega) (by omega) rfl h4
    rw [show ((0 : Nat) : Int) = 0 from rfl] at g1 g4
    obtain ⟨o, r6, x6, f1, f2, f3, f4⟩ := fin K v A l hv (by omega) r5 x5 g3
    rw [z2M.f_eq, e5, e6]
    simp only [bnd_some]
    rw [g1, g4]
    simp only [bnd_some]
    exact ⟨o, r6, x6, f1, f2, f3, f4⟩
  by_cases c3 : K = 3
  · subst c3
    obtain ⟨m, r3, x3, e5, e6, h3, m0, m1, mb⟩ := int_is k S r2 x2 h2 (by omega) (by omega)
    obtain ⟨M, rfl⟩ : ∃ M : Nat, m = (M : Int) := ⟨m.toNat, by omega⟩
    obtain ⟨u1, u2⟩ := unfold_is k M (by omega)
    simp only [show ieq (3 : Int) 1 = false from rfl, show ieq (3 : Int) 2 = false from rfl, show ieq (3 : Int) 3 = true from rfl, show ieq (3 : Int) 4 = false from rfl, show ieq (3 : Int) 5 = false from rfl, br_true, br_false]
    rw [e5, e6]
    simp only [bnd_some]
    rw [u1, u2]
    simp only [bnd_some]
    exact fin 3 (0, (0, [])) (unf M) [] hz hz r3 x3 h3
  by_cases c1 : K = 1
  · subst c1
    obtain ⟨v, r3, x3, e5, e6, h3, hv⟩ := valr_is k S r2 x2 h2 hS hk hk2
    simp only [show ieq (1 : Int) 1 = true from rfl, show ieq (1 : Int) 2 = false from rfl, show ieq (1 : Int) 3 = false from rfl, show ieq (1 : Int) 4 = false from rfl, show ieq (1 : Int) 5 = false from rfl, br_true, br_false]
    rw [e5, e6]
    simp only [bnd_some]
    exact seen 1 v 0 hv r3 x3 h3
  by_cases c2 : K = 2
  · subst c2
    obtain ⟨v, r3, x3, e5, e6, h3, hv⟩ := valr_is k S r2 x2 h2 hS hk hk2
    simp only [show ieq (2 : Int) 1 = false from rfl, show ieq (2 : Int) 2 = true from rfl, show ieq (2 : Int) 3 = false from rfl, show ieq (2 : Int) 4 = false from rfl, show ieq (2 : Int) 5 = false from rfl, br_true, br_false]
    rw [e5, e6]
    simp only [bnd_some]
    exact fin 2 v 0 [] hv hz r3 x3 h3
  by_cases c4 : K = 4
  · subst c4
    obtain ⟨v, r3, x3, e5, e6, h3, hv⟩ := valr_is k S r2 x2 h2 hS hk hk2
    simp only [show ieq (4 : Int) 1 = false from rfl, show ieq (4 : Int) 2 = false from rfl, show ieq (4 : Int) 3 = false from rfl, show ieq (4 : Int) 4 = true from rfl, show ieq (4 : Int) 5 = false from rfl, br_true, br_false]
    rw [e5, e6]
    simp only [bnd_some]
    exact seen 4 v 0 hv r3 x3 h3
  by_cases c5 : K = 5
  · subst c5
    simp only [show ieq (5 : Int) 1 = false from rfl, show ieq (5 : Int) 2 = false from rfl, show ieq (5 : Int) 3 = false from rfl, show ieq (5 : Int) 4 = false from rfl, show ieq (5 : Int) 5 = true from rfl, br_true, br_false]
    exact seen 5 (0, (0, [])) 0 hz r2 x2 h2
  · have f : ∀ c : Int, K ≠ c → ieq K c = false := fun c hc => by rw [ieq_dec]; exact decide_eq_false hc
    simp only [f 1 c1, f 2 c2, f 3 c3, f 4 c4, f 5 c5, br_false]
    exact fin K (0, (0, [])) 0 [] hz hz r2 x2 h2
end Go.Proofs.YtggcagclpkhlhaaGreatDoor
end
noncomputable section
/- Counts: rows of dots with numbers, in order; joined, put, looked up. Plain facts. -/
namespace Go.Proofs.YtggcagclpkhlhaaGreatDoor
open Pal
abbrev Undo:=Dot × Int
def rightU (u:Undo):Bool:=rightD u.1 && decide (1≤u.2∧u.2≤64)
theorem rightU_iff (u:Undo):rightU u=true ↔ rightD u.1=true∧1≤u.2∧u.2≤64:=by simp [rightU]
structure CanU (l:List Undo):Prop where
 rt:∀ u ∈ l,rightU u=true
 srt:l.Pairwise (fun a b=>dotLt a.1 b.1=true)
theorem CanU.nil:CanU []:=⟨fun u hu=>by simp at hu,List.Pairwise.nil⟩
theorem CanU.cons {u:Undo} {l:List Undo} (h:CanU l) (h1:rightU u=true) (h2:∀ v ∈ l,dotLt u.1 v.1=true):CanU (u::l) :=
 ⟨fun v hv=>by rcases List.mem_cons.1 hv with rfl | hv;exact h1;exact h.rt v hv,List.pairwise_cons.2 ⟨h2,h.srt⟩⟩
theorem dotLt_trans {a b c:Dot} (h1:dotLt a b=true) (h2:dotLt b c=true):dotLt a c=true:=dotLt_swo.trans _ _ _ h1 h2
end Go.Proofs.YtggcagclpkhlhaaGreatDoor
end
noncomputable section
/- Transactions in order, and states: plain facts. -/
namespace Go.Proofs.YtggcagclpkhlhaaGreatDoor
open Pal
abbrev Sta:=List Txn × (List (Dot × Int) × (DSet × (DSet × List (List Dot))))
abbrev Dlt:=List Txn × (List (Dot × Int) × List Dot)
structure CanT (l:List Txn):Prop where
 rt:∀ t ∈ l,rightD t.1=true
 srt:l.Pairwise (fun a b=>dotLt a.1 b.1=true)
theorem CanT.nil:CanT []:=⟨fun u hu=>by simp at hu,List.Pairwise.nil⟩
theorem CanT.cons {u:Txn} {l:List Txn} (h:CanT l) (h1:rightD u.1=true) (h2:∀ v ∈ l,dotLt u.1 v.1=true):CanT (u::l) :=
 ⟨fun v hv=>by rcases List.mem_cons.1 hv with rfl | hv;exact h1;exact h.rt v hv,List.pairwise_cons.2 ⟨h2,h.srt⟩⟩
structure LenS (n:Nat) (s:Sta):Prop where
 tx:s.1.length≤n
 un:s.2.1.length≤n
 kn:s.2.2.1.2.length≤n
 se:s.2.2.2.1.2.length≤n
 re:∀ l ∈ s.2.2.2.2,l.length≤n
theorem LenS.mono {n m:Nat} {s:Sta} (h:LenS n s) (hnm:n≤m):LenS m s :=
 ⟨Nat.le_trans h.tx hnm,Nat.le_trans h.un hnm,Nat.le_trans h.kn hnm,Nat.le_trans h.se hnm,fun l hl=>Nat.le_trans (h.re l hl) hnm⟩
structure LenD (n:Nat) (d:Dlt):Prop where
 tx:d.1.length≤n
 un:d.2.1.length≤n
 se:d.2.2.length≤n
end Go.Proofs.YtggcagclpkhlhaaGreatDoor
end
noncomputable section
/- What the program's tally, and the document's, come to. -/
namespace Go.Proofs.YtggcagclpkhlhaaGreatDoor
open Pal
theorem rone_is (k:Nat) (u:Undo):z2w.f k u=some (rightU u):=by
 rw [z2w.f_eq,rright_is]
 simp only [bnd_some]
 unfold rightU
 cases rightD u.1 with
 | false=>rfl
 | true =>
  simp only [br_true,ile_dec,br_dec,Bool.true_and]
  by_cases h:1≤u.2
  ·rw [if_pos h];simp [h]
  ·rw [if_neg h];simp [h]
theorem deqU (a b:Undo):deq tUndo a b=decide (a=b):=deq_dec (τ:=tUndo) rfl a b
theorem canU_iff {l:List Undo}:CanU l ↔ ∀ j (h:j<l.length),rightU l[j]=true∧∀ h0:0<j,dotLt (l[j - 1]'(by omega)).1 l[j].1=true:=by
 constructor
 ·intro h j hj
  exact ⟨h.rt _ (List.getElem_mem hj),fun h0=>List.pairwise_iff_getElem.1 h.srt (j - 1) j (by omega) hj (by omega)⟩
 ·intro h
  refine ⟨fun u hu=>?_,List.pairwise_iff_getElem.2 fun i j hi hj hij=>?_⟩
  ·obtain ⟨j,hj,rfl⟩:=List.mem_iff_getElem.1 hu
   exact (h j hj).1
  ·have key:∀ d j (hj:j<l.length) (hd:d+1≤j),dotLt (l[j - (d+1)]'(by omega)).1 l[j].1=true:=by
    intro d
    induction d with
    | zero=>intro j hj hd;exact (h j hj).2 (by omega)
    | succ d ih =>
     intro j hj hd
     have h1:=ih j hj (by omega)
     have h2:=(h (j - (d+1)) (by omega)).2 (by omega)
     have e:j - (d+1) - 1=j - (d+1+1):=by omega
     simp only [e] at h2
     exact dotLt_trans h2 h1
   have:=key (j - i - 1) j hj (by omega)
   have e:j - (j - i - 1+1)=i:=by omega
   simpa only [e] using this
def okU (l:List Undo) (j:Nat):Prop:=∀ h:j<l.length,rightU l[j]=true∧∀ h0:0<j,dotLt (l[j - 1]'(by omega)).1 l[j].1=true
theorem rrightU_is (k:Nat) (l:List Undo) (hl:l.length<k) (hk:k<1000000):∃ b,z1c.f k l=some b∧(b=true ↔ CanU l):=by
 obtain ⟨b,hb,hbi⟩:=loop_all' l.length (fun n i=>z1c.l2 k n l (i:Int)) (okU l) (fun n i hi=>by
  simp only [z1c.l2_eq,ilt_nat,inL_nat,natOf_nat,hi,decide_true,br_true,rd_at' (e:=tUndo) hi,rone_is,bnd_some]
  cases hu:rightU l[i] with
  | false=>exact .inr ⟨fun h=>(by have:=(h hi).1;rw [hu] at this;cases this),rfl⟩
  | true =>
   have e1:bnot true=false:=rfl
   have e2:ilt 0 (i:Int)=decide (0<i):=ilt_nn 0 i
   rw [e1,e2,iadd_nat (by omega)]
   simp only [br_false]
   by_cases h0:0<i
   ·have hi1:i - 1<l.length:=by omega
    have e3:isub .i64 (i:Int) 1=((i - 1:Nat):Int):=by rw [isub_s (by omega) (by omega) (by omega) (by omega)];omega
    rw [e3,inL_nat,natOf_nat,rd_at' (e:=tUndo) hi1,rcmp_is]
    simp only [h0,hi1,decide_true,br_true,bnd_some,cmp_m1]
    cases hd:dotLt l[i - 1].1 l[i].1 with
    | true=>exact .inl ⟨fun _=>⟨hu,fun _=>hd⟩,rfl⟩
    | false=>exact .inr ⟨fun h=>(by have:=(h hi).2 h0;rw [hd] at this;cases this),rfl⟩
   ·simp only [h0,decide_false,br_false]
    exact .inl ⟨fun _=>⟨hu,fun h=>absurd h h0⟩,trivial⟩) (fun n=>by
  simp only [z1c.l2_eq,ilt_nat,Nat.lt_irrefl,decide_false,br_false]) k 0 (by omega) (by omega)
 rw [z1c.f_eq]
 refine ⟨b,hb,hbi.trans ?_⟩
 rw [canU_iff]
 exact ⟨fun h j hj=>h j (by omega) hj hj,fun h j _ _ hj=>h j hj⟩
theorem tcmp_is (k:Nat) (u v:Undo) (h3:3≤k):z0J.f k u v=some (cmpD u.1 v.1):=by
 obtain ⟨q,rfl⟩:∃ q,k=q+3:=⟨k - 3,by omega⟩
 rw [z0J.f_eq,cmpD_is];rfl
theorem rsameU_is (k:Nat) (a b:List Undo) (hl:a.length<k) (hk:k<1000000):z1U.f k a b=some (decide (a=b)):=by
 rw [z1U.f_eq,ieq_len,bnot_dec]
 by_cases h:a.length=b.length
 ·simp only [h,not_true,decide_false,br_false]
  exact loop_same a b h (fun n i=>z1U.l4 k n a b (i:Int)) (fun n i hi hi'=>by
   simp only [z1U.l4_eq,ilt_nat,inL_nat,natOf_nat,hi,hi',decide_true,br_true,rd_at' (e:=tUndo) hi,rd_at' (e:=tUndo) hi',deqU,bnot_dec,br_dec,iadd_nat (show i<4611686018427387904 by omega)]
   by_cases e:a[i]=b[i] <;> simp [e]) (fun n=>by simp only [z1U.l4_eq,ilt_nat,Nat.lt_irrefl,decide_false,br_false]) k (by omega)
 ·have:a ≠ b:=fun e=>h (by rw [e])
  simp only [h,this,not_false_eq_true,decide_true,decide_false,br_true]
end Go.Proofs.YtggcagclpkhlhaaGreatDoor
end
noncomputable section
/- States: what the program's functions, and the document's, come to. -/
namespace Go.Proofs.YtggcagclpkhlhaaGreatDoor
open Pal
theorem deqVal (a b:Val):deq tValue a b=decide (a=b):=deq_dec (τ:=tValue) rfl a b
theorem rsameStr_is (k:Nat) (a b:List Str) (hl:a.length<k) (hk:k<1000000):z1s.f k a b=some (decide (a=b)):=by
 rw [z1s.f_eq,ieq_len,bnot_dec]
 by_cases h:a.length=b.length
 ·simp only [h,not_true,decide_false,br_false]
  exact loop_same a b h (fun n i=>z1s.l4 k n a b (i:Int)) (fun n i hi hi'=>by
   simp only [z1s.l4_eq,ilt_nat,inL_nat,natOf_nat,hi,hi',decide_true,br_true,rd_at' (e:=.str) hi,rd_at' (e:=.str) hi',seq_dec,bnot_dec,br_dec,iadd_nat (show i<4611686018427387904 by omega)]
   by_cases e:a[i]=b[i] <;> simp [e]) (fun n=>by simp only [z1s.l4_eq,ilt_nat,Nat.lt_irrefl,decide_false,br_false]) k (by omega)
 ·have:a ≠ b:=fun e=>h (by rw [e])
  simp only [h,this,not_false_eq_true,decide_true,decide_false,br_true]
theorem op_eq (a b:Op):a=b ↔ a.1=b.1∧a.2.2.1=b.2.2.1∧a.2.2.2.1=b.2.2.2.1∧a.2.1=b.2.1∧a.2.2.2.2=b.2.2.2.2:=by
 obtain ⟨a1,a2,a3,a4,a5⟩:=a;obtain ⟨b1,b2,b3,b4,b5⟩:=b
 simp only [Prod.mk.injEq]
 exact ⟨fun ⟨h1,h2,h3,h4,h5⟩=>⟨h1,h3,h4,h2,h5⟩,fun ⟨h1,h3,h4,h2,h5⟩=>⟨h1,h2,h3,h4,h5⟩⟩
structure LenO (n:Nat) (o:Op):Prop where
 path:o.2.1.length<n
 seen:o.2.2.2.2.length<n
theorem rsameOp_is (k:Nat) (a b:Op) (hl:LenO k a) (hk:k<1000000):z1z.f k a b=some (decide (a=b)):=by
 have:=hl.seen
 rw [z1z.f_eq,rsameStr_is k a.2.1 b.2.1 hl.path hk]
 simp only [ieq_dec,deqVal,bnot_dec,bnd_some,br_dec,ilen,Int.natCast_inj]
 rw [show decide (a=b)=decide (a.1=b.1∧a.2.2.1=b.2.2.1∧a.2.2.2.1=b.2.2.2.1∧a.2.1=b.2.1∧a.2.2.2.2=b.2.2.2.2) from decide_eq_decide.2 (op_eq a b)]
 by_cases h1:a.1=b.1
 ·by_cases h2:a.2.2.1=b.2.2.1
  ·by_cases h3:a.2.2.2.1=b.2.2.2.1
   ·by_cases h4:a.2.1=b.2.1
    ·by_cases h5:a.2.2.2.2.length=b.2.2.2.2.length
     ·simp only [h1,h2,h3,h4,h5,not_true,if_false,true_and]
      exact loop_same a.2.2.2.2 b.2.2.2.2 h5 (fun n i=>z1z.l4 k n (i:Int) a b) (fun n i hi hi'=>by
       simp only [z1z.l4_eq,ilt_nat,inL_nat,natOf_nat,hi,hi',decide_true,br_true,rd_at' (e:=tUndo) hi,rd_at' (e:=tUndo) hi',deqU,bnot_dec,br_dec,iadd_nat (show i<4611686018427387904 by omega)]
       by_cases e:a.2.2.2.2[i]=b.2.2.2.2[i] <;> simp [e]) (fun n=>by simp only [z1z.l4_eq,ilt_nat,Nat.lt_irrefl,decide_false,br_false]) k (by omega)
     ·have:a.2.2.2.2 ≠ b.2.2.2.2:=fun e=>h5 (by rw [e])
      simp [h1,h2,h3,h4,h5,this]
    ·simp [h1,h2,h3,h4]
   ·simp [h1,h2,h3]
  ·simp [h1,h2]
 ·simp [h1]
theorem deqDot (a b:Dot):deq tDot a b=decide (a=b):=deqD a b
theorem deqBool (a b:Bool):deq .bool a b=decide (a=b):=by cases a <;> cases b <;> rfl
theorem txn_eq (a b:Txn):a=b ↔ a.1=b.1∧a.2.1=b.2.1∧a.2.2.1=b.2.2.1∧a.2.2.2.1=b.2.2.2.1∧a.2.2.2.2=b.2.2.2.2:=by
 obtain ⟨a1,a2,a3,a4,a5⟩:=a;obtain ⟨b1,b2,b3,b4,b5⟩:=b
 simp only [Prod.mk.injEq]
structure LenT (n:Nat) (t:Txn):Prop where
 ops:t.2.2.2.2.length<n
 each:∀ o ∈ t.2.2.2.2,LenO n o
theorem rsameTxn_is (k:Nat) (a b:Txn) (hl:LenT k a) (hk:k<1000000):z1S.f k a b=some (decide (a=b)):=by
 have:=hl.ops
 rw [z1S.f_eq]
 simp only [ieq_dec,deqDot,deqBool,bnot_dec,bnd_some,br_dec,ilen,Int.natCast_inj]
 rw [show decide (a=b)=decide (a.1=b.1∧a.2.1=b.2.1∧a.2.2.1=b.2.2.1∧a.2.2.2.1=b.2.2.2.1∧a.2.2.2.2=b.2.2.2.2) from decide_eq_decide.2 (txn_eq a b)]
 by_cases h1:a.1=b.1
 ·by_cases h2:a.2.1=b.2.1
  ·by_cases h3:a.2.2.1=b.2.2.1
   ·by_cases h4:a.2.2.2.1=b.2.2.2.1
    ·by_cases h5:a.2.2.2.2.length=b.2.2.2.2.length
     ·simp only [h1,h2,h3,h4,h5,not_true,if_false,true_and]
      exact loop_same a.2.2.2.2 b.2.2.2.2 h5 (fun n i=>z1S.l4 k n (i:Int) a b) (fun n i hi hi'=>by
       simp only [z1S.l4_eq,ilt_nat,inL_nat,natOf_nat,hi,hi',decide_true,br_true,rd_at' (e:=tOp) hi,rd_at' (e:=tOp) hi',rsameOp_is k _ _ (hl.each _ (List.getElem_mem hi)) hk,bnd_some,bnot_dec,br_dec,iadd_nat (show i<4611686018427387904 by omega)]
       by_cases e:a.2.2.2.2[i]=b.2.2.2.2[i] <;> simp [e]) (fun n=>by simp only [z1S.l4_eq,ilt_nat,Nat.lt_irrefl,decide_false,br_false]) k (by omega)
     ·have:a.2.2.2.2 ≠ b.2.2.2.2:=fun e=>h5 (by rw [e])
      simp [h1,h2,h3,h4,h5,this]
    ·simp [h1,h2,h3,h4]
   ·simp [h1,h2,h3]
  ·simp [h1,h2]
 ·simp [h1]
theorem rallTxn_is (k:Nat) (a b:List Txn) (hl:a.length<k) (he:∀ t ∈ a,LenT k t) (hk:k<1000000):z2j.f k a b=some (decide (a=b)):=by
 rw [z2j.f_eq,ieq_len,bnot_dec]
 by_cases h:a.length=b.length
 ·simp only [h,not_true,decide_false,br_false]
  exact loop_same a b h (fun n i=>z2j.l4 k n a b (i:Int)) (fun n i hi hi'=>by
   simp only [z2j.l4_eq,ilt_nat,inL_nat,natOf_nat,hi,hi',decide_true,br_true,rd_at' (e:=tTxn) hi,rd_at' (e:=tTxn) hi',rsameTxn_is k _ _ (he _ (List.getElem_mem hi)) hk,bnd_some,bnot_dec,br_dec,iadd_nat (show i<4611686018427387904 by omega)]
   by_cases e:a[i]=b[i] <;> simp [e]) (fun n=>by simp only [z2j.l4_eq,ilt_nat,Nat.lt_irrefl,decide_false,br_false]) k (by omega)
 ·have:a ≠ b:=fun e=>h (by rw [e])
  simp only [h,this,not_false_eq_true,decide_true,decide_false,br_true]
theorem sta_ext (s u:Sta) (hs:s.2.2.2.2.length=8) (hu:u.2.2.2.2.length=8):s=u ↔ (∀ i,0≤i→i<8→s.2.2.2.2[i]? = u.2.2.2.2[i]?)∧s.1=u.1∧s.2.1=u.2.1∧s.2.2.1=u.2.2.1∧s.2.2.2.1=u.2.2.2.1:=by
 obtain ⟨a1,a2,a3,a4,a5⟩:=s;obtain ⟨b1,b2,b3,b4,b5⟩:=u
 simp only at hs hu ⊢
 constructor
 ·intro h;injection h with h1 h;injection h with h2 h;injection h with h3 h;injection h with h4 h5
  exact ⟨fun i _ _=>by rw [h5],h1,h2,h3,h4⟩
 ·rintro ⟨h5,h1,h2,h3,h4⟩
  have:a5=b5:=List.ext_getElem? fun i=>by
   by_cases hi:i<8
   ·exact h5 i (by omega) hi
   ·rw [List.getElem?_eq_none (by omega),List.getElem?_eq_none (by omega)]
  rw [h1,h2,h3,h4,this]
theorem rsameS_is (k:Nat) (s u:Sta) {n:Nat} (ls:LenS n s) (he:∀ t ∈ s.1,LenT k t) (hs:s.2.2.2.2.length=8) (hu:u.2.2.2.2.length=8) (hn:n<k) (h17:17<k) (hk:k<1000000):∃ b,z1H.f k s u=some b∧(b=true ↔ s=u):=by
 have:=ls.tx;have:=ls.un;have:=ls.kn;have:=ls.se
 rw [z1H.f_eq]
 obtain ⟨b,hb,hbi⟩:=loop_all 8 (fun n i=>z1H.l2 k n (i:Int) s u) (fun i=>s.2.2.2.2[i]? = u.2.2.2.2[i]?) (fun n' i hi=>by
  have e1:ilt (i:Int) 8=decide (i<8):=ilt_nn i 8
  have e2:inB (i:Int) 8=decide (i<8):=inB_nat i 8
  have hi1:i<s.2.2.2.2.length:=by omega
  have hi2:i<u.2.2.2.2.length:=by omega
  have hlen:=ls.re _ (List.getElem_mem hi1)
  have e3:iadd .i64 (i:Int) 1=((i+1:Nat):Int):=iadd_nat (by omega)
  simp only [z1H.l2_eq,e1,e2,hi,decide_true,br_true,natOf_nat,rd_at' (e:=.slc tDot) hi1,rd_at' (e:=.slc tDot) hi2,reqD k _ _ (show (s.2.2.2.2[i]).length<k by omega) hk,bnd_some,bnot_dec,br_dec,e3]
  by_cases h:s.2.2.2.2[i]=u.2.2.2.2[i]
  ·exact .inl ⟨by rw [List.getElem?_eq_getElem hi1,List.getElem?_eq_getElem hi2,h],if_neg (by simpa using h)⟩
  ·exact .inr ⟨fun hh=>by rw [List.getElem?_eq_getElem hi1,List.getElem?_eq_getElem hi2] at hh;exact h (Option.some.inj hh),if_pos h⟩)
  (some (decide (s.1=u.1∧s.2.1=u.2.1∧s.2.2.1=u.2.2.1∧s.2.2.2.1=u.2.2.2.1))) (s.1=u.1∧s.2.1=u.2.1∧s.2.2.1=u.2.2.1∧s.2.2.2.1=u.2.2.2.1) ⟨_,rfl,by simp⟩ (fun n'=>by
  have e1:ilt ((8:Nat):Int) 8=false:=rfl
  simp only [z1H.l2_eq,e1,br_false,rallTxn_is k s.1 u.1 (by omega) he hk,rsameU_is k s.2.1 u.2.1 (by omega) hk,rsame_is k s.2.2.1 u.2.2.1 (by omega) hk,rsame_is k s.2.2.2.1 u.2.2.2.1 (by omega) hk,bnd_some,br_dec]
  by_cases h1:s.1=u.1 <;> by_cases h2:s.2.1=u.2.1 <;> by_cases h3:s.2.2.1=u.2.2.1 <;> simp [h1,h2,h3]) k 0 (by omega) (by omega)
 exact ⟨b,hb,hbi.trans (sta_ext s u hs hu).symm⟩
end Go.Proofs.YtggcagclpkhlhaaGreatDoor
end
noncomputable section
/- Which states and deltas the document calls good: what is known of them. -/
namespace Go.Proofs.YtggcagclpkhlhaaGreatDoor
open Pal
def risAt (l:List Txn) (j:Nat):Prop:=∀ h:j+1<l.length,dotLt (l[j]'(by omega)).1 l[j+1].1=true
theorem ris_iff {l:List Txn}:l.Pairwise (fun a b=>dotLt a.1 b.1=true) ↔ ∀ j,0≤j→j<l.length - 1→risAt l j:=by
 constructor
 ·intro h j h1 h2 hj
  exact List.pairwise_iff_getElem.1 h j (j+1) (by omega) hj (by omega)
 ·intro h
  refine List.pairwise_iff_getElem.2 fun i j hi hj hij=>?_
  have key:∀ d i (hd:i+d+1<l.length),dotLt (l[i]'(by omega)).1 l[i+d+1].1=true:=by
   intro d
   induction d with
   | zero=>intro i hd;exact h i (by omega) (by omega) hd
   | succ d ih =>
    intro i hd
    exact dotLt_trans (ih i (by omega)) (h (i+d+1) (by omega) (by omega) (by omega))
  have:=key (j - i - 1) i (by omega)
  have e:i+(j - i - 1)+1=j:=by omega
  simpa only [e] using this
theorem rrises_is (k:Nat) (l:List Txn) (hl:l.length<k) (hk:k<1000000):∃ b,z1o.f k l=some b∧(b=true ↔ l.Pairwise (fun a b=>dotLt a.1 b.1=true)):=by
 rw [z1o.f_eq]
 obtain ⟨b,hb,hbi⟩:=loop_all' (l.length - 1) (fun n i=>z1o.l2 k n l ((i+1:Nat):Int)) (risAt l) (fun n i hi=>by
  have hi0:i<l.length:=by omega
  have hi1:i+1<l.length:=by omega
  have e3:isub .i64 ((i+1:Nat):Int) 1=(i:Int):=by rw [isub_s (by omega) (by omega) (by omega) (by omega)];omega
  have e4:iadd .i64 ((i+1:Nat):Int) 1=((i+1+1:Nat):Int):=iadd_nat (by omega)
  simp only [z1o.l2_eq,ilt_nat,e3,inL_nat,natOf_nat,hi0,hi1,decide_true,br_true,rd_at' (e:=tTxn) hi0,rd_at' (e:=tTxn) hi1,rcmp_is,bnd_some,cmp_m1,e4]
  cases hd:dotLt l[i].1 l[i+1].1 with
  | true=>exact .inl ⟨fun _=>hd,rfl⟩
  | false=>exact .inr ⟨fun h=>(by have:=h hi1;rw [hd] at this;cases this),rfl⟩) (fun n=>by
  simp only [z1o.l2_eq,ilt_nat,show ¬ l.length - 1+1<l.length by omega,decide_false,br_false]) k 0 (by omega) (by omega)
 exact ⟨b,hb,hbi.trans ris_iff.symm⟩
def emptyD:DSet:=(zarr 16 0,[])
theorem empty_can:Can emptyD:=(ofD_can []).1
theorem empty_mem (x:Dot):¬ Mem emptyD x:=fun h=>by
 have:=((ofD_can []).2.1 x).1 h
 simp at this
def dotsOf (l:List Txn):List Dot:=l.map (·.1)
theorem known_isG (k:Nat) (l:List Txn) (hl:l.length+1<k) (hk:k<1000000):z10.f k l=some ((dotsOf l).foldl putD emptyD):=by
 rw [z10.f_eq]
 have key:∀ n i (s:DSet),i≤l.length→l.length<n+i→Can s→s.2.length≤i→z10.l3 k n l (i:Int) (zarr 16 0) [] s=some ((dotsOf (l.drop i)).foldl putD s):=by
  intro n
  induction n with
  | zero=>intro i s h h';omega
  | succ n ih =>
   intro i s h h' hs hsl
   rw [z10.l3_eq,ilt_nat,inL_nat,natOf_nat]
   by_cases hi:i<l.length
   ·have e3:iadd .i64 (i:Int) 1=((i+1:Nat):Int):=iadd_nat (by omega)
    rw [rd_at' (e:=tTxn) hi,rput_is k s l[i].1 (by omega) hk hs,e3,List.drop_eq_getElem_cons hi]
    simp only [hi,decide_true,br_true,bnd_some,dotsOf,List.map_cons,List.foldl_cons]
    obtain ⟨a,_,c⟩:=putD_can hs l[i].1
    exact ih (i+1) _ (by omega) (by omega) a (by omega)
   ·rw [List.drop_of_length_le (by omega)]
    simp only [hi,decide_false,br_false,dotsOf,List.map_nil,List.foldl_nil]
 exact key k 0 emptyD (by omega) (by omega) empty_can (by simp [emptyD])
theorem known_is (k:Nat) (l:List Txn) (hl:l.length+1<k) (hk:k<1000000) (hr:∀ t ∈ l,rightD t.1=true):z10.f k l=some ((dotsOf l).foldl putD emptyD):=known_isG k l hl hk
structure RightS (k:Nat) (s:Sta):Prop where
 many:s.1.length≤1000
 ris:s.1.Pairwise (fun a b=>dotLt a.1 b.1=true)
 un:CanU s.2.1
 se:Can s.2.2.2.1∧s.2.2.2.1.2.length≤4096
 chk:∀ t ∈ s.1,z1g.f k t=some 0
 redo:∀ l ∈ s.2.2.2.2,l.length≤1000∧∀ d ∈ l,rightD d=true
 kn:Can s.2.2.1∧s.2.2.1.2.length≤4096
 know:s.2.2.1=(dotsOf s.1).foldl putD emptyD
def chkAt (k:Nat) (l:List Txn) (j:Nat):Prop:=∀ h:j<l.length,z1g.f k l[j]=some 0
def redoAt (r:List (List Dot)) (j:Nat):Prop:=∀ h:j<r.length,r[j].length≤1000∧∀ d ∈ r[j],rightD d=true
def rdAt (l:List Dot) (j:Nat):Prop:=∀ h:j<l.length,rightD l[j]=true
theorem rdAt_all {l:List Dot}:(∀ j,0≤j→j<l.length→rdAt l j) ↔ ∀ d ∈ l,rightD d=true:=by
 constructor
 ·intro h d hd
  obtain ⟨j,hj,rfl⟩:=List.mem_iff_getElem.1 hd
  exact h j (by omega) hj hj
 ·intro h j _ hj _;exact h _ (List.getElem_mem hj)
theorem rrightS_isG (k:Nat) (s:Sta) (hv1:s.2.2.1.1.length=16) (hv2:s.2.2.2.1.1.length=16) (hr8:s.2.2.2.2.length=8) (hsh:∀ t ∈ s.1,∃ e:Int,z1g.f k t=some e∧(e=0→rightD t.1=true)) (hrl:∀ l ∈ s.2.2.2.2,l.length<k) (hul:s.2.1.length<k) (hk:5000<k) (hk2:k<1000000) :
  ∃ b,z0X.f k s=some b∧(b=true ↔ RightS k s):=by
 rw [z0X.f_eq,show ilt 1000 (ilen s.1)=decide (1000<s.1.length) from ilt_lenR 1000 s.1]
 by_cases hm:1000<s.1.length
 ·rw [decide_eq_true hm];exact ⟨false,rfl,⟨fun h=>(by cases h),fun h=>by have:=h.many;omega⟩⟩
 rw [decide_eq_false hm]
 obtain ⟨b1,g1,i1⟩:=rrises_is k s.1 (by omega) hk2
 obtain ⟨b2,g2,i2⟩:=rrightU_is k s.2.1 hul hk2
 obtain ⟨b3,g3,i3⟩:=rr_is k s.2.2.2.1 hv2 hk hk2
 obtain ⟨b4,g4,i4⟩:=rr_is k s.2.2.1 hv1 hk hk2
 rw [g1]
 simp only [br_false,bnd_some]
 cases b1 with
 | false=>exact ⟨false,rfl,⟨fun h=>(by cases h),fun h=>i1.2 h.ris⟩⟩
 | true =>
 have bt:bnot true=false:=rfl
 have bf:bnot false=true:=rfl
 rw [bt,g2]
 simp only [br_false,bnd_some]
 cases b2 with
 | false=>exact ⟨false,rfl,⟨fun h=>(by cases h),fun h=>i2.2 h.un⟩⟩
 | true =>
 rw [bt,g3]
 simp only [br_false,bnd_some]
 cases b3 with
 | false=>exact ⟨false,rfl,⟨fun h=>(by cases h),fun h=>i3.2 h.se⟩⟩
 | true =>
 rw [bt]
 simp only [br_false]
 have tail:(∀ t ∈ s.1,rightD t.1=true)→∃ b,(bnd (z1f.f k s.2.2.1) fun r0=>br r0 (bnd (z10.f k s.1) fun r1=>bnd (z1t.f k s.2.2.1 r1) fun r2=>some r2) (some false))=some b∧(b=true ↔ (Can s.2.2.1∧s.2.2.1.2.length≤4096)∧s.2.2.1=(dotsOf s.1).foldl putD emptyD):=by
  intro hrt
  rw [g4]
  simp only [bnd_some]
  cases b4 with
  | false=>exact ⟨false,rfl,⟨fun h=>(by cases h),fun h=>i4.2 h.1⟩⟩
  | true =>
   have h4:=i4.1 rfl
   simp only [br_true]
   rw [known_is k s.1 (by omega) hk2 hrt]
   simp only [bnd_some]
   rw [rsame_is k _ _ (by omega) hk2]
   exact ⟨_,rfl,by rw [decide_eq_true_iff];exact ⟨fun h=>⟨h4,h⟩,fun h=>h.2⟩⟩
 have rows:(∀ t ∈ s.1,rightD t.1=true)→∃ b,z0X.l9 k k 0 s=some b∧(b=true ↔ (∀ j,0≤j→j<8→redoAt s.2.2.2.2 j)∧((Can s.2.2.1∧s.2.2.1.2.length≤4096)∧s.2.2.1=(dotsOf s.1).foldl putD emptyD)):=by
  intro hrt
  refine loop_all 8 (fun n i=>z0X.l9 k n (i:Int) s) (redoAt s.2.2.2.2) (fun n i hi=>?_) _ _ (tail hrt) (fun n=>?_) k 0 (by omega) (by omega)
  ·have e1:ilt (i:Int) 8=decide (i<8):=ilt_nn i 8
   have e2:inB (i:Int) 8=decide (i<8):=inB_nat i 8
   have hi1:i<s.2.2.2.2.length:=by omega
   have hll:=hrl _ (List.getElem_mem hi1)
   have e4:ilt 1000 (ilen s.2.2.2.2[i])=decide (1000<s.2.2.2.2[i].length):=ilt_lenR 1000 s.2.2.2.2[i]
   simp only [z0X.l9_eq,e1,e2,hi,decide_true,br_true,natOf_nat,rd_at' (e:=.slc tDot) hi1,e4]
   by_cases hl:1000<s.2.2.2.2[i].length
   ·rw [decide_eq_true hl]
    exact .inr ⟨fun h=>by have:=(h hi1).1;omega,rfl⟩
   ·rw [decide_eq_false hl]
    simp only [br_false]
    have inner:∀ q j,j≤s.2.2.2.2[i].length→s.2.2.2.2[i].length<q+j→((∀ p,j≤p→p<s.2.2.2.2[i].length→rdAt s.2.2.2.2[i] p)∧z0X.l14 k n q (i:Int) (j:Int) s=z0X.l9 k n ((i+1:Nat):Int) s)∨(¬ (∀ p,j≤p→p<s.2.2.2.2[i].length→rdAt s.2.2.2.2[i] p)∧z0X.l14 k n q (i:Int) (j:Int) s=some false):=by
     intro q
     induction q with
     | zero=>intro j h1 h2;omega
     | succ q ih =>
      intro j h1 h2
      have e3:iadd .i64 (j:Int) 1=((j+1:Nat):Int):=iadd_nat (by omega)
      have e5:iadd .i64 (i:Int) 1=((i+1:Nat):Int):=iadd_nat (by omega)
      by_cases hj:j<s.2.2.2.2[i].length
      ·simp only [z0X.l14_eq,e2,hi,decide_true,br_true,natOf_nat,rd_at' (e:=.slc tDot) hi1,ilt_nat,inL_nat,hj,rd_at' (e:=tDot) hj,rright_is,bnd_some,e3]
       cases hd:rightD s.2.2.2.2[i][j] with
       | false=>exact .inr ⟨fun h=>(by have:=h j (Nat.le_refl _) hj hj;rw [hd] at this;cases this),rfl⟩
       | true =>
        rcases ih (j+1) (by omega) (by omega) with ⟨h3,h4⟩ | ⟨h3,h4⟩
        ·refine .inl ⟨fun p hp1 hp2=>?_,h4⟩
         by_cases e:p=j
         ·subst e;exact fun _=>hd
         ·exact h3 p (by omega) hp2
        ·exact .inr ⟨fun h=>h3 fun p hp1 hp2=>h p (by omega) hp2,h4⟩
      ·refine .inl ⟨fun p hp1 hp2=>by omega,?_⟩
       simp only [z0X.l14_eq,e2,hi,decide_true,br_true,natOf_nat,rd_at' (e:=.slc tDot) hi1,ilt_nat,hj,decide_false,br_false,e5]
    rcases inner k 0 (by omega) (by omega) with ⟨h3,h4⟩ | ⟨h3,h4⟩
    ·exact .inl ⟨fun _=>⟨by omega,rdAt_all.1 h3⟩,h4⟩
    ·exact .inr ⟨fun h=>h3 (rdAt_all.2 (h hi1).2),h4⟩
  ·have e1:ilt ((8:Nat):Int) 8=false:=rfl
   simp only [z0X.l9_eq,e1,br_false]
 have hdot:(∀ j,0≤j→j<s.1.length→chkAt k s.1 j)→∀ t ∈ s.1,rightD t.1=true:=by
  intro h t ht
  obtain ⟨j,hj,rfl⟩:=List.mem_iff_getElem.1 ht
  obtain ⟨e,he,hei⟩:=hsh _ ht
  rw [h j (by omega) hj hj] at he
  injection he with he
  exact hei he.symm
 have txs:∃ b,z0X.l4 k k 0 s=some b∧(b=true ↔ (∀ j,0≤j→j<s.1.length→chkAt k s.1 j)∧((∀ j,0≤j→j<8→redoAt s.2.2.2.2 j)∧((Can s.2.2.1∧s.2.2.1.2.length≤4096)∧s.2.2.1=(dotsOf s.1).foldl putD emptyD))):=by
  by_cases hall:∀ j,0≤j→j<s.1.length→chkAt k s.1 j
  ·refine loop_all s.1.length (fun n i=>z0X.l4 k n (i:Int) s) (chkAt k s.1) (fun n i hi=>?_) _ _ (rows (hdot hall)) (fun n=>?_) k 0 (by omega) (by omega)
   ·have e3:iadd .i64 (i:Int) 1=((i+1:Nat):Int):=iadd_nat (by omega)
    have hc:=hall i (by omega) hi hi
    have ez:ieq (0:Int) 0=true:=rfl
    simp only [z0X.l4_eq,ilt_nat,inL_nat,natOf_nat,hi,decide_true,br_true,rd_at' (e:=tTxn) hi,hc,bnd_some,e3,ez,bt,br_false]
    exact .inl ⟨hall i (by omega) hi,trivial⟩
   ·simp only [z0X.l4_eq,ilt_nat,Nat.lt_irrefl,decide_false,br_false]
  ·-- it falls at the first that is wrong
   have fall:∀ n i,i≤s.1.length→s.1.length<n+i→(¬ ∀ j,i≤j→j<s.1.length→chkAt k s.1 j)→z0X.l4 k n (i:Int) s=some false:=by
    intro n
    induction n with
    | zero=>intro i h1 h2;omega
    | succ n ih =>
     intro i h1 h2 hne
     have hi:i<s.1.length:=Nat.lt_of_not_le fun hle=>hne fun j hj1 hj2=>by omega
     have e3:iadd .i64 (i:Int) 1=((i+1:Nat):Int):=iadd_nat (by omega)
     obtain ⟨e,he,_⟩:=hsh _ (List.getElem_mem hi)
     rw [z0X.l4_eq,ilt_nat,inL_nat,natOf_nat,rd_at' (e:=tTxn) hi,he,e3]
     simp only [hi,decide_true,br_true,bnd_some,ieq_dec,bnot_dec,br_dec]
     by_cases hz:e=0
     ·rw [if_neg (by simpa using hz)]
      refine ih (i+1) (by omega) (by omega) fun hh=>hne fun j hj1 hj2=>?_
      by_cases ej:j=i
      ·subst ej;exact fun _=>by rw [he,hz]
      ·exact hh j (by omega) hj2
     ·rw [if_pos hz]
   exact ⟨false,fall k 0 (by omega) (by omega) hall,⟨fun h=>(by cases h),fun h=>absurd h.1 hall⟩⟩
 obtain ⟨b,hb,hbi⟩:=txs
 refine ⟨b,hb,hbi.trans ⟨fun ⟨h1,h2,h3,h4⟩=>?_,fun h=>⟨fun j _ hj _=>h.chk _ (List.getElem_mem hj),fun j _ hj hj8=>h.redo _ (List.getElem_mem hj8),h.kn,h.know⟩⟩⟩
 refine ⟨by omega,i1.1 rfl,i2.1 rfl,i3.1 rfl,fun t ht=>?_,fun l hl=>?_,h3,h4⟩
 ·obtain ⟨j,hj,rfl⟩:=List.mem_iff_getElem.1 ht
  exact h1 j (by omega) hj hj
 ·obtain ⟨j,hj,rfl⟩:=List.mem_iff_getElem.1 hl
  exact h2 j (by omega) (by omega) hj
structure ShortS (s:Sta):Prop where
 tx:s.1.length≤20
 un:s.2.1.length≤100
 kn:s.2.2.1.2.length≤100
 se:s.2.2.2.1.2.length≤100
 each:∀ t ∈ s.1,ShortT t
 redo:∀ l ∈ s.2.2.2.2,l.length≤40
theorem ShortS.len {s:Sta} (h:ShortS s):LenS 100 s:=⟨Nat.le_trans h.tx (by decide),h.un,h.kn,h.se,fun l hl=>Nat.le_trans (h.redo l hl) (by decide)⟩
def shtAt (k:Nat) (l:List Txn) (j:Nat):Prop:=∀ h:j<l.length,z1l.f k l[j]=some true
def s40At (r:List (List Dot)) (j:Nat):Prop:=∀ h:j<r.length,r[j].length≤40
theorem shtAt_all {k:Nat} {l:List Txn} (hk:1000<k) (hk2:k<1000000) (h:∀ j,0≤j→j<l.length→shtAt k l j):∀ t ∈ l,ShortT t:=by
 intro t ht
 obtain ⟨j,hj,rfl⟩:=List.mem_iff_getElem.1 ht
 obtain ⟨b,hb,hbi⟩:=rtxnshort_is k l[j] hk hk2
 rw [h j (by omega) hj hj] at hb
 injection hb with hb;exact hbi hb.symm
theorem sht_step (k:Nat) (t:Txn) (hk:1000<k) (hk2:k<1000000):∃ b,z1l.f k t=some b:=by
 obtain ⟨b,hb,_⟩:=rtxnshort_is k t hk hk2
 exact ⟨b,hb⟩
theorem rshortS_is (k:Nat) (s:Sta) (hr8:s.2.2.2.2.length=8) (hk:1000<k) (hk2:k<1000000):∃ b,z19.f k s=some b∧(b=true→ShortS s):=by
 rw [z19.f_eq,show ilt 20 (ilen s.1)=decide (20<s.1.length) from ilt_lenR 20 _,show ilt 100 (ilen s.2.1)=decide (100<s.2.1.length) from ilt_lenR 100 _,show ilt 100 (ilen s.2.2.1.2)=decide (100<s.2.2.1.2.length) from ilt_lenR 100 _,show ilt 100 (ilen s.2.2.2.1.2)=decide (100<s.2.2.2.1.2.length) from ilt_lenR 100 _]
 simp only [br_dec]
 by_cases h1:20<s.1.length
 ·rw [if_pos h1];exact ⟨false,rfl,fun h=>by cases h⟩
 by_cases h2:100<s.2.1.length
 ·rw [if_neg h1,if_pos h2];exact ⟨false,rfl,fun h=>by cases h⟩
 by_cases h3:100<s.2.2.1.2.length
 ·rw [if_neg h1,if_neg h2,if_pos h3];exact ⟨false,rfl,fun h=>by cases h⟩
 by_cases h4:100<s.2.2.2.1.2.length
 ·rw [if_neg h1,if_neg h2,if_neg h3,if_pos h4];exact ⟨false,rfl,fun h=>by cases h⟩
 rw [if_neg h1,if_neg h2,if_neg h3,if_neg h4]
 have rows:∃ b,z19.l9 k k 0 s=some b∧(b=true ↔ ∀ j,0≤j→j<8→s40At s.2.2.2.2 j):=by
  refine loop_all' 8 (fun n i=>z19.l9 k n (i:Int) s) (s40At s.2.2.2.2) (fun n i hi=>?_) (fun n=>?_) k 0 (by omega) (by omega)
  ·have e1:ilt (i:Int) 8=decide (i<8):=ilt_nn i 8
   have e2:inB (i:Int) 8=decide (i<8):=inB_nat i 8
   have hi1:i<s.2.2.2.2.length:=by omega
   have e3:iadd .i64 (i:Int) 1=((i+1:Nat):Int):=iadd_nat (by omega)
   have e4:ilt 40 (ilen s.2.2.2.2[i])=decide (40<s.2.2.2.2[i].length):=ilt_lenR 40 s.2.2.2.2[i]
   simp only [z19.l9_eq,e1,e2,hi,decide_true,br_true,natOf_nat,rd_at' (e:=.slc tDot) hi1,e4,e3,br_dec]
   by_cases hl:40<s.2.2.2.2[i].length
   ·exact .inr ⟨fun h=>by have:=h hi1;omega,if_pos hl⟩
   ·exact .inl ⟨fun _=>by omega,if_neg hl⟩
  ·have e1:ilt ((8:Nat):Int) 8=false:=rfl
   simp only [z19.l9_eq,e1,br_false]
 obtain ⟨b,hb,hbi⟩:=loop_all s.1.length (fun n i=>z19.l4 k n (i:Int) s) (shtAt k s.1) (fun n i hi=>by
  have e3:iadd .i64 (i:Int) 1=((i+1:Nat):Int):=iadd_nat (by omega)
  obtain ⟨c,hc⟩:=sht_step k s.1[i] hk hk2
  simp only [z19.l4_eq,ilt_nat,inL_nat,natOf_nat,hi,decide_true,br_true,rd_at' (e:=tTxn) hi,hc,bnd_some,e3]
  cases c with
  | false=>exact .inr ⟨fun h=>(by have:=h hi;rw [hc] at this;cases this),rfl⟩
  | true=>exact .inl ⟨fun _=>hc,rfl⟩) _ _ rows (fun n=>by simp only [z19.l4_eq,ilt_nat,Nat.lt_irrefl,decide_false,br_false]) k 0 (by omega) (by omega)
 refine ⟨b,hb,fun h=>?_⟩
 obtain ⟨q1,q2⟩:=hbi.1 h
 refine ⟨by omega,by omega,by omega,by omega,shtAt_all hk hk2 q1,fun l hl=>?_⟩
 obtain ⟨j,hj,rfl⟩:=List.mem_iff_getElem.1 hl
 exact q2 j (by omega) (by omega) hj
structure ShortD (d:Dlt):Prop where
 tx:d.1.length≤20
 un:d.2.1.length≤100
 se:d.2.2.length≤100
 each:∀ t ∈ d.1,ShortT t
theorem ShortD.len {d:Dlt} (h:ShortD d):LenD 100 d:=⟨Nat.le_trans h.tx (by decide),h.un,h.se⟩
theorem rshortDl_is (k:Nat) (d:Dlt) (hk:1000<k) (hk2:k<1000000):∃ b,z0u.f k d=some b∧(b=true→ShortD d):=by
 rw [z0u.f_eq,show ilt 20 (ilen d.1)=decide (20<d.1.length) from ilt_lenR 20 _,show ilt 100 (ilen d.2.1)=decide (100<d.2.1.length) from ilt_lenR 100 _,show ilt 100 (ilen d.2.2)=decide (100<d.2.2.length) from ilt_lenR 100 _]
 simp only [br_dec]
 by_cases h1:20<d.1.length
 ·rw [if_pos h1];exact ⟨false,rfl,fun h=>by cases h⟩
 by_cases h2:100<d.2.1.length
 ·rw [if_neg h1,if_pos h2];exact ⟨false,rfl,fun h=>by cases h⟩
 by_cases h3:100<d.2.2.length
 ·rw [if_neg h1,if_neg h2,if_pos h3];exact ⟨false,rfl,fun h=>by cases h⟩
 rw [if_neg h1,if_neg h2,if_neg h3]
 obtain ⟨b,hb,hbi⟩:=loop_all' d.1.length (fun n i=>z0u.l4 k n (i:Int) d) (shtAt k d.1) (fun n i hi=>by
  have e3:iadd .i64 (i:Int) 1=((i+1:Nat):Int):=iadd_nat (by omega)
  obtain ⟨c,hc⟩:=sht_step k d.1[i] hk hk2
  simp only [z0u.l4_eq,ilt_nat,inL_nat,natOf_nat,hi,decide_true,br_true,rd_at' (e:=tTxn) hi,hc,bnd_some,e3]
  cases c with
  | false=>exact .inr ⟨fun h=>(by have:=h hi;rw [hc] at this;cases this),rfl⟩
  | true=>exact .inl ⟨fun _=>hc,rfl⟩) (fun n=>by simp only [z0u.l4_eq,ilt_nat,Nat.lt_irrefl,decide_false,br_false]) k 0 (by omega) (by omega)
 exact ⟨b,hb,fun h=>⟨by omega,by omega,by omega,shtAt_all hk hk2 (hbi.1 h)⟩⟩
structure RightDl (k:Nat) (d:Dlt):Prop where
 many:d.1.length≤1000
 ris:d.1.Pairwise (fun a b=>dotLt a.1 b.1=true)
 un:CanU d.2.1
 chk:∀ t ∈ d.1,z1g.f k t=some 0
 se:∀ x ∈ d.2.2,rightD x=true
theorem rrightDl_isG (k:Nat) (d:Dlt) (hsh:∀ t ∈ d.1,∃ e:Int,z1g.f k t=some e∧(e=0→rightD t.1=true)) (hul:d.2.1.length<k) (hsl:d.2.2.length<k) (hk:5000<k) (hk2:k<1000000):∃ b,z0r.f k d=some b∧(b=true ↔ RightDl k d):=by
 rw [z0r.f_eq,show ilt 1000 (ilen d.1)=decide (1000<d.1.length) from ilt_lenR 1000 d.1]
 by_cases hm:1000<d.1.length
 ·rw [decide_eq_true hm];exact ⟨false,rfl,⟨fun h=>(by cases h),fun h=>by have:=h.many;omega⟩⟩
 rw [decide_eq_false hm]
 obtain ⟨b1,g1,i1⟩:=rrises_is k d.1 (by omega) hk2
 obtain ⟨b2,g2,i2⟩:=rrightU_is k d.2.1 hul hk2
 rw [g1]
 simp only [br_false,bnd_some]
 cases b1 with
 | false=>exact ⟨false,rfl,⟨fun h=>(by cases h),fun h=>i1.2 h.ris⟩⟩
 | true =>
 have bt:bnot true=false:=rfl
 rw [bt,g2]
 simp only [br_false,bnd_some]
 cases b2 with
 | false=>exact ⟨false,rfl,⟨fun h=>(by cases h),fun h=>i2.2 h.un⟩⟩
 | true =>
 rw [bt]
 simp only [br_false]
 have seals:∃ b,z0r.l9 k k 0 d=some b∧(b=true ↔ ∀ j,0≤j→j<d.2.2.length→rdAt d.2.2 j):=by
  refine loop_all' d.2.2.length (fun n i=>z0r.l9 k n (i:Int) d) (rdAt d.2.2) (fun n i hi=>?_) (fun n=>?_) k 0 (by omega) (by omega)
  ·have e3:iadd .i64 (i:Int) 1=((i+1:Nat):Int):=iadd_nat (by omega)
   simp only [z0r.l9_eq,ilt_nat,inL_nat,natOf_nat,hi,decide_true,br_true,rd_at' (e:=tDot) hi,rright_is,bnd_some,e3]
   cases hd:rightD d.2.2[i] with
   | false=>exact .inr ⟨fun h=>(by have:=h hi;rw [hd] at this;cases this),rfl⟩
   | true=>exact .inl ⟨fun _=>hd,rfl⟩
  ·simp only [z0r.l9_eq,ilt_nat,Nat.lt_irrefl,decide_false,br_false]
 obtain ⟨b,hb,hbi⟩:=loop_all d.1.length (fun n i=>z0r.l4 k n (i:Int) d) (chkAt k d.1) (fun n i hi=>by
  have e3:iadd .i64 (i:Int) 1=((i+1:Nat):Int):=iadd_nat (by omega)
  obtain ⟨e,he,_⟩:=hsh _ (List.getElem_mem hi)
  simp only [z0r.l4_eq,ilt_nat,inL_nat,natOf_nat,hi,decide_true,br_true,rd_at' (e:=tTxn) hi,he,bnd_some,e3,ieq_dec,bnot_dec,br_dec]
  by_cases hz:e=0
  ·exact .inl ⟨fun _=>by rw [he,hz],if_neg (by simpa using hz)⟩
  ·exact .inr ⟨fun h=>by rw [h hi] at he;injection he with he;exact hz he.symm,if_pos hz⟩) _ _ seals (fun n=>by simp only [z0r.l4_eq,ilt_nat,Nat.lt_irrefl,decide_false,br_false]) k 0 (by omega) (by omega)
 refine ⟨b,hb,hbi.trans ⟨fun ⟨h1,h2⟩=>⟨by omega,i1.1 rfl,i2.1 rfl,fun t ht=>?_,rdAt_all.1 h2⟩,fun h=>⟨fun j _ hj _=>h.chk _ (List.getElem_mem hj),rdAt_all.2 h.se⟩⟩⟩
 obtain ⟨j,hj,rfl⟩:=List.mem_iff_getElem.1 ht
 exact h1 j (by omega) hj hj
end Go.Proofs.YtggcagclpkhlhaaGreatDoor
end
noncomputable section
/- States with more of each: they may be, and the order does not matter. -/
namespace Go.Proofs.YtggcagclpkhlhaaGreatDoor
open Pal
theorem puts_memG:∀ (l:List Dot) (s:DSet),Can s→Can (l.foldl putD s)∧(∀ x,Mem (l.foldl putD s) x ↔ Mem s x∨(rightD x=true∧x ∈ l))∧(l.foldl putD s).2.length≤s.2.length+l.length
 | [],s,h=>⟨h,fun x=>by simp,by simp⟩
 | d::l,s,h=>by
  obtain ⟨a,b,c⟩:=putD_can h d
  obtain ⟨p,q,r⟩:=puts_memG l _ a
  refine ⟨p,fun x=>?_,by simp only [List.foldl_cons,List.length_cons];omega⟩
  show Mem (l.foldl putD (putD s d)) x ↔ _
  rw [q,b]
  constructor
  ·rintro ((h1 | ⟨h1,rfl⟩) | ⟨h1,h2⟩)
   ·exact .inl h1
   ·exact .inr ⟨h1,by simp⟩
   ·exact .inr ⟨h1,List.mem_cons_of_mem _ h2⟩
  ·rintro (h1 | ⟨h1,h2⟩)
   ·exact .inl (.inl h1)
   ·rcases List.mem_cons.1 h2 with rfl | h2
    ·exact .inl (.inr ⟨h1,rfl⟩)
    ·exact .inr ⟨h1,h2⟩
end Go.Proofs.YtggcagclpkhlhaaGreatDoor
end
noncomputable section
/- What is known: joined, the same, within. -/
namespace Go.Proofs.YtggcagclpkhlhaaGreatDoor
open Pal
end Go.Proofs.YtggcagclpkhlhaaGreatDoor
end
noncomputable section
/- Counts that may be: the program's test. -/
namespace Go.Proofs.YtggcagclpkhlhaaGreatDoor
open Pal
theorem trightU2_is (k:Nat) (l:List Undo) (h3:3≤k) (hl:l.length<k) (hk:k<1000000):∃ b,z1e.f k l=some b∧(b=true ↔ CanU l):=by
 obtain ⟨b,hb,hbi⟩:=loop_all' l.length (fun n i=>z1e.l2 k n l l (ilen l) (i:Int)) (okU l) (fun n i hi=>by
  have e4:iadd .i64 (i:Int) 1=((i+1:Nat):Int):=iadd_nat (by omega)
  simp only [z1e.l2_eq,ilt_nat,inL_nat,natOf_nat,hi,decide_true,br_true,rd_at' (e:=tUndo) hi,right_is,bnd_some,e4]
  have key:∀ hr:rightU l[i]=false,¬ okU l i:=fun hr h=>by have:=(h hi).1;rw [hr] at this;cases this
  have bt:bnot true=false:=rfl
  have bf:bnot false=true:=rfl
  cases hd:rightD l[i].1 with
  | false=>exact .inr ⟨key (by unfold rightU;rw [hd];rfl),by rw [bf];rfl⟩
  | true =>
   rw [bt]
   simp only [br_false,ilt_dec,br_dec]
   by_cases h1:l[i].2<1
   ·exact .inr ⟨key (by unfold rightU;rw [hd,decide_eq_false (by omega)];rfl),if_pos h1⟩
   ·rw [if_neg h1]
    by_cases h2:64<l[i].2
    ·exact .inr ⟨key (by unfold rightU;rw [hd,decide_eq_false (by omega)];rfl),if_pos h2⟩
    ·rw [if_neg h2]
     have hu:rightU l[i]=true:=by unfold rightU;rw [hd,decide_eq_true (by omega)];rfl
     by_cases h0:0<i
     ·have hi1:i - 1<l.length:=by omega
      have e3:isub .i64 (i:Int) 1=((i - 1:Nat):Int):=by rw [isub_s (by omega) (by omega) (by omega) (by omega)];omega
      have e5:(0:Int)<(i:Int):=by omega
      rw [if_pos e5,e3,inL_nat,natOf_nat,rd_at' (e:=tUndo) hi1,tcmp_is k _ _ h3]
      simp only [hi1,decide_true,br_true,bnd_some,ile_dec,br_dec]
      have hcc:cmpD l[i - 1].1 l[i].1<0 ↔ dotLt l[i - 1].1 l[i].1=true:=by rw [← cmp_lt0];exact decide_eq_true_iff.symm
      by_cases hc:0≤cmpD l[i - 1].1 l[i].1
      ·exact .inr ⟨fun h=>by have:=hcc.2 ((h hi).2 h0);omega,if_pos hc⟩
      ·exact .inl ⟨fun _=>⟨hu,fun _=>hcc.1 (by omega)⟩,if_neg hc⟩
     ·have e5:¬ (0:Int)<(i:Int):=by omega
      exact .inl ⟨fun _=>⟨hu,fun h=>absurd h h0⟩,if_neg e5⟩) (fun n=>by
  simp only [z1e.l2_eq,ilt_nat,Nat.lt_irrefl,decide_false,br_false]) k 0 (by omega) (by omega)
 rw [z1e.f_eq]
 refine ⟨b,hb,hbi.trans ?_⟩
 rw [canU_iff]
 exact ⟨fun h j hj=>h j (by omega) hj hj,fun h j _ _ hj=>h j hj⟩
end Go.Proofs.YtggcagclpkhlhaaGreatDoor
end
noncomputable section
/- Whether a state may be: the program's word is the document's. -/
namespace Go.Proofs.YtggcagclpkhlhaaGreatDoor
open Pal
def risB (l:List Txn) (j:Nat):Prop:=∀ h:j<l.length,∀ h0:0<j,dotLt (l[j - 1]'(by omega)).1 l[j].1=true
theorem risB_iff {l:List Txn}:l.Pairwise (fun a b=>dotLt a.1 b.1=true) ↔ ∀ j,0≤j→j<l.length→risB l j:=by
 rw [ris_iff]
 constructor
 ·intro h j _ hj hj' h0
  have:=h (j - 1) (by omega) (by omega) (by omega)
  have e:j - 1+1=j:=by omega
  simpa only [e] using this
 ·intro h j _ hj hj'
  have:=h (j+1) (by omega) (by omega) hj' (by omega)
  simpa using this
theorem trises_is (k:Nat) (l:List Txn) (h3:3≤k) (hl:l.length<k) (hk:k<1000000):∃ b,z2m.f k l=some b∧(b=true ↔ l.Pairwise (fun a b=>dotLt a.1 b.1=true)):=by
 rw [z2m.f_eq]
 obtain ⟨b,hb,hbi⟩:=loop_all' l.length (fun n i=>z2m.l2 k n l l (ilen l) (i:Int)) (risB l) (fun n i hi=>by
  have e4:iadd .i64 (i:Int) 1=((i+1:Nat):Int):=iadd_nat (by omega)
  simp only [z2m.l2_eq,ilt_nat,inL_nat,natOf_nat,hi,decide_true,br_true,rd_at' (e:=tTxn) hi,e4]
  rw [show ilt 0 (i:Int)=decide (0<i) from ilt_nn 0 i]
  by_cases h0:0<i
  ·have hi1:i - 1<l.length:=by omega
   have e3:isub .i64 (i:Int) 1=((i - 1:Nat):Int):=by rw [isub_s (by omega) (by omega) (by omega) (by omega)];omega
   obtain ⟨q,rfl⟩:∃ q,k=q+3:=⟨k - 3,by omega⟩
   rw [decide_eq_true h0,br_true,e3,inL_nat,natOf_nat,rd_at' (e:=tTxn) hi1,decide_eq_true hi1,br_true,cmpD_is,bnd_some,show ile 0 (cmpD l[i - 1].1 l[i].1)=decide (0≤cmpD l[i - 1].1 l[i].1) from rfl]
   have hcc:cmpD l[i - 1].1 l[i].1<0 ↔ dotLt l[i - 1].1 l[i].1=true:=by rw [← cmp_lt0];exact decide_eq_true_iff.symm
   by_cases hc:0≤cmpD l[i - 1].1 l[i].1
   ·exact .inr ⟨fun h=>by have:=hcc.2 (h hi h0);omega,by rw [decide_eq_true hc,br_true]⟩
   ·exact .inl ⟨fun _ _=>hcc.1 (by omega),by rw [decide_eq_false hc,br_false]⟩
  ·exact .inl ⟨fun _ h=>absurd h h0,by rw [decide_eq_false h0,br_false]⟩) (fun n=>by
  simp only [z2m.l2_eq,ilt_nat,Nat.lt_irrefl,decide_false,br_false]) k 0 (by omega) (by omega)
 exact ⟨b,hb,hbi.trans risB_iff.symm⟩
theorem names_l (k:Nat) (l:List Txn) (hl:l.length<1000000):∀ (n i:Nat) (x:List Dot),i≤l.length→l.length<n+i→x.length=i→z1d.l3 k n x l (ilen l) (i:Int)=some (x++dotsOf (l.drop i))
 | 0,i,_,h,h',_=>by omega
 | n+1,i,x,h,h',hx=>by
  rw [z1d.l3_eq,ilt_nat,inL_nat,natOf_nat]
  by_cases hi:i<l.length
  ·rw [decide_eq_true hi,br_true,br_true,rd_at' (e:=tTxn) hi,room1 (by omega),br_true,iadd_nat (by omega),names_l k l hl n (i+1) _ (by omega) (by omega) (by simp [app,hx])]
   unfold app dotsOf
   rw [List.drop_eq_getElem_cons hi,List.map_cons,List.append_assoc];rfl
  ·rw [decide_eq_false hi,br_false,List.drop_eq_nil_of_le (by omega)];simp [dotsOf]
theorem names_is (k:Nat) (l:List Txn) (hl:l.length<k) (hk:k<1000000):z1d.f k l=some (dotsOf l):=by
 rw [z1d.f_eq]
 have h:=names_l k l (by omega) k 0 [] (by omega) (by omega) rfl
 rw [show ((0:Nat):Int)=0 from rfl,List.drop_zero,List.nil_append] at h
 exact h
theorem chks_l (k:Nat) (l:List Txn) (ho:∀ t ∈ l,t.2.2.2.2.length<k∧∀ o ∈ t.2.2.2.2,SizO k o) (hl:l.length<1000000) (hk:10<k) (hk2:k<1000000):∀ (n i:Nat),i≤l.length→l.length<n+i →
  ∃ r:Int,z0a.l2 k n l (ilen l) (i:Int)=some r∧(0≤r ↔ ¬ ∀ t ∈ l.drop i,z1g.f k t=some 0)
 | 0,i,_,h=>by omega
 | n+1,i,h,h'=>by
  rw [z0a.l2_eq,ilt_nat,inL_nat,natOf_nat]
  by_cases hi:i<l.length
  ·obtain ⟨o1,o2⟩:=ho _ (List.getElem_mem hi)
   obtain ⟨e,g1,g2⟩:=txn_is k l[i] o2 o1 hk hk2
   rw [decide_eq_true hi,br_true,br_true,rd_at' (e:=tTxn) hi,z0H.f_eq,g1,bnd_some,bnd_some,iadd_nat (by omega),ieq_dec,bnot_dec,List.drop_eq_getElem_cons hi]
   by_cases h0:e=0
   ·subst h0
    rw [decide_eq_false (by simp),br_false]
    obtain ⟨r,q1,q2⟩:=chks_l k l ho hl hk hk2 n (i+1) (by omega) (by omega)
    refine ⟨r,q1,q2.trans (not_congr ⟨fun h t ht=>?_,fun h t ht=>h t (List.mem_cons_of_mem _ ht)⟩)⟩
    rcases List.mem_cons.1 ht with rfl | ht
    ·exact g2
    ·exact h t ht
   ·rw [decide_eq_true h0,br_true]
    refine ⟨(i:Int),rfl,⟨fun _ h=>h0 ?_,fun _=>by omega⟩⟩
    have:=h l[i] List.mem_cons_self
    rw [g2] at this;injection this
  ·rw [decide_eq_false hi,br_false,List.drop_eq_nil_of_le (by omega)]
   exact ⟨-1,rfl,⟨fun h=>by omega,fun h=>absurd (fun t ht=>by simp at ht) h⟩⟩
theorem rds_l (k:Nat) (l:List Dot) (hl:l.length<1000000):∀ (n i:Nat),i≤l.length→l.length<n+i →
  ∃ r:Int,z0b.l2 k n l (ilen l) (i:Int)=some r∧(0≤r ↔ ¬ ∀ d ∈ l.drop i,rightD d=true)
 | 0,i,_,h=>by omega
 | n+1,i,h,h'=>by
  rw [z0b.l2_eq,ilt_nat,inL_nat,natOf_nat]
  by_cases hi:i<l.length
  ·rw [decide_eq_true hi,br_true,br_true,rd_at' (e:=tDot) hi,z0L.f_eq,right_is,bnd_some,bnd_some,iadd_nat (by omega),List.drop_eq_getElem_cons hi]
   cases hr:rightD l[i] with
   | true =>
    obtain ⟨r,q1,q2⟩:=rds_l k l hl n (i+1) (by omega) (by omega)
    refine ⟨r,q1,q2.trans (not_congr ⟨fun h t ht=>?_,fun h t ht=>h t (List.mem_cons_of_mem _ ht)⟩)⟩
    rcases List.mem_cons.1 ht with rfl | ht
    ·exact hr
    ·exact h t ht
   | false =>
    refine ⟨(i:Int),rfl,⟨fun _ h=>?_,fun _=>by omega⟩⟩
    have:=h l[i] List.mem_cons_self
    rw [hr] at this;cases this
  ·rw [decide_eq_false hi,br_false,List.drop_eq_nil_of_le (by omega)]
   exact ⟨-1,rfl,⟨fun h=>by omega,fun h=>absurd (fun t ht=>by simp at ht) h⟩⟩
theorem known_ofD (l:List Dot):l.foldl putD emptyD=ofD l:=by
 obtain ⟨p,q,_⟩:=puts_memG l emptyD empty_can
 refine can_unique p (ofD_can l).1 fun x=>?_
 rw [q,(ofD_can l).2.1]
 constructor
 ·rintro (h | h)
  ·exact absurd h (empty_mem x)
  ·exact h
 ·exact .inr
def redoOK (l:List Dot):Prop:=l.length≤1000∧∀ d ∈ l,rightD d=true
theorem right_l6 (k:Nat) (s:Sta) (h8:s.2.2.2.2.length=8) (hl:∀ l ∈ s.2.2.2.2,l.length<k) (b1 b2:Bool) (g1:z1I.f k s.2.2.1=some b1) (g2:z1I.f k s.2.2.2.1=some b2) (hk2:k<1000000):∀ (n i:Nat),i≤8→8<n+i →
  ∃ b,z1p.l6 k n s.2.2.2.2 (i:Int) s=some b∧(b=true ↔ (∀ l ∈ s.2.2.2.2.drop i,redoOK l)∧b1=true∧b2=true)
 | 0,i,_,h=>by omega
 | n+1,i,h,h'=>by
  rw [z1p.l6_eq,show ilt (i:Int) 8=decide (i<8) from ilt_nn i 8,inB_nat,natOf_nat]
  by_cases hi:i<8
  ·have hi':i<s.2.2.2.2.length:=by omega
   have hm:=List.getElem_mem hi'
   rw [decide_eq_true hi,br_true,br_true,rd_at' (e:=.slc tDot) hi',show ilt 1000 (ilen s.2.2.2.2[i])=decide (1000<s.2.2.2.2[i].length) from ilt_lenR 1000 _,List.drop_eq_getElem_cons hi',iadd_nat (by omega)]
   by_cases hb:1000<s.2.2.2.2[i].length
   ·rw [decide_eq_true hb,br_true]
    exact ⟨false,rfl,⟨fun h=>(by cases h),fun h=>by have:=(h.1 _ (List.mem_cons_self)).1;omega⟩⟩
   ·obtain ⟨r,q1,q2⟩:=rds_l k s.2.2.2.2[i] (by have:=hl _ hm;omega) k 0 (by omega) (by have:=hl _ hm;omega)
    rw [show ((0:Nat):Int)=0 from rfl] at q1
    rw [List.drop_zero] at q2
    rw [decide_eq_false hb,br_false,z06.f_eq,z0b.f_eq,q1,bnd_some,bnd_some,show ile 0 r=decide (0≤r) from rfl]
    by_cases hr:0≤r
    ·rw [decide_eq_true hr,br_true]
     exact ⟨false,rfl,⟨fun h=>(by cases h),fun h=>absurd (h.1 _ (List.mem_cons_self)).2 (q2.1 hr)⟩⟩
    ·rw [decide_eq_false hr,br_false]
     obtain ⟨b,z1,z2⟩:=right_l6 k s h8 hl b1 b2 g1 g2 hk2 n (i+1) (by omega) (by omega)
     have hall:∀ d ∈ s.2.2.2.2[i],rightD d=true:=Classical.byContradiction fun h=>hr (q2.2 h)
     refine ⟨b,z1,z2.trans ⟨fun h=>⟨fun l hl=>?_,h.2⟩,fun h=>⟨fun l hl=>h.1 l (List.mem_cons_of_mem _ hl),h.2⟩⟩⟩
     rcases List.mem_cons.1 hl with rfl | hl
     ·exact ⟨by omega,hall⟩
     ·exact h.1 l hl
  ·rw [decide_eq_false hi,br_false,g1,g2,bnd_some,bnd_some,List.drop_eq_nil_of_le (by omega)]
   cases b1 <;> cases b2 <;> exact ⟨_,rfl,by simp⟩
theorem state_is (k:Nat) (s:Sta) (hv1:s.2.2.1.1.length=16) (hv2:s.2.2.2.1.1.length=16) (h8:s.2.2.2.2.length=8) (ho:∀ t ∈ s.1,t.2.2.2.2.length<k∧∀ o ∈ t.2.2.2.2,SizO k o) (hrl:∀ l ∈ s.2.2.2.2,l.length<k) (hul:s.2.1.length<k) (hkl:s.2.2.1.2.length<k) (hk:5000<k) (hk2:k<1000000) :
  ∃ b,z1p.f k s=some b∧(b=true ↔ RightS k s):=by
 rw [z1p.f_eq,show ilt 1000 (ilen s.1)=decide (1000<s.1.length) from ilt_lenR 1000 s.1]
 by_cases hm:1000<s.1.length
 ·rw [decide_eq_true hm];exact ⟨false,rfl,⟨fun h=>(by cases h),fun h=>by have:=h.many;omega⟩⟩
 rw [decide_eq_false hm,br_false]
 obtain ⟨b1,g1,i1⟩:=trises_is k s.1 (by omega) (by omega) hk2
 obtain ⟨b2,g2,i2⟩:=trightU2_is k s.2.1 (by omega) hul hk2
 obtain ⟨r,g3,i3⟩:=chks_l k s.1 ho (by omega) (by omega) hk2 k 0 (by omega) (by omega)
 obtain ⟨b4,g4,i4⟩:=dr_is k s.2.2.1 hv1 hk hk2
 obtain ⟨b5,g5,i5⟩:=dr_is k s.2.2.2.1 hv2 hk hk2
 obtain ⟨b6,g6,i6⟩:=right_l6 k s h8 hrl b4 b5 g4 g5 hk2 k 0 (by omega) (by omega)
 rw [show ((0:Nat):Int)=0 from rfl] at g3 g6
 rw [List.drop_zero] at i3 i6
 have bt:bnot true=false:=rfl
 have bf:bnot false=true:=rfl
 rw [g1,bnd_some]
 cases b1 with
 | false=>rw [bf,br_true];exact ⟨false,rfl,⟨fun h=>(by cases h),fun h=>i1.2 h.ris⟩⟩
 | true =>
 rw [bt,br_false,g2,bnd_some]
 cases b2 with
 | false=>rw [bf,br_true];exact ⟨false,rfl,⟨fun h=>(by cases h),fun h=>i2.2 h.un⟩⟩
 | true =>
 rw [bt,br_false,names_is k s.1 (by omega) hk2,bnd_some,of_is k _ (by unfold dotsOf;rw [List.length_map];omega) hk2,bnd_some,same_is k _ _ hkl hk2,bnd_some,← known_ofD]
 by_cases hkn:s.2.2.1=(dotsOf s.1).foldl putD emptyD
 case neg=>rw [decide_eq_false hkn,bf,br_true];exact ⟨false,rfl,⟨fun h=>(by cases h),fun h=>absurd h.know hkn⟩⟩
 rw [decide_eq_true hkn,bt,br_false,z05.f_eq,z0a.f_eq,g3,bnd_some,bnd_some,show ile 0 r=decide (0≤r) from rfl]
 by_cases hr:0≤r
 ·rw [decide_eq_true hr,br_true];exact ⟨false,rfl,⟨fun h=>(by cases h),fun h=>absurd h.chk (i3.1 hr)⟩⟩
 ·have hc:∀ t ∈ s.1,z1g.f k t=some 0:=Classical.byContradiction fun h=>hr (i3.2 h)
  rw [decide_eq_false hr,br_false]
  refine ⟨b6,g6,i6.trans ⟨fun h=>⟨by omega,i1.1 rfl,i2.1 rfl,i5.1 h.2.2,hc,h.1,i4.1 h.2.1,hkn⟩,fun h=>⟨h.redo,i4.2 h.kn,i5.2 h.se⟩⟩⟩
end Go.Proofs.YtggcagclpkhlhaaGreatDoor
end
noncomputable section
/- What is told as bytes is read again: numbers. -/
namespace Go.Proofs.YtggcagclpkhlhaaGreatDoor
open Pal
theorem bk_byte {s r:List UInt8} {i:Nat} {b:UInt8} (h:s.drop i=b::r):i<s.length∧byteAt s (i:Int)=((b.toNat:Nat):Int)∧s.drop (i+1)=r:=by
 have hl:i<s.length:=by
  rcases Nat.lt_or_ge i s.length with h1 | h1
  ·exact h1
  ·rw [List.drop_eq_nil_of_le h1] at h;cases h
 rw [List.drop_eq_getElem_cons hl] at h
 injection h with h1 h2
 refine ⟨hl,?_,h2⟩
 unfold byteAt
 rw [Int.toNat_natCast,List.getD_eq_getElem?_getD,List.getElem?_eq_getElem hl,h1];rfl
theorem back_l (k:Nat) (s t:List UInt8) (hS:s.length<4000000):∀ (j i v n m:Nat),i+j=8→j+1≤m→n<2 ^ (7 * j)→(0<i→0<n)→v<2 ^ (7 * i)→s.drop i=packB n++t →
  z0y.l3 k m (v:Int) (i:Int) (s,0)=some (((2 ^ (7 * i) * n+v:Nat):Int),(t,0))
 | 0,i,v,n,m,hj,_,hn,hp,_,_=>by
  have h0:n<1:=hn
  have:=hp (by omega);omega
 | j+1,i,v,n,0,hj,hm,_,_,_,_=>by omega
 | j+1,i,v,n,m+1,hj,hm,hn,hp,hv,hd=>by
  have hi8:i<8:=by omega
  have e1:ieq (i:Int) 8=false:=by rw [ieq_dec];exact decide_eq_false (by omega)
  have e7:ilt (imul .i64 7 (i:Int)) 0=false:=by
   show decide (IntKind.wrap .i64 (7 * (i:Int))<0)=false
   rw [wrap64 (by omega) (by omega)];exact decide_eq_false (by omega)
  have e12:iadd .i64 (i:Int) 1=((i+1:Nat):Int):=iadd_nat (by omega)
  obtain ⟨c,b,r,hb,hc,hcb,hc256⟩:∃ (c:Nat) (b:UInt8) (r:List UInt8),packB n++t=b::r∧b.toNat=c∧(if n<128 then c=n∧r=t else c=n % 128+128∧r=packB (n / 128)++t)∧c<256:=by
   by_cases h:n<128
   ·refine ⟨n,UInt8.ofNat n,t,by rw [packB_lo h];rfl,?_,by rw [if_pos h];exact ⟨rfl,rfl⟩,by omega⟩
    rw [UInt8.toNat_ofNat'];omega
   ·refine ⟨n % 128+128,UInt8.ofNat (n % 128+128),packB (n / 128)++t,by rw [packB_hi h];rfl,?_,by rw [if_neg h];exact ⟨rfl,rfl⟩,by omega⟩
    rw [UInt8.toNat_ofNat'];omega
  rw [hb] at hd
  obtain ⟨hl,hby,hdr⟩:=bk_byte hd
  rw [hc] at hby
  have e4:ile (ilen s) (i:Int)=false:=by unfold ile ilen;exact decide_eq_false (by omega)
  have e6:inL (i:Int) s=true:=by rw [inL_nat];exact decide_eq_true hl
  have hw:iwrap .i64 (c:Int)=(c:Int):=wrap64 (by omega) (by omega)
  obtain ⟨g1,g2⟩:=num_step (c:=c) hi8 hc256 hv
  have e8:ile 128 (c:Int)=decide (128≤c):=by unfold ile;exact decide_eq_decide.2 ⟨fun h=>by omega,fun h=>by omega⟩
  have e10:ieq (c:Int) 0=decide (c=0):=by rw [ieq_dec];exact decide_eq_decide.2 ⟨fun h=>by omega,fun h=>by omega⟩
  have e11:ilt 0 (i:Int)=decide (0<i):=ilt_nn 0 i
  rw [z0y.l3_eq,fine_is]
  simp only [bnd_some,decide_true,br_true,e1,br_false,e4,e6,e7,hby,hw,e8,e10,e11,g1,e12]
  by_cases h:n<128
  ·rw [if_pos h] at hcb
   obtain ⟨hcn,hr⟩:=hcb
   have hcm:c % 128=n:=by omega
   have hc2:¬ 128≤c:=by omega
   rw [decide_eq_false hc2,br_false,hcm]
   have hin:inS ((i+1:Nat):Int) (ilen s) (ilen s)=true:=by
    have q1:((i+1:Nat):Int)≤(s.length:Int):=by omega
    show (decide ((0:Int)≤((i+1:Nat):Int)) && decide (((i+1:Nat):Int)≤(s.length:Int)) && decide ((s.length:Int)≤(s.length:Int)))=true
    rw [decide_eq_true q1,decide_eq_true (show (0:Int)≤((i+1:Nat):Int) by omega),decide_eq_true (Int.le_refl _)];rfl
   have hpc:piece s ((i+1:Nat):Int) (ilen s)=t:=by
    unfold piece ilen
    rw [Int.toNat_natCast,Int.toNat_natCast,List.take_length,hdr,hr]
   rw [hin,hpc,br_true]
   by_cases hc0:c=0
   ·have h0:¬ 0<i:=fun h=>by have:=hp h;omega
    rw [decide_eq_true hc0,decide_eq_false h0];rfl
   ·rw [decide_eq_false hc0];rfl
  ·rw [if_neg h] at hcb
   obtain ⟨hcn,hr⟩:=hcb
   have hcm:c % 128=n % 128:=by omega
   have hc2:128≤c:=by omega
   rw [decide_eq_true hc2,br_true,hcm]
   rw [hcm] at g2
   have e2:2 ^ (7 * (j+1))=2 ^ (7 * j) * 128:=by rw [show 7 * (j+1)=7 * j+7 by omega,Nat.pow_add]
   have e3:2 ^ (7 * (i+1))=2 ^ (7 * i) * 128:=by rw [show 7 * (i+1)=7 * i+7 by omega,Nat.pow_add]
   rw [back_l k s t hS j (i+1) _ (n / 128) m (by omega) (by omega) (by rw [e2] at hn;omega) (fun _=>by omega) g2 (by rw [hdr,hr])]
   have e5:2 ^ (7 * (i+1)) * (n / 128)+(2 ^ (7 * i) * (n % 128)+v)=2 ^ (7 * i) * n+v:=by
    have e9:2 ^ (7 * i) * n=2 ^ (7 * i) * (128 * (n / 128)+n % 128):=by rw [Nat.div_add_mod]
    rw [e3,e9,Nat.mul_add,Nat.mul_assoc];omega
   rw [e5]
theorem back_int (k n:Nat) (t:List UInt8) (hk:12<k) (hn:n<72057594037927936) (hS:(packB n++t).length<4000000):z0y.f k (packB n++t,0)=some ((n:Int),(t,0)):=by
 rw [z0y.f_eq]
 have:=back_l k (packB n++t) t hS 8 0 0 n k (by omega) (by omega) (by show n<2 ^ 56;exact hn) (fun h=>by omega) (by decide) rfl
 simpa using this
end Go.Proofs.YtggcagclpkhlhaaGreatDoor
end
noncomputable section
/- What is told as bytes is read again: dots, vectors, rows of dots and sets. -/
namespace Go.Proofs.YtggcagclpkhlhaaGreatDoor
open Pal
def codeD (d:Dot):List UInt8:=packB d.1.toNat++packB d.2.toNat
def codeV (v:Vec):List UInt8:=List.flatMap (fun n:Int=>packB n.toNat) v
def codeL (l:List Dot):List UInt8:=packB l.length++l.flatMap codeD
def codeS (s:DSet):List UInt8:=codeV s.1++codeL s.2
theorem rightD_rng {d:Dot} (h:rightD d=true):0≤d.1∧d.1<16∧1≤d.2∧d.2≤1048576:=of_decide_eq_true h
theorem back_dot (k:Nat) (d:Dot) (t:List UInt8) (hd:rightD d=true) (hk:12<k) (hS:(codeD d++t).length<4000000):z2C.f k (codeD d++t,0)=some (d,(t,0)):=by
 obtain ⟨h1,h2,h3,h4⟩:=rightD_rng hd
 have e1:((d.1.toNat:Nat):Int)=d.1:=Int.toNat_of_nonneg h1
 have e2:((d.2.toNat:Nat):Int)=d.2:=Int.toNat_of_nonneg (by omega)
 have ea:codeD d++t=packB d.1.toNat++(packB d.2.toNat++t):=by unfold codeD;rw [List.append_assoc]
 rw [ea] at hS ⊢
 have hS2:(packB d.2.toNat++t).length<4000000:=by rw [List.length_append] at hS;omega
 rw [z2C.f_eq,back_int k _ _ hk (by omega) hS]
 simp only [bnd_some]
 rw [back_int k _ _ hk (by omega) hS2,e1,e2]
 have bt:bnot true=false:=rfl
 simp only [bnd_some,fault_is,ieq_dec,decide_true,br_true,right_is,hd,bt,br_false]
theorem codeD_pos (d:Dot):0<(codeD d).length:=by
 unfold codeD;rw [List.length_append];have:=packB_pos d.1.toNat;omega
theorem codes_len {α:Type} (f:α→List UInt8) (hf:∀ x,0<(f x).length):∀ (l:List α),l.length≤(l.flatMap f).length
 | []=>by simp
 | x::l=>by
  have:=codes_len f hf l;have:=hf x
  simp only [List.flatMap_cons,List.length_append,List.length_cons];omega
theorem back_many (k n:Nat) (most:Int) (t:List UInt8) (hk:12<k) (hn:n<72057594037927936) (hm:(n:Int)≤most) (hl:n≤t.length) (hS:(packB n++t).length<4000000):z0s.f k most (packB n++t,0)=some ((n:Int),(t,0)):=by
 rw [z0s.f_eq,back_int k n t hk hn hS]
 have e1:ilt most (n:Int)=false:=decide_eq_false (by omega)
 have e2:ilt (ilen t) (n:Int)=false:=by unfold ilt ilen;exact decide_eq_false (by omega)
 have bt:bnot true=false:=rfl
 simp only [bnd_some,fine_is,decide_true,bt,br_false,e1,e2]
theorem back_l3 (k:Nat) (hk:12<k) (N:Nat) (hN:N<1000000) (t:List UInt8):∀ (n i:Nat) (x l:List Dot),i+l.length=N→N<n+i→x.length=i→(∀ d ∈ l,rightD d=true)→(l.flatMap codeD++t).length<4000000 →
  z0M.l3 k n x (N:Int) (i:Int) (l.flatMap codeD++t,0)=some (x++l,(t,0))
 | 0,i,_,_,h,h',_,_,_=>by omega
 | n+1,i,x,[],h,_,_,_,_=>by
  have hi:N=i:=by simpa using h.symm
  subst hi
  rw [z0M.l3_eq,ilt_nn,decide_eq_false (Nat.lt_irrefl _)]
  have bt:bnot true=false:=rfl
  simp only [br_false,fault_is,bnd_some,ieq_dec,decide_true,bt,List.append_nil,List.flatMap_nil,List.nil_append]
 | n+1,i,x,d::l,h,h',hx,hr,hS=>by
  simp only [List.length_cons] at h
  have e4:iadd .i64 (i:Int) 1=((i+1:Nat):Int):=iadd_nat (by omega)
  have ea:(d::l).flatMap codeD++t=codeD d++(l.flatMap codeD++t):=by rw [List.flatMap_cons,List.append_assoc]
  rw [ea] at hS ⊢
  have hS2:(l.flatMap codeD++t).length<4000000:=by rw [List.length_append] at hS;omega
  rw [z0M.l3_eq,ilt_nn,decide_eq_true (show i<N by omega),back_dot k d _ (hr d (by simp)) hk hS,e4]
  simp only [br_true,bnd_some,room1 (show x.length<4000000 by omega)]
  have:=back_l3 k hk N hN t n (i+1) (app x (d::[])) l (by omega) (by omega) (by simp [app,hx]) (fun e he=>hr e (List.mem_cons_of_mem _ he)) hS2
  refine this.trans ?_
  simp [app]
theorem back_list (k:Nat) (l:List Dot) (most:Int) (t:List UInt8) (hr:∀ d ∈ l,rightD d=true) (hm:(l.length:Int)≤most) (hk:12<k) (hl:l.length<k) (hk2:k<1000000) (hS:(codeL l++t).length<4000000) :
  z0M.f k most (codeL l++t,0)=some (l,(t,0)):=by
 have ea:codeL l++t=packB l.length++(l.flatMap codeD++t):=by unfold codeL;rw [List.append_assoc]
 rw [ea] at hS ⊢
 have hS2:(l.flatMap codeD++t).length<4000000:=by rw [List.length_append] at hS;omega
 have hlen:=codes_len codeD codeD_pos l
 rw [z0M.f_eq,back_many k _ most _ hk (by omega) hm (by rw [List.length_append];omega) hS]
 simp only [bnd_some]
 exact back_l3 k hk l.length (by omega) t k 0 [] l (by omega) (by omega) rfl hr hS2
theorem back_v3 (k:Nat) (hk:17<k) (v za:Vec) (hv:VOk v) (t:List UInt8):∀ (n i:Nat) (x:Vec),i≤16→16<n+i→x.length=16→(∀ j:Nat,j<i→x[j]? = v[j]?)→(List.flatMap (fun n:Int=>packB n.toNat) (List.drop i v)++t).length<4000000 →
  z2B.l3 k n (i:Int) za x (List.flatMap (fun n:Int=>packB n.toNat) (List.drop i v)++t,0)=some (v,(t,0))
 | 0,i,_,h,h',_,_,_=>by omega
 | n+1,i,x,h,h',hx,hj,hS=>by
  have hvl:=hv.len
  rw [z2B.l3_eq,show ilt (i:Int) 16=decide (i<16) from ilt_nn i 16,inB_nat]
  by_cases hi:i<16
  ·have hil:i<List.length v:=by omega
   have hge:0≤v[i]∧v[i]≤1048576:=by
    have h1:=hv.lo (i:Int) (by omega) (by omega)
    have h2:=hv.hi (i:Int) (by omega) (by omega)
    have e:vat v (i:Int)=v[i]:=by
     unfold vat
     first
      | (rw [natOf_nat];exact rd_at' (e:=.int .i64) hil)
      | (rw [Int.toNat_natCast,List.getD_eq_getElem?_getD,List.getElem?_eq_getElem hil];rfl)
    rw [e] at h1 h2;exact ⟨h1,h2⟩
   have ed:List.drop i v=v[i]::List.drop (i+1) v:=List.drop_eq_getElem_cons hil
   have ea:List.flatMap (fun n:Int=>packB n.toNat) (List.drop i v)++t=packB v[i].toNat++(List.flatMap (fun n:Int=>packB n.toNat) (List.drop (i+1) v)++t):=by
    rw [ed,List.flatMap_cons,List.append_assoc]
   rw [ea] at hS ⊢
   have hS2:(List.flatMap (fun n:Int=>packB n.toNat) (List.drop (i+1) v)++t).length<4000000:=by rw [List.length_append] at hS;omega
   have e4:iadd .i64 (i:Int) 1=((i+1:Nat):Int):=iadd_nat (by omega)
   rw [decide_eq_true hi,back_int k _ _ (by omega) (by omega) hS,e4,Int.toNat_of_nonneg hge.1,natOf_nat]
   simp only [br_true,bnd_some]
   refine back_v3 k hk v za hv t n (i+1) (upd x i v[i]) (by omega) (by omega) (by rw [upd_len];exact hx) (fun j hj'=>?_) hS2
   show (List.set x i v[i])[j]? = v[j]?
   by_cases hji:j=i
   ·subst hji;rw [List.getElem?_set_self (by omega),List.getElem?_eq_getElem hil]
   ·rw [List.getElem?_set_ne (by omega)];exact hj j (by omega)
  ·have hi16:i=16:=by omega
   subst hi16
   have hxv:x=v:=List.ext_getElem? fun j=>by
    by_cases hj16:j<16
    ·exact hj j hj16
    ·rw [List.getElem?_eq_none (by omega),List.getElem?_eq_none (by omega)]
   subst hxv
   obtain ⟨b,g1,i1⟩:=vr_is k x hx hk
   have hb:b=true:=i1.2 hv
   subst hb
   have e0:List.drop 16 x=[]:=List.drop_eq_nil_of_le (by omega)
   have bt:bnot true=false:=rfl
   rw [decide_eq_false hi,e0]
   simp only [br_false,bnd_some,g1,fault_is,ieq_dec,decide_true,br_true,bt,List.flatMap_nil,List.nil_append]
theorem back_vec (k:Nat) (v:Vec) (t:List UInt8) (hv:VOk v) (hk:17<k) (hS:(codeV v++t).length<4000000):z2B.f k (codeV v++t,0)=some (v,(t,0)):=by
 rw [z2B.f_eq]
 exact back_v3 k hk v (zarr 16 0) hv t k 0 (zarr 16 0) (by omega) (by omega) rfl (fun j hj=>by omega) hS
theorem back_dots (k:Nat) (s:DSet) (t:List UInt8) (hs:Can s) (hm:s.2.length≤4096) (hk:5000<k) (hk2:k<1000000) (hS:(codeS s++t).length<4000000):z2p.f k (codeS s++t,0)=some (s,(t,0)):=by
 have ea:codeS s++t=codeV s.1++(codeL s.2++t):=by unfold codeS;rw [List.append_assoc]
 rw [ea] at hS ⊢
 have hS2:(codeL s.2++t).length<4000000:=by rw [List.length_append] at hS;omega
 obtain ⟨b,g1,i1⟩:=dr_is k s hs.vok.len hk hk2
 have hb:b=true:=i1.2 ⟨hs,hm⟩
 subst hb
 have bt:bnot true=false:=rfl
 rw [z2p.f_eq,back_vec k s.1 _ hs.vok (by omega) hS]
 simp only [bnd_some]
 rw [back_list k s.2 4096 t hs.rt (by omega) (by omega) (by omega) hk2 hS2]
 have g2:z1I.f k (s.1,s.2)=some true:=g1
 simp only [bnd_some,fault_is,ieq_dec,decide_true,br_true,g2,bt,br_false]
end Go.Proofs.YtggcagclpkhlhaaGreatDoor
end
noncomputable section
/- Knowledge: the program and the document read the same, and what is told is read again. -/
namespace Go.Proofs.YtggcagclpkhlhaaGreatDoor
open Pal
theorem tread_l (k:Nat) (S:List UInt8) (hS:S.length<5000) (hk:5000<k) (hk2:k<1000000) (N:Nat) (hN:N≤S.length):∀ (n i:Nat) (l:List Undo) (r:Rdr) (x:RefRdr),i≤N→N<n+i→l.length=i→RR S r x →
  ∃ (l':List Undo) (r':Rdr) (x':RefRdr),z1w.l3 k n l (N:Int) (i:Int) r=some (l',r')∧z1C.l4 k n (N:Int) l (i:Int) x=some (l',x')∧RR S r' x'∧l'.length≤N
 | 0,i,_,_,_,h,h',_,_=>by omega
 | n+1,i,l,r,x,h,h',hl,hr=>by
  rw [z1w.l3_eq,z1C.l4_eq,ilt_nn]
  by_cases hi:i<N
  ·obtain ⟨d,r1,x1,e1,e2,h1,_⟩:=dotread_is k S r x hr (by omega) (by omega)
   obtain ⟨c,r2,x2,e3,e5,h2,_,_,_⟩:=int_is k S r1 x1 h1 (by omega) (by omega)
   have e4:iadd .i64 (i:Int) 1=((i+1:Nat):Int):=iadd_nat (by omega)
   rw [decide_eq_true hi,e1,e2,e4]
   simp only [br_true,bnd_some]
   rw [e3,e5]
   simp only [bnd_some,room1 (show l.length<4000000 by omega),br_true]
   exact tread_l k S hS hk hk2 N hN n (i+1) _ r2 x2 (by omega) (by omega) (by simp [app,hl]) h2
  ·rw [decide_eq_false hi]
   obtain ⟨b1,g1,i1⟩:=trightU2_is k l (by omega) (by omega) hk2
   obtain ⟨b2,g2,i2⟩:=rrightU_is k l (by omega) hk2
   have hbb:b1=b2:=by rw [Bool.eq_iff_iff,i1,i2]
   subst hbb
   simp only [br_false,bnd_some,g1,g2,fault_is,fail_is,ieq_dec,bnot_dec,br_dec]
   obtain ⟨s2,c1⟩:=r
   obtain ⟨S2,a2,c2⟩:=x
   have hb:c1=c2:=hr.bad
   subst hb
   by_cases hz:c1=0
   ·subst hz
    simp only [if_true]
    cases b1 with
    | true =>
     have e:bnot true=false:=rfl
     simp only [e,br_false,not_true,if_false]
     exact ⟨l,_,_,rfl,rfl,hr,by omega⟩
    | false =>
     have e:bnot false=true:=rfl
     simp only [e,br_true]
     exact ⟨[],_,_,rfl,rfl,hr.fail (e:=2) (by decide) rfl,by simp⟩
   ·simp only [hz,not_false_eq_true,if_true,if_false]
    exact ⟨[],_,_,rfl,rfl,hr,by simp⟩
theorem tread_is (k:Nat) (S:List UInt8) (most:Int) (r:Rdr) (x:RefRdr) (h:RR S r x) (hS:S.length<5000) (hk:5000<k) (hk2:k<1000000) :
  ∃ (l:List Undo) (r':Rdr) (x':RefRdr),z1w.f k most r=some (l,r')∧z1C.f k most x=some (l,x')∧RR S r' x'∧l.length≤S.length:=by
 obtain ⟨n,r1,x1,e1,e2,h1,n0,n1,nm⟩:=many_is k S most r x h (by omega) (by omega)
 rw [z1w.f_eq,z1C.f_eq,e1,e2]
 simp only [bnd_some]
 obtain ⟨N,rfl⟩:∃ N:Nat,n=(N:Int):=⟨n.toNat,by omega⟩
 obtain ⟨l,r',x',g1,g2,g3,g4⟩:=tread_l k S hS hk hk2 N (by omega) k 0 [] r1 x1 (by omega) (by omega) rfl h1
 exact ⟨l,r',x',g1,g2,g3,by omega⟩
def codeU (u:Undo):List UInt8:=codeD u.1++packB u.2.toNat
def codeT (l:List Undo):List UInt8:=packB l.length++l.flatMap codeU
theorem roomS_ok {a b:List UInt8} (h1:a.length≤4000000000) (h2:b.length≤4000000000):roomS a b=true:=decide_eq_true (by omega)
theorem packB_le {n:Nat} (h:n<72057594037927936):(packB n).length≤8:=packB_len 7 n h
theorem codeD_le {d:Dot} (h:rightD d=true):(codeD d).length≤16:=by
 obtain ⟨h1,h2,h3,h4⟩:=rightD_rng h
 have:=packB_le (n:=d.1.toNat) (by omega)
 have:=packB_le (n:=d.2.toNat) (by omega)
 unfold codeD;rw [List.length_append];omega
theorem codeU_le {u:Undo} (h:rightU u=true):(codeU u).length≤24:=by
 obtain ⟨h1,h2,h3⟩:=(rightU_iff u).1 h
 have:=codeD_le h1
 have:=packB_le (n:=u.2.toNat) (by omega)
 unfold codeU;rw [List.length_append];omega
theorem codes_le {α:Type} (f:α→List UInt8) (c:Nat):∀ (l:List α),(∀ x ∈ l,(f x).length≤c)→(l.flatMap f).length≤c * l.length
 | [],_=>by simp
 | x::l,h=>by
  have h1:=h x (by simp)
  have h2:=codes_le f c l (fun y hy=>h y (List.mem_cons_of_mem _ hy))
  rw [List.flatMap_cons,List.length_append,List.length_cons,Nat.mul_add,Nat.mul_one];omega
theorem dcode_is (k:Nat) {d:Dot} (h:rightD d=true):z2z.f k d=some (codeD d):=by
 obtain ⟨h1,h2,h3,h4⟩:=rightD_rng h
 have p1:=packB_le (n:=d.1.toNat) (by omega)
 have p2:=packB_le (n:=d.2.toNat) (by omega)
 rw [z2z.f_eq,packI_is (n:=d.1) (by omega),packI_is (n:=d.2) (by omega)]
 simp only [bnd_some]
 rw [roomS_ok (by omega) (by omega)];rfl
theorem vcode_l (k:Nat) (v:Vec) (hv:VOk v):∀ (n i:Nat) (x:List UInt8),i≤16→16<n+i→x.length≤100+8 * i→z2E.l3 k n x v (i:Int)=some (x++List.flatMap (fun n:Int=>packB n.toNat) (List.drop i v))
 | 0,i,_,h,h',_=>by omega
 | n+1,i,x,h,h',hx=>by
  have hvl:=hv.len
  rw [z2E.l3_eq,show ilt (i:Int) 16=decide (i<16) from ilt_nn i 16,inB_nat,natOf_nat]
  by_cases hi:i<16
  ·have hil:i<List.length v:=by omega
   have e:rd (.int .i64) v i=v[i]:=rd_at' (e:=.int .i64) hil
   have hge:0≤v[i]∧v[i]≤1048576:=by
    have h1:=hv.lo (i:Int) (by omega) (by omega)
    have h2:=hv.hi (i:Int) (by omega) (by omega)
    rw [vat_get hil] at h1 h2;exact ⟨h1,h2⟩
   have e4:iadd .i64 (i:Int) 1=((i+1:Nat):Int):=iadd_nat (by omega)
   have hp:(packB v[i].toNat).length≤8:=packB_le (by omega)
   have ed:List.drop i v=v[i]::List.drop (i+1) v:=List.drop_eq_getElem_cons hil
   rw [decide_eq_true hi,e,packI_is (n:=v[i]) (by omega),e4,ed,List.flatMap_cons]
   simp only [br_true,bnd_some]
   rw [roomS_ok (by omega) (by omega),br_true]
   refine (vcode_l k v hv n (i+1) _ (by omega) (by omega) (by unfold app;rw [List.length_append];omega)).trans ?_
   unfold app;rw [List.append_assoc]
  ·have e0:List.drop i v=[]:=List.drop_eq_nil_of_le (by omega)
   rw [decide_eq_false hi,br_false,e0];simp
theorem vcode_is (k:Nat) {v:Vec} (hv:VOk v) (hk:17<k):z2E.f k v=some (codeV v):=by
 rw [z2E.f_eq]
 exact vcode_l k v hv k 0 [] (by omega) (by omega) (by simp)
theorem codeV_le {v:Vec} (hv:VOk v):(codeV v).length≤128:=by
 have hvl:=hv.len
 have:=codes_le (fun n:Int=>packB n.toNat) 8 v (fun x hx=>by
  obtain ⟨i,hi,rfl⟩:=List.getElem_of_mem hx
  have h1:=hv.lo (i:Int) (by omega) (by omega)
  have h2:=hv.hi (i:Int) (by omega) (by omega)
  rw [vat_get hi] at h1 h2
  exact packB_le (by omega))
 unfold codeV;omega
theorem lcode_l (k:Nat) (l:List Dot) (hr:∀ d ∈ l,rightD d=true) (hl:l.length<1000000):∀ (n i:Nat) (x:List UInt8),i≤l.length→l.length<n+i→x.length≤100+16 * i→z2i.l3 k n x l (ilen l) (i:Int)=some (x++(l.drop i).flatMap codeD)
 | 0,i,_,h,h',_=>by omega
 | n+1,i,x,h,h',hx=>by
  rw [z2i.l3_eq,ilt_nat,inL_nat,natOf_nat]
  by_cases hi:i<l.length
  ·have hd:=hr l[i] (List.getElem_mem hi)
   have hp:=codeD_le hd
   have e4:iadd .i64 (i:Int) 1=((i+1:Nat):Int):=iadd_nat (by omega)
   have ed:l.drop i=l[i]::l.drop (i+1):=List.drop_eq_getElem_cons hi
   rw [decide_eq_true hi,rd_at' (e:=tDot) hi,dcode_is k hd,e4,ed,List.flatMap_cons]
   simp only [br_true,bnd_some]
   rw [roomS_ok (by omega) (by omega),br_true]
   refine (lcode_l k l hr hl n (i+1) _ (by omega) (by omega) (by unfold app;rw [List.length_append];omega)).trans ?_
   unfold app;rw [List.append_assoc]
  ·have e0:l.drop i=[]:=List.drop_eq_nil_of_le (by omega)
   rw [decide_eq_false hi,br_false,e0];simp
theorem lcode_is (k:Nat) {l:List Dot} (hr:∀ d ∈ l,rightD d=true) (hl:l.length<k) (hk:k<1000000):z2i.f k l=some (codeL l):=by
 have e:(ilen l).toNat=l.length:=rfl
 have hp:=packB_le (n:=l.length) (by omega)
 rw [z2i.f_eq,packI_is (n:=ilen l) (by unfold ilen;omega),e,bnd_some]
 exact lcode_l k l hr (by omega) k 0 _ (by omega) (by omega) (by omega)
theorem codeL_le {l:List Dot} (hr:∀ d ∈ l,rightD d=true) (hl:l.length<1000000):(codeL l).length≤8+16 * l.length:=by
 have hp:=packB_le (n:=l.length) (by omega)
 have:=codes_le codeD 16 l (fun d hd=>codeD_le (hr d hd))
 unfold codeL;rw [List.length_append];omega
theorem scode_is (k:Nat) {s:DSet} (hs:Can s) (hl:s.2.length<k) (h17:17<k) (hk:k<1000000):z2f.f k s=some (codeS s):=by
 have h1:=codeV_le hs.vok
 have h2:=codeL_le hs.rt (by omega)
 rw [z2f.f_eq,vcode_is k hs.vok h17,lcode_is k hs.rt hl hk]
 simp only [bnd_some]
 rw [roomS_ok (by omega) (by omega)];rfl
theorem codeS_le {s:DSet} (hs:Can s) {n:Nat} (hl:s.2.length≤n) (hn:n<1000000):(codeS s).length≤136+16 * n:=by
 have h1:=codeV_le hs.vok
 have h2:=codeL_le hs.rt (by omega)
 unfold codeS;rw [List.length_append];omega
theorem tcode_l (k:Nat) (l:List Undo) (hr:∀ u ∈ l,rightU u=true) (hl:l.length<1000000):∀ (n i:Nat) (x:List UInt8),i≤l.length→l.length<n+i→x.length≤100+24 * i→z1G.l3 k n x l (ilen l) (i:Int)=some (x++(l.drop i).flatMap codeU)
 | 0,i,_,h,h',_=>by omega
 | n+1,i,x,h,h',hx=>by
  rw [z1G.l3_eq,ilt_nat,inL_nat,natOf_nat]
  by_cases hi:i<l.length
  ·have hd:=hr l[i] (List.getElem_mem hi)
   obtain ⟨hd1,hd2,hd3⟩:=(rightU_iff _).1 hd
   have hp:=codeU_le hd
   have hp1:=codeD_le hd1
   have hp2:=packB_le (n:=l[i].2.toNat) (by omega)
   have e4:iadd .i64 (i:Int) 1=((i+1:Nat):Int):=iadd_nat (by omega)
   have ed:l.drop i=l[i]::l.drop (i+1):=List.drop_eq_getElem_cons hi
   rw [decide_eq_true hi,rd_at' (e:=tUndo) hi,dcode_is k hd1,packI_is (n:=l[i].2) (by omega),e4,ed,List.flatMap_cons]
   simp only [br_true,bnd_some]
   rw [roomS_ok (by omega) (by omega),br_true]
   have ea:app (codeD l[i].1) (packB l[i].2.toNat)=codeU l[i]:=rfl
   rw [ea,roomS_ok (by omega) (by omega),br_true]
   refine (tcode_l k l hr hl n (i+1) _ (by omega) (by omega) (by unfold app;rw [List.length_append];omega)).trans ?_
   unfold app;rw [List.append_assoc]
  ·have e0:l.drop i=[]:=List.drop_eq_nil_of_le (by omega)
   rw [decide_eq_false hi,br_false,e0];simp
theorem tcode_is (k:Nat) {l:List Undo} (hr:∀ u ∈ l,rightU u=true) (hl:l.length<k) (hk:k<1000000):z1G.f k l=some (codeT l):=by
 have e:(ilen l).toNat=l.length:=rfl
 have hp:=packB_le (n:=l.length) (by omega)
 rw [z1G.f_eq,packI_is (n:=ilen l) (by unfold ilen;omega),e,bnd_some]
 exact tcode_l k l hr (by omega) k 0 _ (by omega) (by omega) (by omega)
theorem codeT_le {l:List Undo} (hr:∀ u ∈ l,rightU u=true) {n:Nat} (hl:l.length≤n) (hn:n<1000000):(codeT l).length≤8+24 * n:=by
 have hp:=packB_le (n:=l.length) (by omega)
 have:=codes_le codeU 24 l (fun d hd=>codeU_le (hr d hd))
 unfold codeT;rw [List.length_append];omega
theorem codeU_pos (u:Undo):0<(codeU u).length:=by
 unfold codeU;rw [List.length_append];have:=codeD_pos u.1;omega
theorem back_t3 (k:Nat) (h12:12<k) (N:Nat) (hN:N<1000000) (hNk:N<k) (hk2:k<1000000) (t:List UInt8):∀ (n i:Nat) (x l:List Undo),i+l.length=N→N<n+i→x.length=i→(∀ d ∈ l,rightU d=true)→CanU (x++l)→(l.flatMap codeU++t).length<4000000 →
  z1w.l3 k n x (N:Int) (i:Int) (l.flatMap codeU++t,0)=some (x++l,(t,0))
 | 0,i,_,_,h,h',_,_,_,_=>by omega
 | n+1,i,x,[],h,_,hx,_,hc,_=>by
  have hi:N=i:=by simpa using h.symm
  subst hi
  rw [List.append_nil] at hc
  obtain ⟨b1,g1,i1⟩:=trightU2_is k x (by omega) (by omega) hk2
  have hb:b1=true:=i1.2 hc
  subst hb
  rw [z1w.l3_eq,ilt_nn,decide_eq_false (Nat.lt_irrefl _)]
  have bt:bnot true=false:=rfl
  simp only [br_false,fault_is,bnd_some,ieq_dec,decide_true,br_true,g1,bt,List.append_nil,List.flatMap_nil,List.nil_append]
 | n+1,i,x,d::l,h,h',hx,hr,hc,hS=>by
  simp only [List.length_cons] at h
  have hd:=hr d (by simp)
  obtain ⟨hd1,hd2,hd3⟩:=(rightU_iff _).1 hd
  have e4:iadd .i64 (i:Int) 1=((i+1:Nat):Int):=iadd_nat (by omega)
  have ea:(d::l).flatMap codeU++t=codeD d.1++(packB d.2.toNat++(l.flatMap codeU++t)):=by rw [List.flatMap_cons,codeU,List.append_assoc,List.append_assoc]
  rw [ea] at hS ⊢
  have hS2:(packB d.2.toNat++(l.flatMap codeU++t)).length<4000000:=by rw [List.length_append] at hS;omega
  have hS3:(l.flatMap codeU++t).length<4000000:=by rw [List.length_append] at hS2;omega
  rw [z1w.l3_eq,ilt_nn,decide_eq_true (show i<N by omega),back_dot k d.1 _ hd1 h12 hS,e4]
  simp only [br_true,bnd_some]
  rw [back_int k d.2.toNat _ h12 (by omega) hS2]
  simp only [bnd_some]
  rw [room1 (show x.length<4000000 by omega),br_true,Int.toNat_of_nonneg (by omega)]
  have:=back_t3 k h12 N hN hNk hk2 t n (i+1) (app x (d::[])) l (by omega) (by omega) (by simp [app,hx]) (fun e he=>hr e (List.mem_cons_of_mem _ he)) (by unfold app;rw [List.append_assoc];exact hc) hS3
  refine this.trans ?_
  simp [app]
theorem back_tally (k:Nat) (l:List Undo) (most:Int) (t:List UInt8) (hc:CanU l) (hm:(l.length:Int)≤most) (hk:12<k) (hl:l.length<k) (hk2:k<1000000) (hS:(codeT l++t).length<4000000) :
  z1w.f k most (codeT l++t,0)=some (l,(t,0)):=by
 have ea:codeT l++t=packB l.length++(l.flatMap codeU++t):=by unfold codeT;rw [List.append_assoc]
 rw [ea] at hS ⊢
 have hS2:(l.flatMap codeU++t).length<4000000:=by rw [List.length_append] at hS;omega
 have hlen:=codes_len codeU codeU_pos l
 rw [z1w.f_eq,back_many k _ most _ hk (by omega) hm (by rw [List.length_append];omega) hS]
 simp only [bnd_some]
 exact back_t3 k hk l.length (by omega) (by omega) hk2 t k 0 [] l (by omega) (by omega) rfl hc.rt hc hS2
end Go.Proofs.YtggcagclpkhlhaaGreatDoor
end
noncomputable section
/- How long a transaction's parts are. -/
namespace Go.Proofs.YtggcagclpkhlhaaGreatDoor
open Pal
structure SizT (k:Nat) (t:Txn):Prop where
 ops:t.2.2.2.2.length<k
 each:∀ o ∈ t.2.2.2.2,SizO k o
theorem SizT.len {k:Nat} {t:Txn} (h:SizT k t):LenT k t:=⟨h.ops,fun o ho=>⟨(h.each o ho).names,(h.each o ho).seen⟩⟩
theorem txn_rt (k:Nat) (t:Txn) (h:z1g.f k t=some 0):rightD t.1=true:=by
 rw [z1g.f_eq,rright_is,bnd_some] at h
 cases hr:rightD t.1 with
 | true=>rfl
 | false =>
  rw [hr] at h
  have bf:bnot false=true:=rfl
  rw [bf,br_true] at h
  cases h
theorem SizT.chk {k:Nat} {t:Txn} (h:SizT k t) (hk:10<k) (hk2:k<1000000):∃ e:Int,z1g.f k t=some e∧(e=0→rightD t.1=true):=by
 obtain ⟨e,_,g⟩:=txn_is k t h.each h.ops hk hk2
 exact ⟨e,g,fun he=>txn_rt k t (by rw [g,he])⟩
end Go.Proofs.YtggcagclpkhlhaaGreatDoor
end
noncomputable section
/- Transactions and lists of them: the program and the document read the same. -/
namespace Go.Proofs.YtggcagclpkhlhaaGreatDoor
open Pal
theorem txnr_l (k:Nat) (S:List UInt8) (hS:S.length<5000) (hk:5000<k) (hk2:k<1000000) (N:Nat) (hN:N≤16) (d:Dot) (a b:Int) (c:Bool):∀ (n i:Nat) (l:List Op) (r:Rdr) (x:RefRdr),i≤N→N<n+i→l.length=i→(∀ o ∈ l,SizO k o)→RR S r x →
  ∃ (t:Txn) (r':Rdr) (x':RefRdr),z2G.l7 k n (N:Int) (i:Int) (0,0) 0 0 false [] d a b c l r=some (t,r')∧z1y.l11 k n (N:Int) (i:Int) (0,0) 0 0 false [] d a b c l x=some (t,x')∧RR S r' x'∧SizT k t
 | 0,i,_,_,_,h,h',_,_,_=>by omega
 | n+1,i,l,r,x,h,h',hl,hs,hr=>by
  rw [z2G.l7_eq,z1y.l11_eq,ilt_nn]
  by_cases hi:i<N
  ·obtain ⟨o,r1,x1,e1,e2,h1,so⟩:=opr_is k S r x hr hS hk hk2
   have e4:iadd .i64 (i:Int) 1=((i+1:Nat):Int):=iadd_nat (by omega)
   rw [decide_eq_true hi,e1,e2,e4]
   simp only [br_true,bnd_some,room1 (show l.length<4000000 by omega)]
   exact txnr_l k S hS hk hk2 N hN d a b c n (i+1) _ r1 x1 (by omega) (by omega) (by simp [app,hl]) (fun o' ho=>by
    simp only [app,List.mem_append,List.mem_singleton] at ho
    rcases ho with ho | rfl
    ·exact hs _ ho
    ·exact so) h1
  ·obtain ⟨e,g1,g2⟩:=txn_is k (d,(a,(b,(c,l)))) hs (by show l.length<k;omega) (by omega) hk2
   rw [decide_eq_false hi]
   simp only [br_false,bnd_some,g1,g2,fault_is,fail_is,z0k.f_eq,ieq_dec,bnot_dec,br_dec]
   obtain ⟨s2,c1⟩:=r
   obtain ⟨S2,a2,c2⟩:=x
   have hb:c1=c2:=hr.bad
   subst hb
   have hz0:SizT k ((0,0),(0,(0,(false,[])))):=⟨by show 0<k;omega,fun o ho=>by simp at ho⟩
   by_cases hz:c1=0
   ·subst hz
    simp only [if_true]
    by_cases he:e=0
    ·subst he
     simp only [not_true,if_false,if_true,bnd_some]
     exact ⟨_,_,_,rfl,rfl,hr,⟨by show l.length<k;omega,hs⟩⟩
    ·simp only [he,not_false_eq_true,if_true,bnd_some]
     exact ⟨_,_,_,rfl,rfl,hr.fail he rfl,hz0⟩
   ·simp only [hz,not_false_eq_true,if_true,if_false]
    exact ⟨_,_,_,rfl,rfl,hr,hz0⟩
theorem txnr_is (k : Nat) (S : List UInt8) (r : Rdr) (x : RefRdr) (h : RR S r x) (hS : S.length < 5000) (hk : 5000 < k) (hk2 : k < 1000000) :
    ∃ (t : Txn) (r' : Rdr) (x' : RefRdr), z2G.f k r = some (t, r') ∧ z1y.f k x = some (t, x') ∧ RR S r' x' ∧ SizT k t := by
  obtain ⟨d, r1, x1, e1, e2, h1, _⟩ := dotread_is k S r x h (by omega) (by omega)
  obtain ⟨a, r2, x2, e3, e4, h2, _, _, _⟩ := int_is k S r1 x1 h1 (by omega) (by omega)
  obtain ⟨b, r3, x3, e5, e6, h3, _, _, _⟩ := int_is k S r2 x2 h2 (by omega) (by omega)
  obtain ⟨c, r4, x4, e7, e8, h4, _, _, _⟩ := int_is k S r3 x3 h3 (by omega) (by omega)
  have fin : ∀ (r5 : Rdr) (x5 : RefRdr), RR S r5 x5 → ∃ (t : Txn) (r' : Rdr) (x' : RefRdr),
      (bnd (z0s.f k 16 r5) fun q => z2G.l7 k k q.1 0 (0, 0) 0 0 false [] d a b (ieq c 1) [] q.2) = some (t, r') ∧
      (bnd (z0j.f k 16 x5) fun q => z1y.l11 k k q.1 0 (0, 0) 0 0 false [] d a b (ieq c 1) [] q.2) = some (t, x') ∧ RR S r' x' ∧ SizT k t := by
    intro r5 x5 h5
    obtain ⟨n, r6, x6, f1, f2, h6, n0, n1, nm⟩ := many_is k S 16 r5 x5 h5 (by omega) (by omega)
    obtain ⟨N, rfl⟩ : ∃ N : Nat, n = (N : Int) := ⟨n.toNat, by omega⟩
    have hN : N ≤ 16 := by
      by_cases h0 : N = 0
      · omega
      · have := nm (by omega); omega
    obtain ⟨t, r', x', g1, g2, g3, g4⟩ := txnr_l k S hS hk hk2 N hN d a b (ieq c 1) k 0 [] r6 x6 (by omega) (by omega) rfl (fun o ho => by simp at ho) h6
    rw [f1, f2, bnd_some, bnd_some]
    exact ⟨t, r', x', g1, g2, g3, g4⟩
  rw [z2G.f_eq, z1y.f_eq, e1, e2]
  simp only [bnd_some]
  rw [e3, e4]
  simp only [bnd_some]
  rw [e5, e6]
  simp only [bnd_some]
  rw [e7, e8]
  simp only [bnd_some, fault_is]
  have hb : r4.2 = x4.2.2 := h4.bad
  have hfl : z0o.f k 3 r4 = some ((), if r4.2 = 0 then (r4.1, 3) else r4) := fail_is k 3 r4
  have hfr : z0k.f k 3 x4 = some ((), if r4.2 = 0 then (x4.1, (x4.2.1, 3)) else x4) := by
    rw [z0k.f_eq, ieq_dec, br_dec, ← hb]; split <;> rfl
  rw [hfl, hfr]
  simp only [bnd_some]
  by_cases hz : r4.2 = 0
  · rw [hz, show ieq (0 : Int) 0 = true from rfl, br_true, if_pos rfl, if_pos rfl]
    cases ilt 1 c with
    | true => rw [br_true, br_true]; exact fin _ _ (h4.fail (by decide) (by rw [← hb]; exact hz))
    | false => rw [br_false, br_false]; exact fin _ _ h4
  · rw [ieq_dec, decide_eq_false hz, br_false, if_neg hz]
    cases ilt 1 c with
    | true => rw [br_true]; exact fin _ _ h4
    | false => rw [br_false]; exact fin _ _ h4
theorem tlr_l (k:Nat) (S:List UInt8) (hS:S.length<5000) (hk:5000<k) (hk2:k<1000000) (N:Nat) (hN:N≤S.length):∀ (n i:Nat) (l:List Txn) (r:Rdr) (x:RefRdr),i≤N→N<n+i→l.length=i→(∀ t ∈ l,SizT k t)→RR S r x →
  ∃ (l':List Txn) (r':Rdr) (x':RefRdr),z0U.l3 k n l (N:Int) (i:Int) r=some (l',r')∧z0D.l4 k n (N:Int) l (i:Int) x=some (l',x')∧RR S r' x'∧l'.length≤N∧∀ t ∈ l',SizT k t
 | 0,i,_,_,_,h,h',_,_,_=>by omega
 | n+1,i,l,r,x,h,h',hl,hs,hr=>by
  rw [z0U.l3_eq,z0D.l4_eq,ilt_nn]
  by_cases hi:i<N
  ·obtain ⟨t,r1,x1,e1,e2,h1,st⟩:=txnr_is k S r x hr hS hk hk2
   have e4:iadd .i64 (i:Int) 1=((i+1:Nat):Int):=iadd_nat (by omega)
   rw [decide_eq_true hi,e1,e2,e4]
   simp only [br_true,bnd_some,room1 (show l.length<4000000 by omega)]
   exact tlr_l k S hS hk hk2 N hN n (i+1) _ r1 x1 (by omega) (by omega) (by simp [app,hl]) (fun o' ho=>by
    simp only [app,List.mem_append,List.mem_singleton] at ho
    rcases ho with ho | rfl
    ·exact hs _ ho
    ·exact st) h1
  ·rw [decide_eq_false hi]
   obtain ⟨b1,g1,i1⟩:=trises_is k l (by omega) (by omega) hk2
   obtain ⟨b2,g2,i2⟩:=rrises_is k l (by omega) hk2
   have hbb:b1=b2:=by rw [Bool.eq_iff_iff,i1,i2]
   subst hbb
   simp only [br_false,bnd_some,g1,g2,fault_is,fail_is,ieq_dec,bnot_dec,br_dec]
   obtain ⟨s2,c1⟩:=r
   obtain ⟨S2,a2,c2⟩:=x
   have hb:c1=c2:=hr.bad
   subst hb
   by_cases hz:c1=0
   ·subst hz
    simp only [if_true]
    cases b1 with
    | true =>
     have e:bnot true=false:=rfl
     simp only [e,br_false,not_true,if_false]
     exact ⟨l,_,_,rfl,rfl,hr,by omega,hs⟩
    | false =>
     have e:bnot false=true:=rfl
     simp only [e,br_true]
     exact ⟨[],_,_,rfl,rfl,hr.fail (e:=2) (by decide) rfl,by simp,fun t ht=>by simp at ht⟩
   ·simp only [hz,not_false_eq_true,if_true,if_false]
    exact ⟨[],_,_,rfl,rfl,hr,by simp,fun t ht=>by simp at ht⟩
theorem tlr_is (k:Nat) (S:List UInt8) (most:Int) (r:Rdr) (x:RefRdr) (h:RR S r x) (hS:S.length<5000) (hk:5000<k) (hk2:k<1000000) :
  ∃ (l:List Txn) (r':Rdr) (x':RefRdr),z0U.f k most r=some (l,r')∧z0D.f k most x=some (l,x')∧RR S r' x'∧l.length≤S.length∧∀ t ∈ l,SizT k t:=by
 obtain ⟨n,r1,x1,e1,e2,h1,n0,n1,nm⟩:=many_is k S most r x h (by omega) (by omega)
 rw [z0U.f_eq,z0D.f_eq,e1,e2]
 simp only [bnd_some]
 obtain ⟨N,rfl⟩:∃ N:Nat,n=(N:Int):=⟨n.toNat,by omega⟩
 obtain ⟨l,r',x',g1,g2,g3,g4,g5⟩:=tlr_l k S hS hk hk2 N (by omega) k 0 [] r1 x1 (by omega) (by omega) rfl (fun t ht=>by simp at ht) h1
 exact ⟨l,r',x',g1,g2,g3,by omega,g5⟩
end Go.Proofs.YtggcagclpkhlhaaGreatDoor
end
noncomputable section
/- A state is read: the program and the document do the same. -/
namespace Go.Proofs.YtggcagclpkhlhaaGreatDoor
open Pal
abbrev Rows:=Ty.D (.arr 8 (.slc tDot))
def emptyS:Sta:=([],([],((zarr 16 0,[]),((zarr 16 0,[]),zarr 8 []))))
theorem emptyS_len (n:Nat):LenS n emptyS:=⟨by simp [emptyS],by simp [emptyS],by simp [emptyS],by simp [emptyS],fun l hl=>by
 have:l=[]:=by
  have:l ∈ List.replicate 8 ([]:List Dot):=hl
  exact (List.mem_replicate.1 this).2
 subst this;simp⟩
theorem upd_mem {R:List (List Dot)} {i n:Nat} {l:List Dot} (h:∀ l ∈ R,l.length≤n) (hl:l.length≤n):∀ l' ∈ R.set i l,l'.length≤n:=by
 intro l' hl'
 rcases List.mem_or_eq_of_mem_set hl' with h1 | rfl
 ·exact h _ h1
 ·exact hl
theorem sta_fin (k:Nat) (S:List UInt8) (hS:S.length<5000) (hk:5000<k) (hk2:k<1000000) (L:List Txn) (U:List Undo) (E:DSet) (R:List (List Dot)) (hL:L.length≤S.length) (hT:∀ t ∈ L,SizT k t) (hU:U.length≤S.length) (hE:E.2.length≤S.length) (hE1:E.1.length=16) (hR:R.length=8) (hRl:∀ l ∈ R,l.length≤S.length) (r:Rdr) (x:RefRdr) (hr:RR S r x) :
  ∃ (s:Sta) (r':Rdr) (x':RefRdr),
  (bnd (z1d.f k L) fun r1 =>
  bnd (z2S.f k r1) fun r2 =>
  bnd (z0i.f k r) fun r3 =>
  br (ieq r3.1 0)
   (bnd (z1p.f k (L,(U,(r2,(E,R))))) fun r4 =>
   br (bnot r4)
    (bnd (z0o.f k 2 r3.2) fun r5 =>
    bnd (z0i.f k r5.2) fun r6 =>
    br (bnot (ieq r6.1 0))
     (some (([],([],(((zarr 16 0),[]),(((zarr 16 0),[]),(zarr 8 []))))),r6.2))
     (some ((L,(U,(r2,(E,R)))),r6.2)))
    (bnd (z0i.f k r3.2) fun r7 =>
    br (bnot (ieq r7.1 0))
     (some (([],([],(((zarr 16 0),[]),(((zarr 16 0),[]),(zarr 8 []))))),r7.2))
     (some ((L,(U,(r2,(E,R)))),r7.2))))
   (bnd (z0i.f k r3.2) fun r8 =>
   br (bnot (ieq r8.1 0))
    (some (([],([],(((zarr 16 0),[]),(((zarr 16 0),[]),(zarr 8 []))))),r8.2))
    (some ((L,(U,(r2,(E,R)))),r8.2))))=some (s,r') ∧
  (bnd (z10.f k L) fun r1 =>
  br (ieq x.2.2 0)
   (bnd (z0X.f k (L,(U,(r1,(E,R))))) fun r2 =>
   br (bnot r2)
    (some (([],([],(((zarr 16 0),[]),(((zarr 16 0),[]),(zarr 8 []))))),(x.1,(x.2.1,2))))
    (br (bnot (ieq x.2.2 0))
     (some (([],([],(((zarr 16 0),[]),(((zarr 16 0),[]),(zarr 8 []))))),x))
     (some ((L,(U,(r1,(E,R)))),x))))
   (br (bnot (ieq x.2.2 0))
    (some (([],([],(((zarr 16 0),[]),(((zarr 16 0),[]),(zarr 8 []))))),x))
    (some ((L,(U,(r1,(E,R)))),x))))=some (s,x') ∧
  RR S r' x'∧LenS S.length s∧(∀ t ∈ s.1,SizT k t)∧s.2.2.2.2.length=8∧(x'.2.2=0→RightS k s)∧s.2.2.1.1.length=16∧s.2.2.2.1.1.length=16:=by
 obtain ⟨oc,_,ol⟩:=ofD_can (dotsOf L)
 have hdl:(dotsOf L).length=L.length:=by unfold dotsOf;rw [List.length_map]
 have hol:(ofD (dotsOf L)).1.length=16:=oc.vok.len
 obtain ⟨b1,g1,i1⟩:=state_is k (L,(U,(ofD (dotsOf L),(E,R)))) hol hE1 hR (fun t ht=>⟨(hT t ht).ops,(hT t ht).each⟩) (fun l hl=>by have:=hRl l hl;omega) (by show U.length<k;omega) (by show (ofD (dotsOf L)).2.length<k;omega) hk hk2
 obtain ⟨b2,g2,i2⟩:=rrightS_isG k (L,(U,(ofD (dotsOf L),(E,R)))) hol hE1 hR (fun t ht=>(hT t ht).chk (by omega) hk2) (fun l hl=>by have:=hRl l hl;omega) (by show U.length<k;omega) hk hk2
 have hbb:b1=b2:=by rw [Bool.eq_iff_iff,i1,i2]
 subst hbb
 rw [names_is k L (by omega) hk2,known_isG k L (by omega) hk2,known_ofD]
 simp only [bnd_some]
 rw [of_is k _ (by omega) hk2]
 simp only [bnd_some]
 rw [g1,g2]
 simp only [bnd_some,fault_is,fail_is,ieq_dec,bnot_dec,br_dec]
 have ls:LenS S.length (L,(U,(ofD (dotsOf L),(E,R)))):=⟨hL,hU,by show (ofD (dotsOf L)).2.length≤_;omega,hE,hRl⟩
 have e8:emptyS.2.2.2.2.length=8:=by simp [emptyS,zarr]
 obtain ⟨s2,c1⟩:=r
 obtain ⟨S2,a2,c2⟩:=x
 have hb:c1=c2:=hr.bad
 subst hb
 by_cases hz:c1=0
 ·subst hz
  simp only [if_true]
  cases b1 with
  | true =>
   have e:bnot true=false:=rfl
   simp only [e,br_false,not_true,if_false]
   exact ⟨_,_,_,rfl,rfl,hr,ls,hT,hR,fun _=>i1.1 rfl,hol,hE1⟩
  | false =>
   have e:bnot false=true:=rfl
   simp only [e,br_true]
   exact ⟨emptyS,_,_,rfl,rfl,hr.fail (e:=2) (by decide) rfl,emptyS_len _,fun t ht=>by simp [emptyS] at ht,e8,fun hh=>(by cases hh),rfl,rfl⟩
 ·simp only [hz,not_false_eq_true,if_true,if_false]
  exact ⟨emptyS,_,_,rfl,rfl,hr,emptyS_len _,fun t ht=>by simp [emptyS] at ht,e8,fun hh=>absurd hh hz,rfl,rfl⟩
theorem star_l (k:Nat) (S:List UInt8) (hS:S.length<5000) (hk:5000<k) (hk2:k<1000000) (L:List Txn) (U:List Undo) (E:DSet) (hL:L.length≤S.length) (hT:∀ t ∈ L,SizT k t) (hU:U.length≤S.length) (hE:E.2.length≤S.length) (hE1:E.1.length=16):∀ (n i:Nat) (R:List (List Dot)) (r:Rdr) (x:RefRdr),i≤8→8<n+i→R.length=8→(∀ l ∈ R,l.length≤S.length)→RR S r x →
  ∃ (s:Sta) (r':Rdr) (x':RefRdr),z27.l3 k n (i:Int) [] [] (zarr 16 0) [] (zarr 16 0) [] (zarr 8 []) L U (zarr 16 0) [] (E,R) r=some (s,r')∧z1L.l6 k n (i:Int) [] [] (zarr 16 0) [] (zarr 16 0) [] (zarr 8 []) L U (zarr 16 0) [] (E,R) x=some (s,x')∧RR S r' x'∧LenS S.length s∧(∀ t ∈ s.1,SizT k t)∧s.2.2.2.2.length=8∧(x'.2.2=0→RightS k s)∧s.2.2.1.1.length=16∧s.2.2.2.1.1.length=16
 | 0,i,_,_,_,h,h',_,_,_=>by omega
 | n+1,i,R,r,x,h,h',hR,hRl,hr=>by
  rw [z27.l3_eq,z1L.l6_eq,show ilt (i:Int) 8=decide (i<8) from ilt_nn i 8,inB_nat,natOf_nat]
  by_cases hi:i<8
  ·obtain ⟨l,r1,x1,e1,e2,h1,hl,_⟩:=lread_is k S 1000 r x hr (by omega) (by omega) (by omega)
   have e4:iadd .i64 (i:Int) 1=((i+1:Nat):Int):=iadd_nat (by omega)
   rw [decide_eq_true hi,e1,e2,e4]
   simp only [br_true,bnd_some]
   exact star_l k S hS hk hk2 L U E hL hT hU hE hE1 n (i+1) _ r1 x1 (by omega) (by omega) (by simp [upd,hR]) (upd_mem hRl hl) h1
  ·rw [decide_eq_false hi,br_false,br_false]
   exact sta_fin k S hS hk hk2 L U E R hL hT hU hE hE1 hR hRl r x hr
theorem star_is (k:Nat) (S:List UInt8) (r:Rdr) (x:RefRdr) (h:RR S r x) (hS:S.length<5000) (hk:5000<k) (hk2:k<1000000) :
  ∃ (s:Sta) (r':Rdr) (x':RefRdr),z27.f k r=some (s,r')∧z1L.f k x=some (s,x')∧RR S r' x'∧LenS S.length s∧(∀ t ∈ s.1,SizT k t)∧s.2.2.2.2.length=8∧(x'.2.2=0→RightS k s)∧s.2.2.1.1.length=16∧s.2.2.2.1.1.length=16:=by
 obtain ⟨L,r1,x1,e1,e2,h1,hL,hT⟩:=tlr_is k S 1000 r x h hS hk hk2
 obtain ⟨U,r2,x2,e3,e4,h2,hU⟩:=tread_is k S 1048576 r1 x1 h1 hS hk hk2
 obtain ⟨E,r3,x3,e5,e6,h3,hE,hE1,_⟩:=dread_is k S r2 x2 h2 hS hk hk2
 rw [z27.f_eq,z1L.f_eq,e1,e2]
 simp only [bnd_some]
 rw [e3,e4]
 simp only [bnd_some]
 rw [e5,e6]
 simp only [bnd_some]
 exact star_l k S hS hk hk2 L U E hL hT hU hE hE1 k 0 (zarr 8 []) r3 x3 (by omega) (by omega) (by simp [zarr]) (emptyS_len S.length).re h3
end Go.Proofs.YtggcagclpkhlhaaGreatDoor
end
noncomputable section
/- What is told of texts, paths, values and operations is read again. -/
namespace Go.Proofs.YtggcagclpkhlhaaGreatDoor
open Pal
def codeX (s:Str):List UInt8:=packB (List.length s)++s
theorem codeX_len (s:Str) (h:List.length s<1000000):(codeX s).length≤8+List.length s:=by
 have:=packB_le (n:=List.length s) (by omega)
 unfold codeX;rw [List.length_append];omega
theorem codeX_pos (s:Str):0<(codeX s).length:=by
 unfold codeX;rw [List.length_append];have:=packB_pos (List.length s);omega
theorem text_code (k:Nat) (s:Str) (h:List.length s<1000000):z2a.f k s=some (codeX s):=by
 have e:(ilen s).toNat=List.length s:=rfl
 have hp:=packB_le (n:=List.length s) (by omega)
 rw [z2a.f_eq,packI_is (n:=ilen s) (by unfold ilen;omega),e,bnd_some,roomS_ok (by omega) (by omega)];rfl
theorem back_text (k:Nat) (s:Str) (t:List UInt8) (hk:12<k) (hS:(codeX s++t).length<4000000):z0w.f k (codeX s++t,0)=some (s,(t,0)):=by
 have ea:codeX s++t=packB (List.length s)++(s++t):=by unfold codeX;rw [List.append_assoc]
 rw [ea] at hS ⊢
 have hl:List.length s≤(s++t).length:=by rw [List.length_append];omega
 have hS2:(s++t).length<4000000:=by rw [List.length_append] at hS;omega
 have e1:ilt (ilen (s++t)) (List.length s:Int)=false:=by unfold ilt ilen;exact decide_eq_false (by omega)
 have i1:inS 0 (List.length s:Int) (ilen (s++t))=true:=inS_nn (a:=0) (by omega) hl
 have i2:inS (List.length s:Int) (ilen (s++t)) (ilen (s++t))=true:=inS_nn (b:=(s++t).length) (c:=(s++t).length) hl (by omega)
 have p1:piece (s++t) 0 (List.length s:Int)=s:=by unfold piece;simp
 have p2:piece (s++t) (List.length s:Int) (ilen (s++t))=t:=by
  unfold piece ilen;rw [Int.toNat_natCast,Int.toNat_natCast,List.take_length];simp
 have bt:bnot true=false:=rfl
 rw [z0w.f_eq,back_int k _ _ hk (by omega) hS]
 simp only [bnd_some,fine_is,decide_true,br_true,e1,br_false,bt,i1,i2,p1,p2]
def codeP (p:List Str):List UInt8:=packB p.length++p.flatMap codeX
theorem codeP_le {p:List Str} (h:ShortP p):(codeP p).length≤1544:=by
 have hp:=packB_le (n:=p.length) (by have:=h.1;omega)
 have:=codes_le codeX 128 p (fun s hs=>by have h1:=h.2 s hs;have:=codeX_len s (by omega);omega)
 have h1:=h.1
 unfold codeP;rw [List.length_append];omega
theorem pcode_l (k:Nat) (p:List Str) (hs:∀ s ∈ p,List.length s≤120) (hl:p.length<10000):∀ (n i:Nat) (x:List UInt8),i≤p.length→p.length<n+i→x.length≤100+128 * i→z2h.l3 k n x p (ilen p) (i:Int)=some (x++(p.drop i).flatMap codeX)
 | 0,i,_,h,h',_=>by omega
 | n+1,i,x,h,h',hx=>by
  rw [z2h.l3_eq,ilt_nat,inL_nat,natOf_nat]
  by_cases hi:i<p.length
  ·have hd:=hs p[i] (List.getElem_mem hi)
   have hp:=codeX_len p[i] (by omega)
   have e4:iadd .i64 (i:Int) 1=((i+1:Nat):Int):=iadd_nat (by omega)
   have ed:p.drop i=p[i]::p.drop (i+1):=List.drop_eq_getElem_cons hi
   rw [decide_eq_true hi,rd_at' (e:=.str) hi,text_code k _ (by omega),e4,ed,List.flatMap_cons]
   simp only [br_true,bnd_some]
   rw [roomS_ok (by omega) (by omega),br_true]
   refine (pcode_l k p hs hl n (i+1) _ (by omega) (by omega) (by unfold app;rw [List.length_append];omega)).trans ?_
   unfold app;rw [List.append_assoc]
  ·have e0:p.drop i=[]:=List.drop_eq_nil_of_le (by omega)
   rw [decide_eq_false hi,br_false,e0];simp
theorem pcode_is (k:Nat) {p:List Str} (h:ShortP p) (hk:12<k) (hk2:k<1000000):z2h.f k p=some (codeP p):=by
 have h1:=h.1
 have e:(ilen p).toNat=p.length:=rfl
 have hp:=packB_le (n:=p.length) (by omega)
 rw [z2h.f_eq,packI_is (n:=ilen p) (by unfold ilen;omega),e,bnd_some]
 exact pcode_l k p h.2 (by omega) k 0 _ (by omega) (by omega) (by omega)
theorem back_p3 (k:Nat) (hk:12<k) (N:Nat) (hN:N<10000) (t:List UInt8) (p:List Str) (hc:z1T.f k p=some 0):∀ (n i:Nat) (x l:List Str),i+l.length=N→N<n+i→x.length=i→x++l=p→(l.flatMap codeX++t).length<4000000 →
  z2d.l3 k n x (N:Int) (i:Int) (l.flatMap codeX++t,0)=some (p,(t,0))
 | 0,i,_,_,h,h',_,_,_=>by omega
 | n+1,i,x,[],h,_,_,hp,_=>by
  have hi:N=i:=by simpa using h.symm
  subst hi
  rw [List.append_nil] at hp
  subst hp
  rw [z2d.l3_eq,ilt_nn,decide_eq_false (Nat.lt_irrefl _)]
  have bt:bnot true=false:=rfl
  simp only [br_false,fault_is,bnd_some,ieq_dec,decide_true,br_true,hc,fail_is,if_true,bt,List.append_nil,List.flatMap_nil,List.nil_append]
 | n+1,i,x,d::l,h,h',hx,hp,hS=>by
  simp only [List.length_cons] at h
  have e4:iadd .i64 (i:Int) 1=((i+1:Nat):Int):=iadd_nat (by omega)
  have ea:(d::l).flatMap codeX++t=codeX d++(l.flatMap codeX++t):=by rw [List.flatMap_cons,List.append_assoc]
  rw [ea] at hS ⊢
  have hS2:(l.flatMap codeX++t).length<4000000:=by rw [List.length_append] at hS;omega
  rw [z2d.l3_eq,ilt_nn,decide_eq_true (show i<N by omega),back_text k d _ hk hS,e4]
  simp only [br_true,bnd_some,room1 (show x.length<4000000 by omega)]
  exact back_p3 k hk N hN t p hc n (i+1) (app x (d::[])) l (by omega) (by omega) (by simp [app,hx]) (by unfold app;rw [List.append_assoc];exact hp) hS2
theorem back_path (k:Nat) (p:List Str) (t:List UInt8) (hc:z1T.f k p=some 0) (hm:p.length≤8) (hk:12<k) (hk2:k<1000000) (hS:(codeP p++t).length<4000000) :
  z2d.f k (codeP p++t,0)=some (p,(t,0)):=by
 have ea:codeP p++t=packB p.length++(p.flatMap codeX++t):=by unfold codeP;rw [List.append_assoc]
 rw [ea] at hS ⊢
 have hS2:(p.flatMap codeX++t).length<4000000:=by rw [List.length_append] at hS;omega
 have hlen:=codes_len codeX codeX_pos p
 rw [z2d.f_eq,back_many k _ 8 _ hk (by omega) (by omega) (by rw [List.length_append];omega) hS]
 simp only [bnd_some]
 exact back_p3 k hk p.length (by omega) t p hc k 0 [] p (by omega) (by omega) rfl rfl hS2
def foldN (i:Int):Nat:=if i<0 then (-2 * i - 1).toNat else (2 * i).toNat
theorem foldN_le {i:Int} (h1:-2147483647≤i) (h2:i≤2147483647):foldN i<72057594037927936:=by
 unfold foldN;split <;> omega
theorem fold_is (k:Nat) (i:Int) (h1:-2147483647≤i) (h2:i≤2147483647):z1N.f k i=some ((foldN i:Nat):Int):=by
 rw [z1N.f_eq]
 unfold foldN
 by_cases h:i<0
 ·have m:imul .i64 (-2) i=-2 * i:=by
   show IntKind.wrap .i64 (-2 * i)=_
   rw [wrap64 (by omega) (by omega)]
  have s:isub .i64 (-2 * i) 1=-2 * i - 1:=by
   show IntKind.wrap .i64 (-2 * i - 1)=_
   rw [wrap64 (by omega) (by omega)]
  rw [show ilt i 0=true from decide_eq_true h,br_true,m,s,if_pos h,Int.toNat_of_nonneg (by omega)]
 ·have m:imul .i64 2 i=2 * i:=by
   show IntKind.wrap .i64 (2 * i)=_
   rw [wrap64 (by omega) (by omega)]
  rw [show ilt i 0=false from decide_eq_false h,br_false,m,if_neg h,Int.toNat_of_nonneg (by omega)]
theorem unf_fold (i:Int) (h1:-2147483647≤i) (h2:i≤2147483647):unf (foldN i)=i:=by
 unfold unf foldN
 by_cases h:i<0
 ·rw [if_pos h]
  obtain ⟨m,hm⟩:∃ m:Nat,i=-((m:Int)+1):=⟨(-i - 1).toNat,by omega⟩
  have e:(-2 * i - 1).toNat=2 * m+1:=by omega
  rw [e,if_neg (by omega)];omega
 ·rw [if_neg h]
  obtain ⟨m,hm⟩:∃ m:Nat,i=(m:Int):=⟨i.toNat,by omega⟩
  have e:(2 * i).toNat=2 * m:=by omega
  rw [e,if_pos (by omega)];omega
structure ValOK (v:Val):Prop where
 kind:1≤v.1∧v.1≤3
 text:v.1=2→v.2.1=0
 num:v.1 ≠ 2→v.2.2=[]∧-2147483647≤v.2.1∧v.2.1≤2147483647
theorem seq_nil {s:Str} (h:seq s []=true):s=[]:=by
 cases s with
 | nil=>rfl
 | cons a l=>cases h
theorem val_ok (k:Nat) (v:Val) (h:z15.f k v=some true):ValOK v:=by
 rw [z15.f_eq] at h
 obtain ⟨K,A,s⟩:=v
 simp only at h
 by_cases h1:K=1
 ·subst h1
  rw [show ieq (1:Int) 1=true from rfl,br_true] at h
  cases hq:seq s [] with
  | false=>rw [hq,br_false] at h;cases h
  | true =>
   rw [hq,br_true,show ile (-2147483647) A=decide (-2147483647≤A) from rfl] at h
   by_cases h2:-2147483647≤A
   ·rw [decide_eq_true h2,br_true] at h
    injection h with h
    exact ⟨by show (1:Int)≤1∧(1:Int)≤3;decide,fun h=>(by cases h),fun _=>⟨seq_nil hq,h2,of_decide_eq_true h⟩⟩
   ·rw [decide_eq_false h2,br_false] at h;cases h
 by_cases h2:K=2
 ·subst h2
  rw [show ieq (2:Int) 1=false from rfl,show ieq (2:Int) 2=true from rfl,br_false,br_true] at h
  refine ⟨by show (1:Int)≤2∧(2:Int)≤3;decide,fun _=>?_,fun h=>absurd rfl h⟩
  cases hr:runesB s with
  | none=>rw [hr] at h;cases h
  | some r =>
   rw [hr,bnd_some] at h
   cases h2:r.2 with
   | false=>rw [h2,br_false] at h;cases h
   | true =>
    rw [h2,br_true,ieq_dec] at h
    by_cases h0:A=0
    ·exact h0
    ·rw [decide_eq_false h0,br_false] at h;cases h
 by_cases h3:K=3
 ·subst h3
  rw [show ieq (3:Int) 1=false from rfl,show ieq (3:Int) 2=false from rfl,show ieq (3:Int) 3=true from rfl,br_false,br_false,br_true] at h
  cases hq:seq s [] with
  | false=>rw [hq,br_false] at h;cases h
  | true =>
   rw [hq,br_true,ieq_dec] at h
   refine ⟨by show (1:Int)≤3∧(3:Int)≤3;decide,fun h=>(by cases h),fun _=>⟨seq_nil hq,?_⟩⟩
   show -2147483647≤A∧A≤2147483647
   by_cases h0:A=0
   ·omega
   ·rw [decide_eq_false h0,br_false,ieq_dec] at h
    injection h with h
    have:=of_decide_eq_true h
    omega
 ·have f:∀ c:Int,K ≠ c→ieq K c=false:=fun c hc=>by rw [ieq_dec];exact decide_eq_false hc
  rw [f 1 h1,f 2 h2,f 3 h3,br_false,br_false,br_false] at h
  cases h
def codeVal (v:Val):List UInt8:=packB v.1.toNat++(if v.1=2 then codeX v.2.2 else packB (foldN v.2.1))
theorem codeVal_le {v:Val} (hv:ValOK v) (hl:v.2.2.length≤200):(codeVal v).length≤216:=by
 have h1:=hv.kind
 have p1:=packB_le (n:=v.1.toNat) (by omega)
 unfold codeVal;rw [List.length_append]
 split
 ·have:=codeX_len v.2.2 (by omega);omega
 ·rename_i h2
  obtain ⟨_,a,b⟩:=hv.num h2
  have:=packB_le (foldN_le a b);omega
theorem vacode_is (k:Nat) {v:Val} (hv:ValOK v) (hl:v.2.2.length≤200):z26.f k v=some (codeVal v):=by
 have h1:=hv.kind
 have p1:=packB_le (n:=v.1.toNat) (by omega)
 unfold codeVal
 rw [z26.f_eq,packI_is (n:=v.1) (by omega),ieq_dec]
 by_cases h2:v.1=2
 ·have:=codeX_len v.2.2 (by omega)
  rw [decide_eq_true h2,br_true,bnd_some,text_code k _ (by omega),bnd_some,roomS_ok (by omega) (by omega),br_true,if_pos h2];rfl
 ·obtain ⟨_,a,b⟩:=hv.num h2
  have hb:=foldN_le a b
  have:=packB_le hb
  rw [decide_eq_false h2,br_false,bnd_some,fold_is k _ a b,bnd_some,packI_is (n:=((foldN v.2.1:Nat):Int)) (by omega),Int.toNat_natCast,bnd_some,roomS_ok (by omega) (by omega),br_true,if_neg h2];rfl
theorem back_val (k:Nat) {v:Val} (t:List UInt8) (h:z15.f k v=some true) (hk:12<k) (hS:(codeVal v++t).length<4000000):z1J.f k (codeVal v++t,0)=some (v,(t,0)):=by
 have hv:=val_ok k v h
 have h1:=hv.kind
 have e1:((v.1.toNat:Nat):Int)=v.1:=Int.toNat_of_nonneg (by omega)
 have bt:bnot true=false:=rfl
 by_cases h2:v.1=2
 ·have ea:codeVal v++t=packB v.1.toNat++(codeX v.2.2++t):=by unfold codeVal;rw [if_pos h2,List.append_assoc]
  rw [ea] at hS ⊢
  have hS2:(codeX v.2.2++t).length<4000000:=by rw [List.length_append] at hS;omega
  have ev:(v.1,((0:Int),v.2.2))=v:=by rw [← hv.text h2]
  rw [z1J.f_eq,back_int k _ _ hk (by omega) hS,e1]
  simp only [bnd_some]
  rw [ieq_dec,decide_eq_true h2,br_true,back_text k _ _ hk hS2]
  simp only [bnd_some]
  rw [ev,h]
  simp only [bnd_some,fault_is,ieq_dec,decide_true,br_true,bt,br_false]
 ·obtain ⟨e0,a,b⟩:=hv.num h2
  have hb:=foldN_le a b
  have ea:codeVal v++t=packB v.1.toNat++(packB (foldN v.2.1)++t):=by unfold codeVal;rw [if_neg h2,List.append_assoc]
  rw [ea] at hS ⊢
  have hS2:(packB (foldN v.2.1)++t).length<4000000:=by rw [List.length_append] at hS;omega
  obtain ⟨u1,_⟩:=unfold_is k (foldN v.2.1) hb
  rw [unf_fold _ a b] at u1
  have ev:(v.1,(v.2.1,([]:Str)))=v:=by rw [← e0]
  rw [z1J.f_eq,back_int k _ _ hk (by omega) hS,e1]
  simp only [bnd_some]
  rw [ieq_dec,decide_eq_false h2,br_false,back_int k _ _ hk hb hS2]
  simp only [bnd_some]
  rw [u1]
  simp only [bnd_some]
  rw [ev,h]
  simp only [bnd_some,fault_is,ieq_dec,decide_true,br_true,bt,br_false]
end Go.Proofs.YtggcagclpkhlhaaGreatDoor
end
