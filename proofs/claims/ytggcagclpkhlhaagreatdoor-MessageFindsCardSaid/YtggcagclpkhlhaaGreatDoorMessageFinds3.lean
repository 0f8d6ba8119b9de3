/- The functions that the statement reaches, and what they come to. Part 3. -/
import Derived.KernelRfl
import Derived.PinnedBridge
import Derived.Lib.LaidU8T
import Derived.MakeChecks
import Derived.Test.YtggcagclpkhlhaaGreatDoorFw1
import Derived.Test.YtggcagclpkhlhaaGreatDoorFw2
import Derived.Test.YtggcagclpkhlhaaGreatDoorFw3
import Derived.Test.YtggcagclpkhlhaaGreatDoorMessageFinds1
import Derived.Test.YtggcagclpkhlhaaGreatDoorMessageFinds2
set_option linter.unusedVariables false
set_option linter.unusedSimpArgs false
set_option linter.unusedSectionVars false
noncomputable section
/- Names and values: the program's tests are the document's. -/
namespace Go.Proofs.YtggcagclpkhlhaaGreatDoor
open Pal
theorem bget (s:Str) (j:Nat):((⟨s.toArray⟩:ByteArray).get! j).toNat=byt s j:=by
 unfold byt
 show (s.toArray.getD j default).toNat=_
 rw [Array.getD_eq_getD_getElem?,List.getElem?_toArray,← List.getD_eq_getElem?_getD];rfl
theorem byt_drop (s:Str) (i j:Nat):byt (s.drop i) j=byt s (i+j):=by
 unfold byt
 rw [List.getD_eq_getElem?_getD,List.getD_eq_getElem?_getD,List.getElem?_drop]
theorem piece_drop (s:Str) (i:Nat):piece s (i:Int) (ilen s)=s.drop i:=by
 unfold piece ilen
 rw [Int.toNat_natCast,Int.toNat_natCast,List.take_length]
theorem rchar_at (k:Nat) (s:Str) (i:Nat) (hi:i<s.length) (hk:10<k) :
  z1r.f k (piece s (i:Int) (ilen s))=some (if badAt ⟨s.toArray⟩ i=true then (0,0) else (((Go.Utf8.decode ⟨s.toArray⟩ i).1:Int),((Go.Utf8.decode ⟨s.toArray⟩ i).2:Int))):=by
 have hne:s.drop i ≠ []:=fun h=>by have:=congrArg List.length h;rw [List.length_drop,List.length_nil] at this;omega
 have hd:Go.Utf8.decode ⟨s.toArray⟩ i=Go.Lib.decodeN (s.length - i) (byt s i) (byt s (i+1)) (byt s (i+2)) (byt s (i+3)):=by
  rw [Go.Lib.decode_at,bget,bget,bget,bget];rfl
 rw [piece_drop,rchar_eq k _ hk hne,refN_eq _ _ _ _ _ (by rw [List.length_drop];omega) (byt_lt _ _) (byt_lt _ _) (byt_lt _ _) (byt_lt _ _),List.length_drop,byt_drop,byt_drop,byt_drop,byt_drop,Nat.add_zero]
 unfold charN badAt
 rw [← hd]
 by_cases h:(Go.Utf8.decode ⟨s.toArray⟩ i).1=65533∧(Go.Utf8.decode ⟨s.toArray⟩ i).2≤1
 ·rw [if_pos h,if_pos (by rw [decide_eq_true h.1,decide_eq_true h.2];rfl)];rfl
 ·rw [if_neg h,if_neg (fun hh=>h (by simpa using hh))]
theorem rrunes_l (k:Nat) (s:Str) (hk:10<k) (hs:s.length<1000000):∀ (f n i:Nat) (x:List Int),s.length≤f+i→s.length<n+i→i≤s.length→x.length≤i →
  z0T.l3 k n s x (i:Int)=some (match runesX ⟨s.toArray⟩ f i with | some l=>(x++l,true) | none=>([],false))
 | f,0,i,x,_,h,_,_=>by omega
 | 0,n+1,i,x,h0,h,hi,hx=>by
  have e:i=s.length:=by omega
  subst e
  rw [z0T.l3_eq,ilt_nat,decide_eq_false (Nat.lt_irrefl _),br_false]
  show some (x,true)=some (x++[],true)
  rw [List.append_nil]
 | f+1,n+1,i,x,h0,h,hi,hx=>by
  have hsz:(⟨s.toArray⟩:ByteArray).size=s.length:=by simp [ByteArray.size]
  rw [z0T.l3_eq,ilt_nat]
  by_cases hl:i<s.length
  ·have hin:inS (i:Int) (ilen s) (ilen s)=true:=by
    have h1:(i:Int)≤(s.length:Int):=by omega
    show (decide ((0:Int)≤(i:Int)) && decide ((i:Int)≤(s.length:Int)) && decide ((s.length:Int)≤(s.length:Int)))=true
    rw [decide_eq_true h1,decide_eq_true (show (0:Int)≤(i:Int) by omega),decide_eq_true (Int.le_refl _)];rfl
   have hw:=rwidth_pos ⟨s.toArray⟩ i (by rw [hsz];exact hl)
   obtain ⟨c,q,hc,q0,q1⟩:=rchar_is k (piece s (i:Int) (ilen s)) hk (by rw [piece_drop,List.length_drop];omega)
   rw [piece_drop,List.length_drop] at q1
   have hr:=rchar_at k s i hl hk
   rw [runesX,if_pos (by rw [hsz];exact hl),decide_eq_true hl,br_true,hin,br_true,hr,bnd_some]
   by_cases hb:badAt ⟨s.toArray⟩ i=true
   ·rw [if_pos hb,if_pos hb];rfl
   ·rw [if_neg hb,if_neg hb]
    rw [hr,if_neg hb] at hc
    injection hc with hc
    have hq:((Go.Utf8.decode ⟨s.toArray⟩ i).2:Int)=q:=congrArg Prod.snd hc
    have e0:ieq ((Go.Utf8.decode ⟨s.toArray⟩ i).2:Int) 0=false:=by rw [ieq_dec];exact decide_eq_false (by omega)
    have e3:iadd .i64 (i:Int) ((Go.Utf8.decode ⟨s.toArray⟩ i).2:Int)=((i+(Go.Utf8.decode ⟨s.toArray⟩ i).2:Nat):Int):=by rw [iadd_s (by omega) (by omega) (by omega) (by omega)];omega
    rw [show ieq ((((Go.Utf8.decode ⟨s.toArray⟩ i).1:Int),((Go.Utf8.decode ⟨s.toArray⟩ i).2:Int)):Int × Int).2 0=false from e0,br_false,room1 (show x.length<4000000 by omega),br_true]
    show z0T.l3 k n s _ (iadd .i64 (i:Int) ((Go.Utf8.decode ⟨s.toArray⟩ i).2:Int))=_
    rw [e3,rrunes_l k s hk hs f n _ _ (by omega) (by omega) (by omega) (by simp only [app,List.length_append,List.length_cons,List.length_nil];omega)]
    cases runesX ⟨s.toArray⟩ f (i+(Go.Utf8.decode ⟨s.toArray⟩ i).2) with
    | none=>rfl
    | some l=>simp [app]
  ·have e:i=s.length:=by omega
   subst e
   rw [decide_eq_false hl,br_false,runesX,if_neg (by rw [hsz];omega)]
   show some (x,true)=some (x++[],true)
   rw [List.append_nil]
theorem runes_is (k:Nat) (s:Str) (hk:10<k) (hs:s.length<k) (hk2:k<1000000):z0T.f k s=runesB s:=by
 have h:=rrunes_l k s hk (by omega) s.length k 0 [] (by omega) (by omega) (by omega) (by simp)
 have hz:Nat.ble s.length 1099511627776=true:=Nat.ble_eq_true_of_le (by omega)
 rw [z0T.f_eq]
 refine h.trans ?_
 unfold runesB
 rw [hz,cond_true];rfl
theorem may_is (k:Nat) (c:Int):z2c.f k c=some (mayB c):=by
 rw [z2c.f_eq,show ilt c 32=decide (c<32) from rfl]
 unfold mayB
 by_cases h1:c<32
 ·rw [decide_eq_true h1,br_true,br_true];rfl
 ·rw [decide_eq_false h1,br_false,show ile 127 c=decide (127≤c) from rfl,show ilt c 160=decide (c<160) from rfl,ieq_dec,bnot_dec]
  by_cases h2:127≤c
  ·rw [decide_eq_true h2,br_true]
   by_cases h3:c<160
   ·rw [decide_eq_true h3,br_true];rfl
   ·rw [decide_eq_false h3,br_false];simp
  ·rw [decide_eq_false h2,br_false];simp
theorem rmay_is (k:Nat) (c:Int):z1N.f k c=some (mayB c):=by
 rw [z1N.f_eq,show ile 32 c=decide (32≤c) from rfl,show ilt c 127=decide (c<127) from rfl,show ilt 159 c=decide (159<c) from rfl,ieq_dec,bnot_dec]
 unfold mayB
 by_cases h1:32≤c
 ·rw [decide_eq_true h1,br_true,decide_eq_false (show ¬ c<32 by omega)]
  by_cases h2:c<127
  ·rw [decide_eq_true h2,br_true,decide_eq_false (show ¬ 127≤c by omega)];simp
  ·rw [decide_eq_false h2,br_false,decide_eq_true (show 127≤c by omega)]
   by_cases h3:159<c
   ·rw [decide_eq_true h3,br_true,decide_eq_false (show ¬ c<160 by omega)];simp
   ·rw [decide_eq_false h3,br_false,decide_eq_true (show c<160 by omega)];rfl
 ·rw [decide_eq_false h1,br_false,decide_eq_true (show c<32 by omega)];rfl
theorem all_step {α:Type} {xs:List α} {i:Nat} (h:i<xs.length) (p:α→Bool):(xs.drop i).all p=(p xs[i] && (xs.drop (i+1)).all p):=by
 rw [List.drop_eq_getElem_cons h,List.all_cons]
theorem name_l (k:Nat) (l:List Int) (hl:l.length<1000000):∀ (n i:Nat),i≤l.length→l.length<n+i→z1a.l5 k n l (ilen l) (i:Int)=some ((l.drop i).all mayB)
 | 0,i,_,h=>by omega
 | n+1,i,h,h'=>by
  rw [z1a.l5_eq,ilt_nat,inL_nat,natOf_nat]
  by_cases hi:i<l.length
  ·rw [decide_eq_true hi,br_true,br_true,rd_at' (e:=.int .i32) hi,may_is,bnd_some,iadd_nat (by omega),all_step hi,name_l k l hl n (i+1) (by omega) (by omega)]
   cases mayB l[i] <;> rfl
  ·rw [decide_eq_false hi,br_false,List.drop_eq_nil_of_le (by omega)];rfl
theorem rname_l (k:Nat) (l:List Int) (b:Bool) (hl:l.length<1000000):∀ (n i:Nat),i≤l.length→l.length<n+i→z0O.l3 k n l b (i:Int)=some ((l.drop i).all mayB && (b && (decide (1≤l.length) && decide (l.length≤24))))
 | 0,i,_,h=>by omega
 | n+1,i,h,h'=>by
  rw [z0O.l3_eq,ilt_nat,inL_nat,natOf_nat]
  by_cases hi:i<l.length
  ·rw [decide_eq_true hi,br_true,br_true,rd_at' (e:=.int .i64) hi,rmay_is,bnd_some,iadd_nat (by omega),all_step hi,rname_l k l b hl n (i+1) (by omega) (by omega)]
   cases mayB l[i] <;> rfl
  ·have e1:ile 1 (ilen l)=decide (1≤l.length):=decide_eq_decide.2 ⟨fun h=>by unfold ilen at h;omega,fun h=>by unfold ilen;omega⟩
   have e2:ile (ilen l) 24=decide (l.length≤24):=ile_len 24 l
   rw [decide_eq_false hi,br_false,List.drop_eq_nil_of_le (by omega),e1,e2]
   cases b <;> cases decide (1≤l.length) <;> rfl
theorem runesB_len {s:Str} {r:List Int × Bool} (h:runesB s=some r):r.1.length≤s.length∧(r.2=false→r.1=[]):=by
 unfold runesB at h
 cases hz:Nat.ble s.length 1099511627776 with
 | false=>rw [hz] at h;cases h
 | true =>
  rw [hz,cond_true] at h
  injection h with h
  subst h
  have key:∀ (f i:Nat) (l:List Int),runesX ⟨s.toArray⟩ f i=some l→l.length≤f:=by
   intro f
   induction f with
   | zero=>intro i l h;injection h with h;subst h;simp
   | succ f ih =>
    intro i l h
    rw [runesX] at h
    by_cases hp:i<(⟨s.toArray⟩:ByteArray).size
    ·rw [if_pos hp] at h
     by_cases hb:badAt ⟨s.toArray⟩ i=true
     ·rw [if_pos hb] at h;cases h
     ·rw [if_neg hb] at h
      cases hr:runesX ⟨s.toArray⟩ f (i+(Go.Utf8.decode ⟨s.toArray⟩ i).2) with
      | none=>rw [hr] at h;cases h
      | some l' =>
       rw [hr] at h
       have h:some (((Go.Utf8.decode ⟨s.toArray⟩ i).1:Int)::l')=some l:=h
       injection h with h;subst h
       have:=ih _ _ hr
       simp only [List.length_cons];omega
    ·rw [if_neg hp] at h;injection h with h;subst h;simp
  cases hr:runesX ⟨s.toArray⟩ s.length 0 with
  | none=>exact ⟨by simp,fun _=>rfl⟩
  | some l=>exact ⟨key _ _ _ hr,fun h=>by cases h⟩
theorem name_is (k:Nat) (s:Str) (hk:10<k) (hs:s.length<k) (hk2:k<1000000):∃ b,z1a.f k s=some b∧z0O.f k s=some b:=by
 have hz:Nat.ble s.length 1099511627776=true:=Nat.ble_eq_true_of_le (by omega)
 obtain ⟨r,hr⟩:∃ r,runesB s=some r:=⟨_,by unfold runesB;rw [hz,cond_true]⟩
 obtain ⟨l1,l2⟩:=runesB_len hr
 rw [z0O.f_eq,runes_is k s hk hs hk2,hr,bnd_some,z1a.f_eq,hr,bnd_some]
 have g2:=rname_l k r.1 r.2 (by omega) k 0 (by omega) (by omega)
 have g1:=name_l k r.1 (by omega) k 0 (by omega) (by omega)
 rw [List.drop_zero] at g1 g2
 refine ⟨_,?_,g2⟩
 cases h2:r.2 with
 | false=>rw [l2 h2];rfl
 | true =>
  have bt:bnot true=false:=rfl
  have e0:ieq (ilen r.1) 0=decide (r.1.length=0):=ieq0 r.1
  rw [bt,br_false,e0,show ilt 24 (ilen r.1)=decide (24<r.1.length) from ilt_lenR 24 r.1]
  by_cases c1:r.1.length=0
  ·rw [decide_eq_true c1,br_true,decide_eq_false (show ¬ 1≤r.1.length by omega)];simp
  ·rw [decide_eq_false c1,br_false,decide_eq_true (show 1≤r.1.length by omega)]
   by_cases c2:24<r.1.length
   ·rw [decide_eq_true c2,br_true,decide_eq_false (show ¬ r.1.length≤24 by omega)];simp
   ·rw [decide_eq_false c2,br_false,decide_eq_true (show r.1.length≤24 by omega)]
    refine g1.trans ?_
    simp
theorem val_is (k:Nat) (v:Val) (hk:10<k) (hs:v.2.2.length<k) (hk2:k<1000000):∃ b,z0Y.f k v=some b∧z15.f k v=some b:=by
 have hz:Nat.ble v.2.2.length 1099511627776=true:=Nat.ble_eq_true_of_le (by omega)
 obtain ⟨r,hr⟩:∃ r,runesB v.2.2=some r:=⟨_,by unfold runesB;rw [hz,cond_true]⟩
 rw [z0Y.f_eq,z15.f_eq,runes_is k v.2.2 hk hs hk2,hr]
 simp only [bnd_some]
 cases ieq v.1 1 with
 | true =>
  simp only [br_true]
  cases seq v.2.2 [] <;> cases ile (-2147483647) v.2.1 <;> exact ⟨_,rfl,rfl⟩
 | false =>
  simp only [br_false]
  cases ieq v.1 2 with
  | true =>
   simp only [br_true]
   cases r.2 <;> cases ieq v.2.1 0 <;> exact ⟨_,rfl,rfl⟩
  | false =>
   simp only [br_false]
   cases ieq v.1 3 with
   | false=>exact ⟨_,rfl,rfl⟩
   | true =>
    simp only [br_true]
    cases seq v.2.2 [] with
    | false=>exact ⟨_,rfl,rfl⟩
    | true =>
     simp only [br_true]
     rw [ieq_dec,show ile 0 v.2.1=decide (0≤v.2.1) from rfl,show ile v.2.1 1=decide (v.2.1≤1) from rfl,ieq_dec]
     by_cases h0:v.2.1=0
     ·rw [decide_eq_true h0,br_true,decide_eq_true (show 0≤v.2.1 by omega),br_true,decide_eq_true (show v.2.1≤1 by omega)];exact ⟨_,rfl,rfl⟩
     ·rw [decide_eq_false h0,br_false]
      by_cases h1:v.2.1=1
      ·rw [decide_eq_true h1,decide_eq_true (show 0≤v.2.1 by omega),br_true,decide_eq_true (show v.2.1≤1 by omega)];exact ⟨_,rfl,rfl⟩
      ·rw [decide_eq_false h1]
       by_cases h2:0≤v.2.1
       ·rw [decide_eq_true h2,br_true,decide_eq_false (show ¬ v.2.1≤1 by omega)];exact ⟨_,rfl,rfl⟩
       ·rw [decide_eq_false h2,br_false];exact ⟨_,rfl,rfl⟩
end Go.Proofs.YtggcagclpkhlhaaGreatDoor
end
noncomputable section
/- Paths, operations, transactions: the program's tests are the document's. -/
namespace Go.Proofs.YtggcagclpkhlhaaGreatDoor
open Pal
theorem path_l (k:Nat) (p:List Str) (hp:∀ s ∈ p,List.length s<k) (hk:10<k) (hk2:k<1000000) (hl:p.length<1000000):∀ (n i:Nat),i≤p.length→p.length<n+i →
  ∃ r:Int,z09.l2 k n p (ilen p) (i:Int)=some r∧z12.l6 k n p (i:Int)=some (if 0≤r then 8 else 0)
 | 0,i,_,h=>by omega
 | n+1,i,h,h'=>by
  rw [z09.l2_eq,z12.l6_eq,ilt_nat,inL_nat,natOf_nat]
  by_cases hi:i<p.length
  ·obtain ⟨b,g1,g2⟩:=name_is k p[i] hk (hp _ (List.getElem_mem hi)) hk2
   rw [decide_eq_true hi,br_true,br_true,br_true,br_true,rd_at' (e:=.str) hi,z0B.f_eq,g1,g2,bnd_some,bnd_some,bnd_some,iadd_nat (by omega)]
   cases b with
   | false=>exact ⟨(i:Int),rfl,by rw [if_pos (by omega)];rfl⟩
   | true=>exact path_l k p hp hk hk2 hl n (i+1) (by omega) (by omega)
  ·rw [decide_eq_false hi,br_false,br_false];exact ⟨-1,rfl,rfl⟩
theorem path_is (k:Nat) (p:List Str) (hp:∀ s ∈ p,List.length s<k) (hk:10<k) (hk2:k<1000000) (hl:p.length<k):∃ e:Int,z1f.f k p=some e∧z12.f k p=some e:=by
 rw [z1f.f_eq,z12.f_eq,z07.f_eq,z09.f_eq]
 cases ieq (ilen p) 0 with
 | true=>exact ⟨8,rfl,rfl⟩
 | false =>
  cases ilt 8 (ilen p) with
  | true=>exact ⟨9,rfl,rfl⟩
  | false =>
   obtain ⟨r,g1,g2⟩:=path_l k p hp hk hk2 (by omega) k 0 (by omega) (by omega)
   rw [show ((0:Nat):Int)=0 from rfl] at g1 g2
   rw [br_false,br_false,br_false,br_false,g1,g2,bnd_some,bnd_some,show ile 0 r=decide (0≤r) from rfl]
   by_cases h:0≤r
   ·rw [decide_eq_true h,br_true,if_pos h];exact ⟨8,rfl,rfl⟩
   ·rw [decide_eq_false h,br_false,if_neg h];exact ⟨0,rfl,rfl⟩
def cmpR (a b:Dot × Int):Int:=if cmpD a.1 b.1=0 then cmpI a.2 b.2 else cmpD a.1 b.1
theorem cmpI_three (a b:Int):cmpI a b=-1∨cmpI a b=0∨cmpI a b=1:=by unfold cmpI;split <;> (try split) <;> simp
theorem cmpR_three (a b:Dot × Int):cmpR a b=-1∨cmpR a b=0∨cmpR a b=1:=by
 unfold cmpR cmpD
 have h1:=cmpI_three a.1.1 b.1.1;have h2:=cmpI_three a.1.2 b.1.2;have h3:=cmpI_three a.2 b.2
 split <;> (try split) <;> assumption
theorem ref_is (k:Nat) (a b:Dot × Int) (h3:3≤k):z29.f k a b=some (cmpR a b):=by
 obtain ⟨q,rfl⟩:∃ q,k=q+3:=⟨k - 3,by omega⟩
 rw [z29.f_eq,cmpD_is,cmpI_is,bnd_some,bnd_some,or2,bnd_some];rfl
theorem ints_is (k:Nat) (a b:Int):z1n.f k a b=some (cmpI a b):=by
 rw [z1n.f_eq]
 unfold cmpI
 by_cases h1:a<b
 ·simp [ilt,h1,br_true]
 ·by_cases h2:b<a <;> simp [ilt,h1,h2,br_true,br_false]
theorem rref_is (k:Nat) (a b:Dot × Int):z1B.f k a b=some (cmpR a b):=by
 rw [z1B.f_eq,rcmp_is,bnd_some,bnd_some,ints_is,bnd_some,ieq_dec,bnot_dec]
 unfold cmpR
 by_cases h:cmpD a.1 b.1=0
 ·rw [decide_eq_false (by simp [h]),br_false,if_pos h]
 ·rw [decide_eq_true h,br_true,if_neg h]
theorem refs_l (k:Nat) (l:List (Dot × Int)) (h3:3≤k) (hl:l.length<1000000):∀ (n i:Nat),i≤l.length→l.length<n+i→∃ b,z2m.l2 k n l l (ilen l) (i:Int)=some b∧z1o.l2 k n l (i:Int)=some b
 | 0,i,_,h=>by omega
 | n+1,i,h,h'=>by
  rw [z2m.l2_eq,z1o.l2_eq,ilt_nat,inL_nat,natOf_nat]
  by_cases hi:i<l.length
  ·have ih:=refs_l k l h3 hl n (i+1) (by omega) (by omega)
   rw [decide_eq_true hi,rd_at' (e:=tUndo) hi,right_is,rright_is,iadd_nat (by omega)]
   simp only [br_true,bnd_some]
   cases rightD l[i].1 with
   | false=>exact ⟨false,rfl,rfl⟩
   | true =>
    have bt:bnot true=false:=rfl
    simp only [bt,br_false]
    cases ilt l[i].2 0 with
    | true=>exact ⟨false,rfl,rfl⟩
    | false =>
     simp only [br_false]
     rw [show ile 16 l[i].2=decide (16≤l[i].2) from rfl,show ilt 15 l[i].2=decide (16≤l[i].2) from decide_eq_decide.2 ⟨fun h=>by omega,fun h=>by omega⟩]
     by_cases h16:16≤l[i].2
     ·rw [decide_eq_true h16];exact ⟨false,rfl,rfl⟩
     ·rw [decide_eq_false h16]
      simp only [br_false]
      rw [show ilt 0 (i:Int)=decide (0<i) from ilt_nn 0 i]
      by_cases hp:0<i
      ·have hi1:i - 1<l.length:=by omega
       have e3:isub .i64 (i:Int) 1=((i - 1:Nat):Int):=by rw [isub_s (by omega) (by omega) (by omega) (by omega)];omega
       rw [decide_eq_true hp,br_true,br_true,e3,inL_nat,natOf_nat,rd_at' (e:=tUndo) hi1,decide_eq_true hi1,br_true,br_true,ref_is k _ _ h3,rref_is,bnd_some,bnd_some,ieq_dec,bnot_dec,
        show ile 0 (cmpR l[i - 1] l[i])=decide (0≤cmpR l[i - 1] l[i]) from rfl]
       rcases cmpR_three l[i - 1] l[i] with e | e | e
       ·rw [e,decide_eq_false (by decide),decide_eq_false (by decide),br_false,br_false];exact ih
       ·rw [e];exact ⟨false,rfl,rfl⟩
       ·rw [e];exact ⟨false,rfl,rfl⟩
      ·rw [decide_eq_false hp,br_false,br_false];exact ih
  ·rw [decide_eq_false hi,br_false,br_false];exact ⟨true,rfl,rfl⟩
theorem refs_is (k:Nat) (l:List (Dot × Int)) (h3:3≤k) (hl:l.length<k) (hk:k<1000000):∃ b,z2m.f k l=some b∧z1o.f k l=some b:=by
 rw [z2m.f_eq,z1o.f_eq]
 exact refs_l k l h3 (by omega) k 0 (by omega) (by omega)
theorem ile_bnot (a b:Int):ile a b=bnot (ilt b a):=by
 show decide (a≤b)=!decide (b<a)
 by_cases h:a≤b
 ·rw [decide_eq_true h,decide_eq_false (by omega)];rfl
 ·rw [decide_eq_false h,decide_eq_true (by omega)];rfl
theorem gone_both (k:Nat) (o:Op):z2l.f k o=z1A.f k o:=by rw [z2l.f_eq,z1A.f_eq]
set_option maxHeartbeats 4000000 in
theorem op_is (k:Nat) (o:Op) (hp:∀ s ∈ o.2.1,List.length s<k) (hpl:o.2.1.length<k) (hv:o.2.2.1.2.2.length<k) (hs:o.2.2.2.2.length<k) (hk:10<k) (hk2:k<1000000):∃ e:Int,z28.f k o=some e∧z16.f k o=some e:=by
 obtain ⟨e1,p1,p2⟩:=path_is k o.2.1 hp hk hk2 hpl
 obtain ⟨b1,v1,v2⟩:=val_is k o.2.2.1 hk hv hk2
 obtain ⟨b2,r1,r2⟩:=refs_is k o.2.2.2.2 (by omega) hs hk2
 rw [z28.f_eq,z16.f_eq,z1S.f_eq,z1V.f_eq,p1,p2,v1,v2,r1,r2]
 obtain ⟨K,P,V,A,S⟩:=o
 simp only at *
 have bt:bnot true=false:=rfl
 have bf:bnot false=true:=rfl
 by_cases h1:K<1
 ·rw [show ilt K 1=true from decide_eq_true h1];exact ⟨18,rfl,rfl⟩
 by_cases h5:5<K
 ·rw [show ilt K 1=false from decide_eq_false h1,show ilt 5 K=true from decide_eq_true h5];exact ⟨18,rfl,rfl⟩
 have hK:K=1∨K=2∨K=3∨K=4∨K=5:=by omega
 rw [show ilt K 1=false from decide_eq_false h1,show ilt 5 K=false from decide_eq_false h5]
 clear h1 h5 p1 p2 v1 v2 r1 r2 hp hpl hv hs
 have i1:ile A 2147483647=bnot (ilt 2147483647 A):=ile_bnot _ _
 have i2:ile (-2147483647) A=bnot (ilt A (-2147483647)):=ile_bnot _ _
 rw [i1,i2]
 rcases hK with rfl | rfl | rfl | rfl | rfl
 ·simp only [show ieq (1:Int) 1=true from rfl,show ieq (1:Int) 2=false from rfl,show ieq (1:Int) 3=false from rfl,show ieq (1:Int) 4=false from rfl,show ieq (1:Int) 5=false from rfl,br_true,br_false,bt,bf,bnd_some]
  cases ieq e1 0 <;> cases b1 <;> cases ieq A 0 <;> cases ilt 256 (ilen S) <;> cases b2 <;> exact ⟨_,rfl,rfl⟩
 ·simp only [show ieq (2:Int) 1=false from rfl,show ieq (2:Int) 2=true from rfl,show ieq (2:Int) 3=false from rfl,show ieq (2:Int) 4=false from rfl,show ieq (2:Int) 5=false from rfl,br_true,br_false,bt,bf,bnd_some]
  cases ieq e1 0 <;> cases b1 <;> cases ieq A 0 <;> cases ilt 0 (ilen S) <;> cases ilt 256 (ilen S) <;> cases b2 <;> exact ⟨_,rfl,rfl⟩
 ·simp only [show ieq (3:Int) 1=false from rfl,show ieq (3:Int) 2=false from rfl,show ieq (3:Int) 3=true from rfl,show ieq (3:Int) 4=false from rfl,show ieq (3:Int) 5=false from rfl,br_true,br_false,bt,bf,bnd_some]
  cases ieq e1 0 <;> cases deq tValue V (0,(0,[])) <;> cases ieq A 0 <;> cases ilt 2147483647 A <;> cases ilt A (-2147483647) <;> cases ilt 0 (ilen S) <;> cases ilt 256 (ilen S) <;> cases b2 <;> exact ⟨_,rfl,rfl⟩
 ·simp only [show ieq (4:Int) 1=false from rfl,show ieq (4:Int) 2=false from rfl,show ieq (4:Int) 3=false from rfl,show ieq (4:Int) 4=true from rfl,show ieq (4:Int) 5=false from rfl,br_true,br_false,bt,bf,bnd_some]
  cases ieq e1 0 <;> cases b1 <;> cases ieq A 0 <;> cases ilt 256 (ilen S) <;> cases b2 <;> exact ⟨_,rfl,rfl⟩
 ·simp only [show ieq (5:Int) 1=false from rfl,show ieq (5:Int) 2=false from rfl,show ieq (5:Int) 3=false from rfl,show ieq (5:Int) 4=false from rfl,show ieq (5:Int) 5=true from rfl,br_true,br_false,bt,bf,bnd_some]
  cases ieq e1 0 <;> cases deq tValue V (0,(0,[])) <;> cases ieq A 0 <;> cases ilt 256 (ilen S) <;> cases b2 <;> exact ⟨_,rfl,rfl⟩
end Go.Proofs.YtggcagclpkhlhaaGreatDoor
end
noncomputable section
/- Transactions: the program's test is the document's. -/
namespace Go.Proofs.YtggcagclpkhlhaaGreatDoor
open Pal
theorem gone_tot (k:Nat) (o:Op):∃ g,z2l.f k o=some g∧z1A.f k o=some g:=by
 rw [← gone_both,z2l.f_eq]
 cases ieq o.1 0 with
 | false=>exact ⟨_,rfl,rfl⟩
 | true =>
  cases ieq (ilen o.2.1) 0 with
  | false=>exact ⟨_,rfl,rfl⟩
  | true =>
   cases deq tValue o.2.2.1 (0,(0,[])) with
   | false=>exact ⟨_,rfl,rfl⟩
   | true=>cases ieq o.2.2.2.1 0 <;> exact ⟨_,rfl,rfl⟩
structure SizO (k:Nat) (o:Op):Prop where
 path:∀ s ∈ o.2.1,List.length s<k
 names:o.2.1.length<k
 val:o.2.2.1.2.2.length<k
 seen:o.2.2.2.2.length<k
theorem txn_l (k:Nat) (t:Txn) (ho:∀ o ∈ t.2.2.2.2,SizO k o) (hl:t.2.2.2.2.length<1000000) (hk:10<k) (hk2:k<1000000):∀ (n i:Nat),i≤t.2.2.2.2.length→t.2.2.2.2.length<n+i →
  ∃ e:Int,z1K.l10 k n t.2.2.2.2 (ilen t.2.2.2.2) (i:Int) t=some e∧z0U.l8 k n (i:Int) t=some e
 | 0,i,_,h=>by omega
 | n+1,i,h,h'=>by
  rw [z1K.l10_eq,z0U.l8_eq,ilt_nat,inL_nat,natOf_nat]
  by_cases hi:i<t.2.2.2.2.length
  ·have ih:=txn_l k t ho hl hk hk2 n (i+1) (by omega) (by omega)
   have so:=ho _ (List.getElem_mem hi)
   obtain ⟨e,p1,p2⟩:=op_is k t.2.2.2.2[i] so.path so.names so.val so.seen hk hk2
   obtain ⟨g,q1,q2⟩:=gone_tot k t.2.2.2.2[i]
   rw [decide_eq_true hi,rd_at' (e:=tOp) hi,p1,p2,q1,q2,iadd_nat (by omega)]
   simp only [br_true,bnd_some]
   have bt:bnot true=false:=rfl
   have bf:bnot false=true:=rfl
   cases t.2.2.2.1 with
   | true =>
    simp only [br_true]
    cases g with
    | true =>
     simp only [br_true,bt,br_false]
     cases ieq e 0 <;> exact ih
    | false =>
     simp only [br_false,bf,br_true]
     cases ieq e 0 with
     | true=>exact ih
     | false=>exact ⟨e,rfl,rfl⟩
   | false =>
    simp only [br_false,bf,br_true]
    cases ieq e 0 with
    | true=>exact ih
    | false=>exact ⟨e,rfl,rfl⟩
  ·rw [decide_eq_false hi,br_false,br_false];exact ⟨0,rfl,rfl⟩
theorem txn_is (k:Nat) (t:Txn) (ho:∀ o ∈ t.2.2.2.2,SizO k o) (hl:t.2.2.2.2.length<k) (hk:10<k) (hk2:k<1000000):∃ e:Int,z1K.f k t=some e∧z0U.f k t=some e:=by
 obtain ⟨e,g1,g2⟩:=txn_l k t ho (by omega) hk hk2 k 0 (by omega) (by omega)
 rw [show ((0:Nat):Int)=0 from rfl] at g1 g2
 have bt:bnot true=false:=rfl
 have bf:bnot false=true:=rfl
 rw [z1K.f_eq,z0U.f_eq,right_is,rright_is,g1,g2,show ilt 7 t.2.1=ile 8 t.2.1 from decide_eq_decide.2 ⟨fun h=>by omega,fun h=>by omega⟩]
 simp only [bnd_some]
 cases rightD t.1 with
 | false=>exact ⟨2,rfl,rfl⟩
 | true =>
  simp only [bt,br_false]
  cases ilt t.2.1 0 <;> cases ile 8 t.2.1 <;> cases ilt t.2.2.1 1 <;> cases ilt 1099511627776 t.2.2.1 <;> cases ieq (ilen t.2.2.2.2) 0 <;> cases ilt 16 (ilen t.2.2.2.2) <;> exact ⟨_,rfl,rfl⟩
end Go.Proofs.YtggcagclpkhlhaaGreatDoor
end
noncomputable section
/- Dots, vectors, rows of dots and sets: the program and the document read the same. -/
namespace Go.Proofs.YtggcagclpkhlhaaGreatDoor
open Pal
end Go.Proofs.YtggcagclpkhlhaaGreatDoor
end
noncomputable section
/- Texts, values, paths: the program and the document read the same. -/
namespace Go.Proofs.YtggcagclpkhlhaaGreatDoor
open Pal
theorem inS_nn {a b c:Nat} (h1:a≤b) (h2:b≤c):inS (a:Int) (b:Int) (c:Int)=true:=by
 show (decide ((0:Int)≤(a:Int)) && decide ((a:Int)≤(b:Int)) && decide ((b:Int)≤(c:Int)))=true
 rw [decide_eq_true (show (0:Int)≤(a:Int) by omega),decide_eq_true (show (a:Int)≤(b:Int) by omega),decide_eq_true (show (b:Int)≤(c:Int) by omega)];rfl
def unf (n:Nat):Int:=if n % 2=0 then ((n / 2:Nat):Int) else -(((n+1) / 2:Nat):Int)
theorem irem2 (n:Nat):irem (n:Int) 2=((n % 2:Nat):Int):=by
 rfl
theorem tdiv2 (q:Nat):(q:Int).tdiv 2=((q / 2:Nat):Int):=rfl
theorem unfold_is (k n:Nat) (hn:n<72057594037927936):z0A.f k (n:Int)=some (unf n)∧z0F.f k (n:Int)=some (unf n):=by
 rw [z0A.f_eq,z0F.f_eq,irem2]
 unfold unf
 by_cases h:n % 2=0
 ·have q:iquo .i64 (n:Int) 2=((n / 2:Nat):Int):=by
   show IntKind.wrap .i64 ((n:Int).tdiv 2)=_
   rw [tdiv2,wrap64 (by omega) (by omega)]
  rw [h,if_pos rfl,q];exact ⟨rfl,rfl⟩
 ·have h1:n % 2=1:=by omega
  have a1:iadd .i64 (n:Int) 1=((n+1:Nat):Int):=iadd_nat (by omega)
  have a2:isub .i64 0 ((n+1:Nat):Int)=-((n+1:Nat):Int):=by
   show IntKind.wrap .i64 (0 - ((n+1:Nat):Int))=_
   rw [wrap64 (by omega) (by omega)];omega
  have a3:iquo .i64 (-((n+1:Nat):Int)) 2=-(((n+1) / 2:Nat):Int):=by
   show IntKind.wrap .i64 ((-((n+1:Nat):Int)).tdiv 2)=_
   rw [Int.neg_tdiv,tdiv2,wrap64 (by omega) (by omega)]
  have a4:iquo .i64 (n:Int) 2=((n / 2:Nat):Int):=by
   show IntKind.wrap .i64 ((n:Int).tdiv 2)=_
   rw [tdiv2,wrap64 (by omega) (by omega)]
  have a5:isub .i64 0 ((n / 2:Nat):Int)=-((n / 2:Nat):Int):=by
   show IntKind.wrap .i64 (0 - ((n / 2:Nat):Int))=_
   rw [wrap64 (by omega) (by omega)];omega
  have a6:isub .i64 (-((n / 2:Nat):Int)) 1=-(((n+1) / 2:Nat):Int):=by
   show IntKind.wrap .i64 (-((n / 2:Nat):Int) - 1)=_
   rw [wrap64 (by omega) (by omega)];omega
  rw [h1,if_neg (by decide),a1,a2,a3,a4,a5,a6];exact ⟨rfl,rfl⟩
end Go.Proofs.YtggcagclpkhlhaaGreatDoor
end
noncomputable section
/- Operations: the end of reading one is the same in the program and the document. -/
namespace Go.Proofs.YtggcagclpkhlhaaGreatDoor
open Pal
end Go.Proofs.YtggcagclpkhlhaaGreatDoor
end
noncomputable section
/- An operation is read: the program and the document do the same. -/
namespace Go.Proofs.YtggcagclpkhlhaaGreatDoor
open Pal
end Go.Proofs.YtggcagclpkhlhaaGreatDoor
end
noncomputable section
/- Counts: rows of dots with numbers, in order; joined, put, looked up. Plain facts. -/
namespace Go.Proofs.YtggcagclpkhlhaaGreatDoor
open Pal
abbrev Undo:=Dot × Int
def rightU (u:Undo):Bool:=rightD u.1 && decide (1≤u.2∧u.2≤64)
theorem rightU_iff (u:Undo):rightU u=true ↔ rightD u.1=true∧1≤u.2∧u.2≤64:=by simp [rightU]
structure CanU (l:List Undo):Prop where
 rt:∀ u ∈ l,rightU u=true
 srt:l.Pairwise (fun a b=>dotLt a.1 b.1=true)
theorem CanU.nil:CanU []:=⟨fun u hu=>by simp at hu,List.Pairwise.nil⟩
theorem CanU.cons {u:Undo} {l:List Undo} (h:CanU l) (h1:rightU u=true) (h2:∀ v ∈ l,dotLt u.1 v.1=true):CanU (u::l) :=
 ⟨fun v hv=>by rcases List.mem_cons.1 hv with rfl | hv;exact h1;exact h.rt v hv,List.pairwise_cons.2 ⟨h2,h.srt⟩⟩
theorem dotLt_trans {a b c:Dot} (h1:dotLt a b=true) (h2:dotLt b c=true):dotLt a c=true:=dotLt_swo.trans _ _ _ h1 h2
end Go.Proofs.YtggcagclpkhlhaaGreatDoor
end
noncomputable section
/- Transactions in order, and states: plain facts. -/
namespace Go.Proofs.YtggcagclpkhlhaaGreatDoor
open Pal
abbrev Sta:=List Txn × (List (Dot × Int) × (DSet × (DSet × List (List Dot))))
abbrev Dlt:=List Txn × (List (Dot × Int) × List Dot)
structure CanT (l:List Txn):Prop where
 rt:∀ t ∈ l,rightD t.1=true
 srt:l.Pairwise (fun a b=>dotLt a.1 b.1=true)
theorem CanT.nil:CanT []:=⟨fun u hu=>by simp at hu,List.Pairwise.nil⟩
theorem CanT.cons {u:Txn} {l:List Txn} (h:CanT l) (h1:rightD u.1=true) (h2:∀ v ∈ l,dotLt u.1 v.1=true):CanT (u::l) :=
 ⟨fun v hv=>by rcases List.mem_cons.1 hv with rfl | hv;exact h1;exact h.rt v hv,List.pairwise_cons.2 ⟨h2,h.srt⟩⟩
structure LenS (n:Nat) (s:Sta):Prop where
 tx:s.1.length≤n
 un:s.2.1.length≤n
 kn:s.2.2.1.2.length≤n
 se:s.2.2.2.1.2.length≤n
 re:∀ l ∈ s.2.2.2.2,l.length≤n
theorem LenS.mono {n m:Nat} {s:Sta} (h:LenS n s) (hnm:n≤m):LenS m s :=
 ⟨Nat.le_trans h.tx hnm,Nat.le_trans h.un hnm,Nat.le_trans h.kn hnm,Nat.le_trans h.se hnm,fun l hl=>Nat.le_trans (h.re l hl) hnm⟩
structure LenD (n:Nat) (d:Dlt):Prop where
 tx:d.1.length≤n
 un:d.2.1.length≤n
 se:d.2.2.length≤n
end Go.Proofs.YtggcagclpkhlhaaGreatDoor
end
noncomputable section
/- What the program's tally, and the document's, come to. -/
namespace Go.Proofs.YtggcagclpkhlhaaGreatDoor
open Pal
theorem rone_is (k:Nat) (u:Undo):z1W.f k u=some (rightU u):=by
 rw [z1W.f_eq,rright_is]
 simp only [bnd_some]
 unfold rightU
 cases rightD u.1 with
 | false=>rfl
 | true =>
  simp only [br_true,ile_dec,br_dec,Bool.true_and]
  by_cases h:1≤u.2
  ·rw [if_pos h];simp [h]
  ·rw [if_neg h];simp [h]
theorem canU_iff {l:List Undo}:CanU l ↔ ∀ j (h:j<l.length),rightU l[j]=true∧∀ h0:0<j,dotLt (l[j - 1]'(by omega)).1 l[j].1=true:=by
 constructor
 ·intro h j hj
  exact ⟨h.rt _ (List.getElem_mem hj),fun h0=>List.pairwise_iff_getElem.1 h.srt (j - 1) j (by omega) hj (by omega)⟩
 ·intro h
  refine ⟨fun u hu=>?_,List.pairwise_iff_getElem.2 fun i j hi hj hij=>?_⟩
  ·obtain ⟨j,hj,rfl⟩:=List.mem_iff_getElem.1 hu
   exact (h j hj).1
  ·have key:∀ d j (hj:j<l.length) (hd:d+1≤j),dotLt (l[j - (d+1)]'(by omega)).1 l[j].1=true:=by
    intro d
    induction d with
    | zero=>intro j hj hd;exact (h j hj).2 (by omega)
    | succ d ih =>
     intro j hj hd
     have h1:=ih j hj (by omega)
     have h2:=(h (j - (d+1)) (by omega)).2 (by omega)
     have e:j - (d+1) - 1=j - (d+1+1):=by omega
     simp only [e] at h2
     exact dotLt_trans h2 h1
   have:=key (j - i - 1) j hj (by omega)
   have e:j - (j - i - 1+1)=i:=by omega
   simpa only [e] using this
def okU (l:List Undo) (j:Nat):Prop:=∀ h:j<l.length,rightU l[j]=true∧∀ h0:0<j,dotLt (l[j - 1]'(by omega)).1 l[j].1=true
theorem rrightU_is (k:Nat) (l:List Undo) (hl:l.length<k) (hk:k<1000000):∃ b,z13.f k l=some b∧(b=true ↔ CanU l):=by
 obtain ⟨b,hb,hbi⟩:=loop_all' l.length (fun n i=>z13.l2 k n l (i:Int)) (okU l) (fun n i hi=>by
  simp only [z13.l2_eq,ilt_nat,inL_nat,natOf_nat,hi,decide_true,br_true,rd_at' (e:=tUndo) hi,rone_is,bnd_some]
  cases hu:rightU l[i] with
  | false=>exact .inr ⟨fun h=>(by have:=(h hi).1;rw [hu] at this;cases this),rfl⟩
  | true =>
   have e1:bnot true=false:=rfl
   have e2:ilt 0 (i:Int)=decide (0<i):=ilt_nn 0 i
   rw [e1,e2,iadd_nat (by omega)]
   simp only [br_false]
   by_cases h0:0<i
   ·have hi1:i - 1<l.length:=by omega
    have e3:isub .i64 (i:Int) 1=((i - 1:Nat):Int):=by rw [isub_s (by omega) (by omega) (by omega) (by omega)];omega
    rw [e3,inL_nat,natOf_nat,rd_at' (e:=tUndo) hi1,rcmp_is]
    simp only [h0,hi1,decide_true,br_true,bnd_some,cmp_m1]
    cases hd:dotLt l[i - 1].1 l[i].1 with
    | true=>exact .inl ⟨fun _=>⟨hu,fun _=>hd⟩,rfl⟩
    | false=>exact .inr ⟨fun h=>(by have:=(h hi).2 h0;rw [hd] at this;cases this),rfl⟩
   ·simp only [h0,decide_false,br_false]
    exact .inl ⟨fun _=>⟨hu,fun h=>absurd h h0⟩,trivial⟩) (fun n=>by
  simp only [z13.l2_eq,ilt_nat,Nat.lt_irrefl,decide_false,br_false]) k 0 (by omega) (by omega)
 rw [z13.f_eq]
 refine ⟨b,hb,hbi.trans ?_⟩
 rw [canU_iff]
 exact ⟨fun h j hj=>h j (by omega) hj hj,fun h j _ _ hj=>h j hj⟩
theorem tcmp_is (k:Nat) (u v:Undo) (h3:3≤k):z0z.f k u v=some (cmpD u.1 v.1):=by
 obtain ⟨q,rfl⟩:∃ q,k=q+3:=⟨k - 3,by omega⟩
 rw [z0z.f_eq,cmpD_is];rfl
end Go.Proofs.YtggcagclpkhlhaaGreatDoor
end
noncomputable section
/- States: what the program's functions, and the document's, come to. -/
namespace Go.Proofs.YtggcagclpkhlhaaGreatDoor
open Pal
theorem deqVal (a b:Val):deq tValue a b=decide (a=b):=deq_dec (τ:=tValue) rfl a b
structure LenO (n:Nat) (o:Op):Prop where
 path:o.2.1.length<n
 seen:o.2.2.2.2.length<n
structure LenT (n:Nat) (t:Txn):Prop where
 ops:t.2.2.2.2.length<n
 each:∀ o ∈ t.2.2.2.2,LenO n o
end Go.Proofs.YtggcagclpkhlhaaGreatDoor
end
noncomputable section
/- Which states and deltas the document calls good: what is known of them. -/
namespace Go.Proofs.YtggcagclpkhlhaaGreatDoor
open Pal
def risAt (l:List Txn) (j:Nat):Prop:=∀ h:j+1<l.length,dotLt (l[j]'(by omega)).1 l[j+1].1=true
theorem ris_iff {l:List Txn}:l.Pairwise (fun a b=>dotLt a.1 b.1=true) ↔ ∀ j,0≤j→j<l.length - 1→risAt l j:=by
 constructor
 ·intro h j h1 h2 hj
  exact List.pairwise_iff_getElem.1 h j (j+1) (by omega) hj (by omega)
 ·intro h
  refine List.pairwise_iff_getElem.2 fun i j hi hj hij=>?_
  have key:∀ d i (hd:i+d+1<l.length),dotLt (l[i]'(by omega)).1 l[i+d+1].1=true:=by
   intro d
   induction d with
   | zero=>intro i hd;exact h i (by omega) (by omega) hd
   | succ d ih =>
    intro i hd
    exact dotLt_trans (ih i (by omega)) (h (i+d+1) (by omega) (by omega) (by omega))
  have:=key (j - i - 1) i (by omega)
  have e:i+(j - i - 1)+1=j:=by omega
  simpa only [e] using this
theorem rrises_is (k:Nat) (l:List Txn) (hl:l.length<k) (hk:k<1000000):∃ b,z0W.f k l=some b∧(b=true ↔ l.Pairwise (fun a b=>dotLt a.1 b.1=true)):=by
 rw [z0W.f_eq]
 obtain ⟨b,hb,hbi⟩:=loop_all' (l.length - 1) (fun n i=>z0W.l2 k n l ((i+1:Nat):Int)) (risAt l) (fun n i hi=>by
  have hi0:i<l.length:=by omega
  have hi1:i+1<l.length:=by omega
  have e3:isub .i64 ((i+1:Nat):Int) 1=(i:Int):=by rw [isub_s (by omega) (by omega) (by omega) (by omega)];omega
  have e4:iadd .i64 ((i+1:Nat):Int) 1=((i+1+1:Nat):Int):=iadd_nat (by omega)
  simp only [z0W.l2_eq,ilt_nat,e3,inL_nat,natOf_nat,hi0,hi1,decide_true,br_true,rd_at' (e:=tTxn) hi0,rd_at' (e:=tTxn) hi1,rcmp_is,bnd_some,cmp_m1,e4]
  cases hd:dotLt l[i].1 l[i+1].1 with
  | true=>exact .inl ⟨fun _=>hd,rfl⟩
  | false=>exact .inr ⟨fun h=>(by have:=h hi1;rw [hd] at this;cases this),rfl⟩) (fun n=>by
  simp only [z0W.l2_eq,ilt_nat,show ¬ l.length - 1+1<l.length by omega,decide_false,br_false]) k 0 (by omega) (by omega)
 exact ⟨b,hb,hbi.trans ris_iff.symm⟩
def emptyD:DSet:=(zarr 16 0,[])
def dotsOf (l:List Txn):List Dot:=l.map (·.1)
structure RightS (k:Nat) (s:Sta):Prop where
 many:s.1.length≤1000
 ris:s.1.Pairwise (fun a b=>dotLt a.1 b.1=true)
 un:CanU s.2.1
 se:Can s.2.2.2.1∧s.2.2.2.1.2.length≤4096
 chk:∀ t ∈ s.1,z0U.f k t=some 0
 redo:∀ l ∈ s.2.2.2.2,l.length≤1000∧∀ d ∈ l,rightD d=true
 kn:Can s.2.2.1∧s.2.2.1.2.length≤4096
 know:s.2.2.1=(dotsOf s.1).foldl putD emptyD
def chkAt (k:Nat) (l:List Txn) (j:Nat):Prop:=∀ h:j<l.length,z0U.f k l[j]=some 0
def rdAt (l:List Dot) (j:Nat):Prop:=∀ h:j<l.length,rightD l[j]=true
theorem rdAt_all {l:List Dot}:(∀ j,0≤j→j<l.length→rdAt l j) ↔ ∀ d ∈ l,rightD d=true:=by
 constructor
 ·intro h d hd
  obtain ⟨j,hj,rfl⟩:=List.mem_iff_getElem.1 hd
  exact h j (by omega) hj hj
 ·intro h j _ hj _;exact h _ (List.getElem_mem hj)
structure ShortS (s:Sta):Prop where
 tx:s.1.length≤20
 un:s.2.1.length≤100
 kn:s.2.2.1.2.length≤100
 se:s.2.2.2.1.2.length≤100
 each:∀ t ∈ s.1,ShortT t
 redo:∀ l ∈ s.2.2.2.2,l.length≤40
theorem ShortS.len {s:Sta} (h:ShortS s):LenS 100 s:=⟨Nat.le_trans h.tx (by decide),h.un,h.kn,h.se,fun l hl=>Nat.le_trans (h.redo l hl) (by decide)⟩
def shtAt (k:Nat) (l:List Txn) (j:Nat):Prop:=∀ h:j<l.length,z0V.f k l[j]=some true
theorem shtAt_all {k:Nat} {l:List Txn} (hk:1000<k) (hk2:k<1000000) (h:∀ j,0≤j→j<l.length→shtAt k l j):∀ t ∈ l,ShortT t:=by
 intro t ht
 obtain ⟨j,hj,rfl⟩:=List.mem_iff_getElem.1 ht
 obtain ⟨b,hb,hbi⟩:=rtxnshort_is k l[j] hk hk2
 rw [h j (by omega) hj hj] at hb
 injection hb with hb;exact hbi hb.symm
theorem sht_step (k:Nat) (t:Txn) (hk:1000<k) (hk2:k<1000000):∃ b,z0V.f k t=some b:=by
 obtain ⟨b,hb,_⟩:=rtxnshort_is k t hk hk2
 exact ⟨b,hb⟩
structure ShortD (d:Dlt):Prop where
 tx:d.1.length≤20
 un:d.2.1.length≤100
 se:d.2.2.length≤100
 each:∀ t ∈ d.1,ShortT t
theorem ShortD.len {d:Dlt} (h:ShortD d):LenD 100 d:=⟨Nat.le_trans h.tx (by decide),h.un,h.se⟩
theorem rshortDl_is (k:Nat) (d:Dlt) (hk:1000<k) (hk2:k<1000000):∃ b,z0h.f k d=some b∧(b=true→ShortD d):=by
 rw [z0h.f_eq,show ilt 20 (ilen d.1)=decide (20<d.1.length) from ilt_lenR 20 _,show ilt 100 (ilen d.2.1)=decide (100<d.2.1.length) from ilt_lenR 100 _,show ilt 100 (ilen d.2.2)=decide (100<d.2.2.length) from ilt_lenR 100 _]
 simp only [br_dec]
 by_cases h1:20<d.1.length
 ·rw [if_pos h1];exact ⟨false,rfl,fun h=>by cases h⟩
 by_cases h2:100<d.2.1.length
 ·rw [if_neg h1,if_pos h2];exact ⟨false,rfl,fun h=>by cases h⟩
 by_cases h3:100<d.2.2.length
 ·rw [if_neg h1,if_neg h2,if_pos h3];exact ⟨false,rfl,fun h=>by cases h⟩
 rw [if_neg h1,if_neg h2,if_neg h3]
 obtain ⟨b,hb,hbi⟩:=loop_all' d.1.length (fun n i=>z0h.l4 k n (i:Int) d) (shtAt k d.1) (fun n i hi=>by
  have e3:iadd .i64 (i:Int) 1=((i+1:Nat):Int):=iadd_nat (by omega)
  obtain ⟨c,hc⟩:=sht_step k d.1[i] hk hk2
  simp only [z0h.l4_eq,ilt_nat,inL_nat,natOf_nat,hi,decide_true,br_true,rd_at' (e:=tTxn) hi,hc,bnd_some,e3]
  cases c with
  | false=>exact .inr ⟨fun h=>(by have:=h hi;rw [hc] at this;cases this),rfl⟩
  | true=>exact .inl ⟨fun _=>hc,rfl⟩) (fun n=>by simp only [z0h.l4_eq,ilt_nat,Nat.lt_irrefl,decide_false,br_false]) k 0 (by omega) (by omega)
 exact ⟨b,hb,fun h=>⟨by omega,by omega,by omega,shtAt_all hk hk2 (hbi.1 h)⟩⟩
structure RightDl (k:Nat) (d:Dlt):Prop where
 many:d.1.length≤1000
 ris:d.1.Pairwise (fun a b=>dotLt a.1 b.1=true)
 un:CanU d.2.1
 chk:∀ t ∈ d.1,z0U.f k t=some 0
 se:∀ x ∈ d.2.2,rightD x=true
theorem rrightDl_isG (k:Nat) (d:Dlt) (hsh:∀ t ∈ d.1,∃ e:Int,z0U.f k t=some e∧(e=0→rightD t.1=true)) (hul:d.2.1.length<k) (hsl:d.2.2.length<k) (hk:5000<k) (hk2:k<1000000):∃ b,z0l.f k d=some b∧(b=true ↔ RightDl k d):=by
 rw [z0l.f_eq,show ilt 1000 (ilen d.1)=decide (1000<d.1.length) from ilt_lenR 1000 d.1]
 by_cases hm:1000<d.1.length
 ·rw [decide_eq_true hm];exact ⟨false,rfl,⟨fun h=>(by cases h),fun h=>by have:=h.many;omega⟩⟩
 rw [decide_eq_false hm]
 obtain ⟨b1,g1,i1⟩:=rrises_is k d.1 (by omega) hk2
 obtain ⟨b2,g2,i2⟩:=rrightU_is k d.2.1 hul hk2
 rw [g1]
 simp only [br_false,bnd_some]
 cases b1 with
 | false=>exact ⟨false,rfl,⟨fun h=>(by cases h),fun h=>i1.2 h.ris⟩⟩
 | true =>
 have bt:bnot true=false:=rfl
 rw [bt,g2]
 simp only [br_false,bnd_some]
 cases b2 with
 | false=>exact ⟨false,rfl,⟨fun h=>(by cases h),fun h=>i2.2 h.un⟩⟩
 | true =>
 rw [bt]
 simp only [br_false]
 have seals:∃ b,z0l.l9 k k 0 d=some b∧(b=true ↔ ∀ j,0≤j→j<d.2.2.length→rdAt d.2.2 j):=by
  refine loop_all' d.2.2.length (fun n i=>z0l.l9 k n (i:Int) d) (rdAt d.2.2) (fun n i hi=>?_) (fun n=>?_) k 0 (by omega) (by omega)
  ·have e3:iadd .i64 (i:Int) 1=((i+1:Nat):Int):=iadd_nat (by omega)
   simp only [z0l.l9_eq,ilt_nat,inL_nat,natOf_nat,hi,decide_true,br_true,rd_at' (e:=tDot) hi,rright_is,bnd_some,e3]
   cases hd:rightD d.2.2[i] with
   | false=>exact .inr ⟨fun h=>(by have:=h hi;rw [hd] at this;cases this),rfl⟩
   | true=>exact .inl ⟨fun _=>hd,rfl⟩
  ·simp only [z0l.l9_eq,ilt_nat,Nat.lt_irrefl,decide_false,br_false]
 obtain ⟨b,hb,hbi⟩:=loop_all d.1.length (fun n i=>z0l.l4 k n (i:Int) d) (chkAt k d.1) (fun n i hi=>by
  have e3:iadd .i64 (i:Int) 1=((i+1:Nat):Int):=iadd_nat (by omega)
  obtain ⟨e,he,_⟩:=hsh _ (List.getElem_mem hi)
  simp only [z0l.l4_eq,ilt_nat,inL_nat,natOf_nat,hi,decide_true,br_true,rd_at' (e:=tTxn) hi,he,bnd_some,e3,ieq_dec,bnot_dec,br_dec]
  by_cases hz:e=0
  ·exact .inl ⟨fun _=>by rw [he,hz],if_neg (by simpa using hz)⟩
  ·exact .inr ⟨fun h=>by rw [h hi] at he;injection he with he;exact hz he.symm,if_pos hz⟩) _ _ seals (fun n=>by simp only [z0l.l4_eq,ilt_nat,Nat.lt_irrefl,decide_false,br_false]) k 0 (by omega) (by omega)
 refine ⟨b,hb,hbi.trans ⟨fun ⟨h1,h2⟩=>⟨by omega,i1.1 rfl,i2.1 rfl,fun t ht=>?_,rdAt_all.1 h2⟩,fun h=>⟨fun j _ hj _=>h.chk _ (List.getElem_mem hj),rdAt_all.2 h.se⟩⟩⟩
 obtain ⟨j,hj,rfl⟩:=List.mem_iff_getElem.1 ht
 exact h1 j (by omega) hj hj
theorem rrightDl_is (k:Nat) (d:Dlt) (hsh:∀ t ∈ d.1,ShortT t) (hul:d.2.1.length<k) (hsl:d.2.2.length<k) (hk:5000<k) (hk2:k<1000000):∃ b,z0l.f k d=some b∧(b=true ↔ RightDl k d) :=
 rrightDl_isG k d (fun t ht=>rtxn_is k t (hsh t ht) (by omega) hk2) hul hsl hk hk2
end Go.Proofs.YtggcagclpkhlhaaGreatDoor
end
noncomputable section
/- States with more of each: they may be, and the order does not matter. -/
namespace Go.Proofs.YtggcagclpkhlhaaGreatDoor
open Pal
end Go.Proofs.YtggcagclpkhlhaaGreatDoor
end
noncomputable section
/- What is known: joined, the same, within. -/
namespace Go.Proofs.YtggcagclpkhlhaaGreatDoor
open Pal
abbrev Know:=DSet × (List Undo × DSet)
structure CanK (a:Know):Prop where
 kn:Can a.1
 un:CanU a.2.1
 se:Can a.2.2
structure LenK (n:Nat) (a:Know):Prop where
 kn:a.1.2.length≤n
 un:a.2.1.length≤n
 se:a.2.2.2.length≤n
end Go.Proofs.YtggcagclpkhlhaaGreatDoor
end
noncomputable section
/- Counts that may be: the program's test. -/
namespace Go.Proofs.YtggcagclpkhlhaaGreatDoor
open Pal
theorem trightU2_is (k:Nat) (l:List Undo) (h3:3≤k) (hl:l.length<k) (hk:k<1000000):∃ b,z0Z.f k l=some b∧(b=true ↔ CanU l):=by
 obtain ⟨b,hb,hbi⟩:=loop_all' l.length (fun n i=>z0Z.l2 k n l l (ilen l) (i:Int)) (okU l) (fun n i hi=>by
  have e4:iadd .i64 (i:Int) 1=((i+1:Nat):Int):=iadd_nat (by omega)
  simp only [z0Z.l2_eq,ilt_nat,inL_nat,natOf_nat,hi,decide_true,br_true,rd_at' (e:=tUndo) hi,right_is,bnd_some,e4]
  have key:∀ hr:rightU l[i]=false,¬ okU l i:=fun hr h=>by have:=(h hi).1;rw [hr] at this;cases this
  have bt:bnot true=false:=rfl
  have bf:bnot false=true:=rfl
  cases hd:rightD l[i].1 with
  | false=>exact .inr ⟨key (by unfold rightU;rw [hd];rfl),by rw [bf];rfl⟩
  | true =>
   rw [bt]
   simp only [br_false,ilt_dec,br_dec]
   by_cases h1:l[i].2<1
   ·exact .inr ⟨key (by unfold rightU;rw [hd,decide_eq_false (by omega)];rfl),if_pos h1⟩
   ·rw [if_neg h1]
    by_cases h2:64<l[i].2
    ·exact .inr ⟨key (by unfold rightU;rw [hd,decide_eq_false (by omega)];rfl),if_pos h2⟩
    ·rw [if_neg h2]
     have hu:rightU l[i]=true:=by unfold rightU;rw [hd,decide_eq_true (by omega)];rfl
     by_cases h0:0<i
     ·have hi1:i - 1<l.length:=by omega
      have e3:isub .i64 (i:Int) 1=((i - 1:Nat):Int):=by rw [isub_s (by omega) (by omega) (by omega) (by omega)];omega
      have e5:(0:Int)<(i:Int):=by omega
      rw [if_pos e5,e3,inL_nat,natOf_nat,rd_at' (e:=tUndo) hi1,tcmp_is k _ _ h3]
      simp only [hi1,decide_true,br_true,bnd_some,ile_dec,br_dec]
      have hcc:cmpD l[i - 1].1 l[i].1<0 ↔ dotLt l[i - 1].1 l[i].1=true:=by rw [← cmp_lt0];exact decide_eq_true_iff.symm
      by_cases hc:0≤cmpD l[i - 1].1 l[i].1
      ·exact .inr ⟨fun h=>by have:=hcc.2 ((h hi).2 h0);omega,if_pos hc⟩
      ·exact .inl ⟨fun _=>⟨hu,fun _=>hcc.1 (by omega)⟩,if_neg hc⟩
     ·have e5:¬ (0:Int)<(i:Int):=by omega
      exact .inl ⟨fun _=>⟨hu,fun h=>absurd h h0⟩,if_neg e5⟩) (fun n=>by
  simp only [z0Z.l2_eq,ilt_nat,Nat.lt_irrefl,decide_false,br_false]) k 0 (by omega) (by omega)
 rw [z0Z.f_eq]
 refine ⟨b,hb,hbi.trans ?_⟩
 rw [canU_iff]
 exact ⟨fun h j hj=>h j (by omega) hj hj,fun h j _ _ hj=>h j hj⟩
end Go.Proofs.YtggcagclpkhlhaaGreatDoor
end
noncomputable section
/- Whether a state may be: the program's word is the document's. -/
namespace Go.Proofs.YtggcagclpkhlhaaGreatDoor
open Pal
def risB (l:List Txn) (j:Nat):Prop:=∀ h:j<l.length,∀ h0:0<j,dotLt (l[j - 1]'(by omega)).1 l[j].1=true
theorem risB_iff {l:List Txn}:l.Pairwise (fun a b=>dotLt a.1 b.1=true) ↔ ∀ j,0≤j→j<l.length→risB l j:=by
 rw [ris_iff]
 constructor
 ·intro h j _ hj hj' h0
  have:=h (j - 1) (by omega) (by omega) (by omega)
  have e:j - 1+1=j:=by omega
  simpa only [e] using this
 ·intro h j _ hj hj'
  have:=h (j+1) (by omega) (by omega) hj' (by omega)
  simpa using this
theorem trises_is (k:Nat) (l:List Txn) (h3:3≤k) (hl:l.length<k) (hk:k<1000000):∃ b,z1R.f k l=some b∧(b=true ↔ l.Pairwise (fun a b=>dotLt a.1 b.1=true)):=by
 rw [z1R.f_eq]
 obtain ⟨b,hb,hbi⟩:=loop_all' l.length (fun n i=>z1R.l2 k n l l (ilen l) (i:Int)) (risB l) (fun n i hi=>by
  have e4:iadd .i64 (i:Int) 1=((i+1:Nat):Int):=iadd_nat (by omega)
  simp only [z1R.l2_eq,ilt_nat,inL_nat,natOf_nat,hi,decide_true,br_true,rd_at' (e:=tTxn) hi,e4]
  rw [show ilt 0 (i:Int)=decide (0<i) from ilt_nn 0 i]
  by_cases h0:0<i
  ·have hi1:i - 1<l.length:=by omega
   have e3:isub .i64 (i:Int) 1=((i - 1:Nat):Int):=by rw [isub_s (by omega) (by omega) (by omega) (by omega)];omega
   obtain ⟨q,rfl⟩:∃ q,k=q+3:=⟨k - 3,by omega⟩
   rw [decide_eq_true h0,br_true,e3,inL_nat,natOf_nat,rd_at' (e:=tTxn) hi1,decide_eq_true hi1,br_true,cmpD_is,bnd_some,show ile 0 (cmpD l[i - 1].1 l[i].1)=decide (0≤cmpD l[i - 1].1 l[i].1) from rfl]
   have hcc:cmpD l[i - 1].1 l[i].1<0 ↔ dotLt l[i - 1].1 l[i].1=true:=by rw [← cmp_lt0];exact decide_eq_true_iff.symm
   by_cases hc:0≤cmpD l[i - 1].1 l[i].1
   ·exact .inr ⟨fun h=>by have:=hcc.2 (h hi h0);omega,by rw [decide_eq_true hc,br_true]⟩
   ·exact .inl ⟨fun _ _=>hcc.1 (by omega),by rw [decide_eq_false hc,br_false]⟩
  ·exact .inl ⟨fun _ h=>absurd h h0,by rw [decide_eq_false h0,br_false]⟩) (fun n=>by
  simp only [z1R.l2_eq,ilt_nat,Nat.lt_irrefl,decide_false,br_false]) k 0 (by omega) (by omega)
 exact ⟨b,hb,hbi.trans risB_iff.symm⟩
end Go.Proofs.YtggcagclpkhlhaaGreatDoor
end
noncomputable section
/- What is told as bytes is read again: numbers. -/
namespace Go.Proofs.YtggcagclpkhlhaaGreatDoor
open Pal
theorem bk_byte {s r:List UInt8} {i:Nat} {b:UInt8} (h:s.drop i=b::r):i<s.length∧byteAt s (i:Int)=((b.toNat:Nat):Int)∧s.drop (i+1)=r:=by
 have hl:i<s.length:=by
  rcases Nat.lt_or_ge i s.length with h1 | h1
  ·exact h1
  ·rw [List.drop_eq_nil_of_le h1] at h;cases h
 rw [List.drop_eq_getElem_cons hl] at h
 injection h with h1 h2
 refine ⟨hl,?_,h2⟩
 unfold byteAt
 rw [Int.toNat_natCast,List.getD_eq_getElem?_getD,List.getElem?_eq_getElem hl,h1];rfl
theorem back_l (k:Nat) (s t:List UInt8) (hS:s.length<4000000):∀ (j i v n m:Nat),i+j=8→j+1≤m→n<2 ^ (7 * j)→(0<i→0<n)→v<2 ^ (7 * i)→s.drop i=packB n++t →
  z0p.l3 k m (v:Int) (i:Int) (s,0)=some (((2 ^ (7 * i) * n+v:Nat):Int),(t,0))
 | 0,i,v,n,m,hj,_,hn,hp,_,_=>by
  have h0:n<1:=hn
  have:=hp (by omega);omega
 | j+1,i,v,n,0,hj,hm,_,_,_,_=>by omega
 | j+1,i,v,n,m+1,hj,hm,hn,hp,hv,hd=>by
  have hi8:i<8:=by omega
  have e1:ieq (i:Int) 8=false:=by rw [ieq_dec];exact decide_eq_false (by omega)
  have e7:ilt (imul .i64 7 (i:Int)) 0=false:=by
   show decide (IntKind.wrap .i64 (7 * (i:Int))<0)=false
   rw [wrap64 (by omega) (by omega)];exact decide_eq_false (by omega)
  have e12:iadd .i64 (i:Int) 1=((i+1:Nat):Int):=iadd_nat (by omega)
  obtain ⟨c,b,r,hb,hc,hcb,hc256⟩:∃ (c:Nat) (b:UInt8) (r:List UInt8),packB n++t=b::r∧b.toNat=c∧(if n<128 then c=n∧r=t else c=n % 128+128∧r=packB (n / 128)++t)∧c<256:=by
   by_cases h:n<128
   ·refine ⟨n,UInt8.ofNat n,t,by rw [packB_lo h];rfl,?_,by rw [if_pos h];exact ⟨rfl,rfl⟩,by omega⟩
    rw [UInt8.toNat_ofNat'];omega
   ·refine ⟨n % 128+128,UInt8.ofNat (n % 128+128),packB (n / 128)++t,by rw [packB_hi h];rfl,?_,by rw [if_neg h];exact ⟨rfl,rfl⟩,by omega⟩
    rw [UInt8.toNat_ofNat'];omega
  rw [hb] at hd
  obtain ⟨hl,hby,hdr⟩:=bk_byte hd
  rw [hc] at hby
  have e4:ile (ilen s) (i:Int)=false:=by unfold ile ilen;exact decide_eq_false (by omega)
  have e6:inL (i:Int) s=true:=by rw [inL_nat];exact decide_eq_true hl
  have hw:iwrap .i64 (c:Int)=(c:Int):=wrap64 (by omega) (by omega)
  obtain ⟨g1,g2⟩:=num_step (c:=c) hi8 hc256 hv
  have e8:ile 128 (c:Int)=decide (128≤c):=by unfold ile;exact decide_eq_decide.2 ⟨fun h=>by omega,fun h=>by omega⟩
  have e10:ieq (c:Int) 0=decide (c=0):=by rw [ieq_dec];exact decide_eq_decide.2 ⟨fun h=>by omega,fun h=>by omega⟩
  have e11:ilt 0 (i:Int)=decide (0<i):=ilt_nn 0 i
  rw [z0p.l3_eq,fine_is]
  simp only [bnd_some,decide_true,br_true,e1,br_false,e4,e6,e7,hby,hw,e8,e10,e11,g1,e12]
  by_cases h:n<128
  ·rw [if_pos h] at hcb
   obtain ⟨hcn,hr⟩:=hcb
   have hcm:c % 128=n:=by omega
   have hc2:¬ 128≤c:=by omega
   rw [decide_eq_false hc2,br_false,hcm]
   have hin:inS ((i+1:Nat):Int) (ilen s) (ilen s)=true:=by
    have q1:((i+1:Nat):Int)≤(s.length:Int):=by omega
    show (decide ((0:Int)≤((i+1:Nat):Int)) && decide (((i+1:Nat):Int)≤(s.length:Int)) && decide ((s.length:Int)≤(s.length:Int)))=true
    rw [decide_eq_true q1,decide_eq_true (show (0:Int)≤((i+1:Nat):Int) by omega),decide_eq_true (Int.le_refl _)];rfl
   have hpc:piece s ((i+1:Nat):Int) (ilen s)=t:=by
    unfold piece ilen
    rw [Int.toNat_natCast,Int.toNat_natCast,List.take_length,hdr,hr]
   rw [hin,hpc,br_true]
   by_cases hc0:c=0
   ·have h0:¬ 0<i:=fun h=>by have:=hp h;omega
    rw [decide_eq_true hc0,decide_eq_false h0];rfl
   ·rw [decide_eq_false hc0];rfl
  ·rw [if_neg h] at hcb
   obtain ⟨hcn,hr⟩:=hcb
   have hcm:c % 128=n % 128:=by omega
   have hc2:128≤c:=by omega
   rw [decide_eq_true hc2,br_true,hcm]
   rw [hcm] at g2
   have e2:2 ^ (7 * (j+1))=2 ^ (7 * j) * 128:=by rw [show 7 * (j+1)=7 * j+7 by omega,Nat.pow_add]
   have e3:2 ^ (7 * (i+1))=2 ^ (7 * i) * 128:=by rw [show 7 * (i+1)=7 * i+7 by omega,Nat.pow_add]
   rw [back_l k s t hS j (i+1) _ (n / 128) m (by omega) (by omega) (by rw [e2] at hn;omega) (fun _=>by omega) g2 (by rw [hdr,hr])]
   have e5:2 ^ (7 * (i+1)) * (n / 128)+(2 ^ (7 * i) * (n % 128)+v)=2 ^ (7 * i) * n+v:=by
    have e9:2 ^ (7 * i) * n=2 ^ (7 * i) * (128 * (n / 128)+n % 128):=by rw [Nat.div_add_mod]
    rw [e3,e9,Nat.mul_add,Nat.mul_assoc];omega
   rw [e5]
theorem back_int (k n:Nat) (t:List UInt8) (hk:12<k) (hn:n<72057594037927936) (hS:(packB n++t).length<4000000):z0p.f k (packB n++t,0)=some ((n:Int),(t,0)):=by
 rw [z0p.f_eq]
 have:=back_l k (packB n++t) t hS 8 0 0 n k (by omega) (by omega) (by show n<2 ^ 56;exact hn) (fun h=>by omega) (by decide) rfl
 simpa using this
end Go.Proofs.YtggcagclpkhlhaaGreatDoor
end
noncomputable section
/- What is told as bytes is read again: dots, vectors, rows of dots and sets. -/
namespace Go.Proofs.YtggcagclpkhlhaaGreatDoor
open Pal
def codeD (d:Dot):List UInt8:=packB d.1.toNat++packB d.2.toNat
def codeV (v:Vec):List UInt8:=List.flatMap (fun n:Int=>packB n.toNat) v
def codeL (l:List Dot):List UInt8:=packB l.length++l.flatMap codeD
def codeS (s:DSet):List UInt8:=codeV s.1++codeL s.2
theorem rightD_rng {d:Dot} (h:rightD d=true):0≤d.1∧d.1<16∧1≤d.2∧d.2≤1048576:=of_decide_eq_true h
theorem back_dot (k:Nat) (d:Dot) (t:List UInt8) (hd:rightD d=true) (hk:12<k) (hS:(codeD d++t).length<4000000):z27.f k (codeD d++t,0)=some (d,(t,0)):=by
 obtain ⟨h1,h2,h3,h4⟩:=rightD_rng hd
 have e1:((d.1.toNat:Nat):Int)=d.1:=Int.toNat_of_nonneg h1
 have e2:((d.2.toNat:Nat):Int)=d.2:=Int.toNat_of_nonneg (by omega)
 have ea:codeD d++t=packB d.1.toNat++(packB d.2.toNat++t):=by unfold codeD;rw [List.append_assoc]
 rw [ea] at hS ⊢
 have hS2:(packB d.2.toNat++t).length<4000000:=by rw [List.length_append] at hS;omega
 rw [z27.f_eq,back_int k _ _ hk (by omega) hS]
 simp only [bnd_some]
 rw [back_int k _ _ hk (by omega) hS2,e1,e2]
 have bt:bnot true=false:=rfl
 simp only [bnd_some,fault_is,ieq_dec,decide_true,br_true,right_is,hd,bt,br_false]
theorem codeD_pos (d:Dot):0<(codeD d).length:=by
 unfold codeD;rw [List.length_append];have:=packB_pos d.1.toNat;omega
theorem codes_len {α:Type} (f:α→List UInt8) (hf:∀ x,0<(f x).length):∀ (l:List α),l.length≤(l.flatMap f).length
 | []=>by simp
 | x::l=>by
  have:=codes_len f hf l;have:=hf x
  simp only [List.flatMap_cons,List.length_append,List.length_cons];omega
theorem back_many (k n:Nat) (most:Int) (t:List UInt8) (hk:12<k) (hn:n<72057594037927936) (hm:(n:Int)≤most) (hl:n≤t.length) (hS:(packB n++t).length<4000000):z0k.f k most (packB n++t,0)=some ((n:Int),(t,0)):=by
 rw [z0k.f_eq,back_int k n t hk hn hS]
 have e1:ilt most (n:Int)=false:=decide_eq_false (by omega)
 have e2:ilt (ilen t) (n:Int)=false:=by unfold ilt ilen;exact decide_eq_false (by omega)
 have bt:bnot true=false:=rfl
 simp only [bnd_some,fine_is,decide_true,bt,br_false,e1,e2]
theorem back_l3 (k:Nat) (hk:12<k) (N:Nat) (hN:N<1000000) (t:List UInt8):∀ (n i:Nat) (x l:List Dot),i+l.length=N→N<n+i→x.length=i→(∀ d ∈ l,rightD d=true)→(l.flatMap codeD++t).length<4000000 →
  z0s.l3 k n x (N:Int) (i:Int) (l.flatMap codeD++t,0)=some (x++l,(t,0))
 | 0,i,_,_,h,h',_,_,_=>by omega
 | n+1,i,x,[],h,_,_,_,_=>by
  have hi:N=i:=by simpa using h.symm
  subst hi
  rw [z0s.l3_eq,ilt_nn,decide_eq_false (Nat.lt_irrefl _)]
  have bt:bnot true=false:=rfl
  simp only [br_false,fault_is,bnd_some,ieq_dec,decide_true,bt,List.append_nil,List.flatMap_nil,List.nil_append]
 | n+1,i,x,d::l,h,h',hx,hr,hS=>by
  simp only [List.length_cons] at h
  have e4:iadd .i64 (i:Int) 1=((i+1:Nat):Int):=iadd_nat (by omega)
  have ea:(d::l).flatMap codeD++t=codeD d++(l.flatMap codeD++t):=by rw [List.flatMap_cons,List.append_assoc]
  rw [ea] at hS ⊢
  have hS2:(l.flatMap codeD++t).length<4000000:=by rw [List.length_append] at hS;omega
  rw [z0s.l3_eq,ilt_nn,decide_eq_true (show i<N by omega),back_dot k d _ (hr d (by simp)) hk hS,e4]
  simp only [br_true,bnd_some,room1 (show x.length<4000000 by omega)]
  have:=back_l3 k hk N hN t n (i+1) (app x (d::[])) l (by omega) (by omega) (by simp [app,hx]) (fun e he=>hr e (List.mem_cons_of_mem _ he)) hS2
  refine this.trans ?_
  simp [app]
theorem back_list (k:Nat) (l:List Dot) (most:Int) (t:List UInt8) (hr:∀ d ∈ l,rightD d=true) (hm:(l.length:Int)≤most) (hk:12<k) (hl:l.length<k) (hk2:k<1000000) (hS:(codeL l++t).length<4000000) :
  z0s.f k most (codeL l++t,0)=some (l,(t,0)):=by
 have ea:codeL l++t=packB l.length++(l.flatMap codeD++t):=by unfold codeL;rw [List.append_assoc]
 rw [ea] at hS ⊢
 have hS2:(l.flatMap codeD++t).length<4000000:=by rw [List.length_append] at hS;omega
 have hlen:=codes_len codeD codeD_pos l
 rw [z0s.f_eq,back_many k _ most _ hk (by omega) hm (by rw [List.length_append];omega) hS]
 simp only [bnd_some]
 exact back_l3 k hk l.length (by omega) t k 0 [] l (by omega) (by omega) rfl hr hS2
end Go.Proofs.YtggcagclpkhlhaaGreatDoor
end
noncomputable section
/- Knowledge: the program and the document read the same, and what is told is read again. -/
namespace Go.Proofs.YtggcagclpkhlhaaGreatDoor
open Pal
def codeU (u:Undo):List UInt8:=codeD u.1++packB u.2.toNat
def codeT (l:List Undo):List UInt8:=packB l.length++l.flatMap codeU
def codeK (a:Know):List UInt8:=(codeS a.1++codeT a.2.1)++codeS a.2.2
theorem roomS_ok {a b:List UInt8} (h1:a.length≤4000000000) (h2:b.length≤4000000000):roomS a b=true:=decide_eq_true (by omega)
theorem packB_le {n:Nat} (h:n<72057594037927936):(packB n).length≤8:=packB_len 7 n h
theorem codeD_le {d:Dot} (h:rightD d=true):(codeD d).length≤16:=by
 obtain ⟨h1,h2,h3,h4⟩:=rightD_rng h
 have:=packB_le (n:=d.1.toNat) (by omega)
 have:=packB_le (n:=d.2.toNat) (by omega)
 unfold codeD;rw [List.length_append];omega
theorem codeU_le {u:Undo} (h:rightU u=true):(codeU u).length≤24:=by
 obtain ⟨h1,h2,h3⟩:=(rightU_iff u).1 h
 have:=codeD_le h1
 have:=packB_le (n:=u.2.toNat) (by omega)
 unfold codeU;rw [List.length_append];omega
theorem codes_le {α:Type} (f:α→List UInt8) (c:Nat):∀ (l:List α),(∀ x ∈ l,(f x).length≤c)→(l.flatMap f).length≤c * l.length
 | [],_=>by simp
 | x::l,h=>by
  have h1:=h x (by simp)
  have h2:=codes_le f c l (fun y hy=>h y (List.mem_cons_of_mem _ hy))
  rw [List.flatMap_cons,List.length_append,List.length_cons,Nat.mul_add,Nat.mul_one];omega
theorem dcode_is (k:Nat) {d:Dot} (h:rightD d=true):z2e.f k d=some (codeD d):=by
 obtain ⟨h1,h2,h3,h4⟩:=rightD_rng h
 have p1:=packB_le (n:=d.1.toNat) (by omega)
 have p2:=packB_le (n:=d.2.toNat) (by omega)
 rw [z2e.f_eq,packI_is (n:=d.1) (by omega),packI_is (n:=d.2) (by omega)]
 simp only [bnd_some]
 rw [roomS_ok (by omega) (by omega)];rfl
theorem vcode_l (k:Nat) (v:Vec) (hv:VOk v):∀ (n i:Nat) (x:List UInt8),i≤16→16<n+i→x.length≤100+8 * i→z26.l3 k n x v (i:Int)=some (x++List.flatMap (fun n:Int=>packB n.toNat) (List.drop i v))
 | 0,i,_,h,h',_=>by omega
 | n+1,i,x,h,h',hx=>by
  have hvl:=hv.len
  rw [z26.l3_eq,show ilt (i:Int) 16=decide (i<16) from ilt_nn i 16,inB_nat,natOf_nat]
  by_cases hi:i<16
  ·have hil:i<List.length v:=by omega
   have e:rd (.int .i64) v i=v[i]:=rd_at' (e:=.int .i64) hil
   have hge:0≤v[i]∧v[i]≤1048576:=by
    have h1:=hv.lo (i:Int) (by omega) (by omega)
    have h2:=hv.hi (i:Int) (by omega) (by omega)
    rw [vat_get hil] at h1 h2;exact ⟨h1,h2⟩
   have e4:iadd .i64 (i:Int) 1=((i+1:Nat):Int):=iadd_nat (by omega)
   have hp:(packB v[i].toNat).length≤8:=packB_le (by omega)
   have ed:List.drop i v=v[i]::List.drop (i+1) v:=List.drop_eq_getElem_cons hil
   rw [decide_eq_true hi,e,packI_is (n:=v[i]) (by omega),e4,ed,List.flatMap_cons]
   simp only [br_true,bnd_some]
   rw [roomS_ok (by omega) (by omega),br_true]
   refine (vcode_l k v hv n (i+1) _ (by omega) (by omega) (by unfold app;rw [List.length_append];omega)).trans ?_
   unfold app;rw [List.append_assoc]
  ·have e0:List.drop i v=[]:=List.drop_eq_nil_of_le (by omega)
   rw [decide_eq_false hi,br_false,e0];simp
theorem vcode_is (k:Nat) {v:Vec} (hv:VOk v) (hk:17<k):z26.f k v=some (codeV v):=by
 rw [z26.f_eq]
 exact vcode_l k v hv k 0 [] (by omega) (by omega) (by simp)
theorem codeV_le {v:Vec} (hv:VOk v):(codeV v).length≤128:=by
 have hvl:=hv.len
 have:=codes_le (fun n:Int=>packB n.toNat) 8 v (fun x hx=>by
  obtain ⟨i,hi,rfl⟩:=List.getElem_of_mem hx
  have h1:=hv.lo (i:Int) (by omega) (by omega)
  have h2:=hv.hi (i:Int) (by omega) (by omega)
  rw [vat_get hi] at h1 h2
  exact packB_le (by omega))
 unfold codeV;omega
theorem lcode_l (k:Nat) (l:List Dot) (hr:∀ d ∈ l,rightD d=true) (hl:l.length<1000000):∀ (n i:Nat) (x:List UInt8),i≤l.length→l.length<n+i→x.length≤100+16 * i→z1X.l3 k n x l (ilen l) (i:Int)=some (x++(l.drop i).flatMap codeD)
 | 0,i,_,h,h',_=>by omega
 | n+1,i,x,h,h',hx=>by
  rw [z1X.l3_eq,ilt_nat,inL_nat,natOf_nat]
  by_cases hi:i<l.length
  ·have hd:=hr l[i] (List.getElem_mem hi)
   have hp:=codeD_le hd
   have e4:iadd .i64 (i:Int) 1=((i+1:Nat):Int):=iadd_nat (by omega)
   have ed:l.drop i=l[i]::l.drop (i+1):=List.drop_eq_getElem_cons hi
   rw [decide_eq_true hi,rd_at' (e:=tDot) hi,dcode_is k hd,e4,ed,List.flatMap_cons]
   simp only [br_true,bnd_some]
   rw [roomS_ok (by omega) (by omega),br_true]
   refine (lcode_l k l hr hl n (i+1) _ (by omega) (by omega) (by unfold app;rw [List.length_append];omega)).trans ?_
   unfold app;rw [List.append_assoc]
  ·have e0:l.drop i=[]:=List.drop_eq_nil_of_le (by omega)
   rw [decide_eq_false hi,br_false,e0];simp
theorem lcode_is (k:Nat) {l:List Dot} (hr:∀ d ∈ l,rightD d=true) (hl:l.length<k) (hk:k<1000000):z1X.f k l=some (codeL l):=by
 have e:(ilen l).toNat=l.length:=rfl
 have hp:=packB_le (n:=l.length) (by omega)
 rw [z1X.f_eq,packI_is (n:=ilen l) (by unfold ilen;omega),e,bnd_some]
 exact lcode_l k l hr (by omega) k 0 _ (by omega) (by omega) (by omega)
theorem codeL_le {l:List Dot} (hr:∀ d ∈ l,rightD d=true) (hl:l.length<1000000):(codeL l).length≤8+16 * l.length:=by
 have hp:=packB_le (n:=l.length) (by omega)
 have:=codes_le codeD 16 l (fun d hd=>codeD_le (hr d hd))
 unfold codeL;rw [List.length_append];omega
theorem scode_is (k:Nat) {s:DSet} (hs:Can s) (hl:s.2.length<k) (h17:17<k) (hk:k<1000000):z1G.f k s=some (codeS s):=by
 have h1:=codeV_le hs.vok
 have h2:=codeL_le hs.rt (by omega)
 rw [z1G.f_eq,vcode_is k hs.vok h17,lcode_is k hs.rt hl hk]
 simp only [bnd_some]
 rw [roomS_ok (by omega) (by omega)];rfl
theorem codeS_le {s:DSet} (hs:Can s) {n:Nat} (hl:s.2.length≤n) (hn:n<1000000):(codeS s).length≤136+16 * n:=by
 have h1:=codeV_le hs.vok
 have h2:=codeL_le hs.rt (by omega)
 unfold codeS;rw [List.length_append];omega
theorem tcode_l (k:Nat) (l:List Undo) (hr:∀ u ∈ l,rightU u=true) (hl:l.length<1000000):∀ (n i:Nat) (x:List UInt8),i≤l.length→l.length<n+i→x.length≤100+24 * i→z1z.l3 k n x l (ilen l) (i:Int)=some (x++(l.drop i).flatMap codeU)
 | 0,i,_,h,h',_=>by omega
 | n+1,i,x,h,h',hx=>by
  rw [z1z.l3_eq,ilt_nat,inL_nat,natOf_nat]
  by_cases hi:i<l.length
  ·have hd:=hr l[i] (List.getElem_mem hi)
   obtain ⟨hd1,hd2,hd3⟩:=(rightU_iff _).1 hd
   have hp:=codeU_le hd
   have hp1:=codeD_le hd1
   have hp2:=packB_le (n:=l[i].2.toNat) (by omega)
   have e4:iadd .i64 (i:Int) 1=((i+1:Nat):Int):=iadd_nat (by omega)
   have ed:l.drop i=l[i]::l.drop (i+1):=List.drop_eq_getElem_cons hi
   rw [decide_eq_true hi,rd_at' (e:=tUndo) hi,dcode_is k hd1,packI_is (n:=l[i].2) (by omega),e4,ed,List.flatMap_cons]
   simp only [br_true,bnd_some]
   rw [roomS_ok (by omega) (by omega),br_true]
   have ea:app (codeD l[i].1) (packB l[i].2.toNat)=codeU l[i]:=rfl
   rw [ea,roomS_ok (by omega) (by omega),br_true]
   refine (tcode_l k l hr hl n (i+1) _ (by omega) (by omega) (by unfold app;rw [List.length_append];omega)).trans ?_
   unfold app;rw [List.append_assoc]
  ·have e0:l.drop i=[]:=List.drop_eq_nil_of_le (by omega)
   rw [decide_eq_false hi,br_false,e0];simp
theorem tcode_is (k:Nat) {l:List Undo} (hr:∀ u ∈ l,rightU u=true) (hl:l.length<k) (hk:k<1000000):z1z.f k l=some (codeT l):=by
 have e:(ilen l).toNat=l.length:=rfl
 have hp:=packB_le (n:=l.length) (by omega)
 rw [z1z.f_eq,packI_is (n:=ilen l) (by unfold ilen;omega),e,bnd_some]
 exact tcode_l k l hr (by omega) k 0 _ (by omega) (by omega) (by omega)
theorem codeT_le {l:List Undo} (hr:∀ u ∈ l,rightU u=true) {n:Nat} (hl:l.length≤n) (hn:n<1000000):(codeT l).length≤8+24 * n:=by
 have hp:=packB_le (n:=l.length) (by omega)
 have:=codes_le codeU 24 l (fun d hd=>codeU_le (hr d hd))
 unfold codeT;rw [List.length_append];omega
theorem kcode_is (k:Nat) {a:Know} (ha:CanK a) (la:LenK 100 a) (hk:5000<k) (hk2:k<1000000):z1C.f k a=some (codeK a):=by
 have l1:=la.kn;have l2:=la.un;have l3:=la.se
 have c1:=codeS_le ha.kn l1 (by omega);have c2:=codeT_le ha.un.rt l2 (by omega);have c3:=codeS_le ha.se l3 (by omega)
 rw [z1C.f_eq,scode_is k ha.kn (by omega) (by omega) hk2,tcode_is k ha.un.rt (by omega) hk2,scode_is k ha.se (by omega) (by omega) hk2]
 simp only [bnd_some]
 rw [roomS_ok (by omega) (by omega),br_true,roomS_ok (by unfold app;rw [List.length_append];omega) (by omega)];rfl
theorem codeU_pos (u:Undo):0<(codeU u).length:=by
 unfold codeU;rw [List.length_append];have:=codeD_pos u.1;omega
theorem back_t3 (k:Nat) (h12:12<k) (N:Nat) (hN:N<1000000) (hNk:N<k) (hk2:k<1000000) (t:List UInt8):∀ (n i:Nat) (x l:List Undo),i+l.length=N→N<n+i→x.length=i→(∀ d ∈ l,rightU d=true)→CanU (x++l)→(l.flatMap codeU++t).length<4000000 →
  z19.l3 k n x (N:Int) (i:Int) (l.flatMap codeU++t,0)=some (x++l,(t,0))
 | 0,i,_,_,h,h',_,_,_,_=>by omega
 | n+1,i,x,[],h,_,hx,_,hc,_=>by
  have hi:N=i:=by simpa using h.symm
  subst hi
  rw [List.append_nil] at hc
  obtain ⟨b1,g1,i1⟩:=trightU2_is k x (by omega) (by omega) hk2
  have hb:b1=true:=i1.2 hc
  subst hb
  rw [z19.l3_eq,ilt_nn,decide_eq_false (Nat.lt_irrefl _)]
  have bt:bnot true=false:=rfl
  simp only [br_false,fault_is,bnd_some,ieq_dec,decide_true,br_true,g1,bt,List.append_nil,List.flatMap_nil,List.nil_append]
 | n+1,i,x,d::l,h,h',hx,hr,hc,hS=>by
  simp only [List.length_cons] at h
  have hd:=hr d (by simp)
  obtain ⟨hd1,hd2,hd3⟩:=(rightU_iff _).1 hd
  have e4:iadd .i64 (i:Int) 1=((i+1:Nat):Int):=iadd_nat (by omega)
  have ea:(d::l).flatMap codeU++t=codeD d.1++(packB d.2.toNat++(l.flatMap codeU++t)):=by rw [List.flatMap_cons,codeU,List.append_assoc,List.append_assoc]
  rw [ea] at hS ⊢
  have hS2:(packB d.2.toNat++(l.flatMap codeU++t)).length<4000000:=by rw [List.length_append] at hS;omega
  have hS3:(l.flatMap codeU++t).length<4000000:=by rw [List.length_append] at hS2;omega
  rw [z19.l3_eq,ilt_nn,decide_eq_true (show i<N by omega),back_dot k d.1 _ hd1 h12 hS,e4]
  simp only [br_true,bnd_some]
  rw [back_int k d.2.toNat _ h12 (by omega) hS2]
  simp only [bnd_some]
  rw [room1 (show x.length<4000000 by omega),br_true,Int.toNat_of_nonneg (by omega)]
  have:=back_t3 k h12 N hN hNk hk2 t n (i+1) (app x (d::[])) l (by omega) (by omega) (by simp [app,hx]) (fun e he=>hr e (List.mem_cons_of_mem _ he)) (by unfold app;rw [List.append_assoc];exact hc) hS3
  refine this.trans ?_
  simp [app]
theorem back_tally (k:Nat) (l:List Undo) (most:Int) (t:List UInt8) (hc:CanU l) (hm:(l.length:Int)≤most) (hk:12<k) (hl:l.length<k) (hk2:k<1000000) (hS:(codeT l++t).length<4000000) :
  z19.f k most (codeT l++t,0)=some (l,(t,0)):=by
 have ea:codeT l++t=packB l.length++(l.flatMap codeU++t):=by unfold codeT;rw [List.append_assoc]
 rw [ea] at hS ⊢
 have hS2:(l.flatMap codeU++t).length<4000000:=by rw [List.length_append] at hS;omega
 have hlen:=codes_len codeU codeU_pos l
 rw [z19.f_eq,back_many k _ most _ hk (by omega) hm (by rw [List.length_append];omega) hS]
 simp only [bnd_some]
 exact back_t3 k hk l.length (by omega) (by omega) hk2 t k 0 [] l (by omega) (by omega) rfl hc.rt hc hS2
end Go.Proofs.YtggcagclpkhlhaaGreatDoor
end
noncomputable section
/- How long a transaction's parts are. -/
namespace Go.Proofs.YtggcagclpkhlhaaGreatDoor
open Pal
structure SizT (k:Nat) (t:Txn):Prop where
 ops:t.2.2.2.2.length<k
 each:∀ o ∈ t.2.2.2.2,SizO k o
theorem SizT.len {k:Nat} {t:Txn} (h:SizT k t):LenT k t:=⟨h.ops,fun o ho=>⟨(h.each o ho).names,(h.each o ho).seen⟩⟩
theorem txn_rt (k:Nat) (t:Txn) (h:z0U.f k t=some 0):rightD t.1=true:=by
 rw [z0U.f_eq,rright_is,bnd_some] at h
 cases hr:rightD t.1 with
 | true=>rfl
 | false =>
  rw [hr] at h
  have bf:bnot false=true:=rfl
  rw [bf,br_true] at h
  cases h
theorem SizT.chk {k:Nat} {t:Txn} (h:SizT k t) (hk:10<k) (hk2:k<1000000):∃ e:Int,z0U.f k t=some e∧(e=0→rightD t.1=true):=by
 obtain ⟨e,_,g⟩:=txn_is k t h.each h.ops hk hk2
 exact ⟨e,g,fun he=>txn_rt k t (by rw [g,he])⟩
end Go.Proofs.YtggcagclpkhlhaaGreatDoor
end
noncomputable section
/- Transactions and lists of them: the program and the document read the same. -/
namespace Go.Proofs.YtggcagclpkhlhaaGreatDoor
open Pal
end Go.Proofs.YtggcagclpkhlhaaGreatDoor
end
noncomputable section
/- A state is read: the program and the document do the same. -/
namespace Go.Proofs.YtggcagclpkhlhaaGreatDoor
open Pal
abbrev Rows:=Ty.D (.arr 8 (.slc tDot))
end Go.Proofs.YtggcagclpkhlhaaGreatDoor
end
noncomputable section
/- What is told of texts, paths, values and operations is read again. -/
namespace Go.Proofs.YtggcagclpkhlhaaGreatDoor
open Pal
def codeX (s:Str):List UInt8:=packB (List.length s)++s
theorem codeX_len (s:Str) (h:List.length s<1000000):(codeX s).length≤8+List.length s:=by
 have:=packB_le (n:=List.length s) (by omega)
 unfold codeX;rw [List.length_append];omega
theorem codeX_pos (s:Str):0<(codeX s).length:=by
 unfold codeX;rw [List.length_append];have:=packB_pos (List.length s);omega
theorem text_code (k:Nat) (s:Str) (h:List.length s<1000000):z1U.f k s=some (codeX s):=by
 have e:(ilen s).toNat=List.length s:=rfl
 have hp:=packB_le (n:=List.length s) (by omega)
 rw [z1U.f_eq,packI_is (n:=ilen s) (by unfold ilen;omega),e,bnd_some,roomS_ok (by omega) (by omega)];rfl
theorem back_text (k:Nat) (s:Str) (t:List UInt8) (hk:12<k) (hS:(codeX s++t).length<4000000):z0g.f k (codeX s++t,0)=some (s,(t,0)):=by
 have ea:codeX s++t=packB (List.length s)++(s++t):=by unfold codeX;rw [List.append_assoc]
 rw [ea] at hS ⊢
 have hl:List.length s≤(s++t).length:=by rw [List.length_append];omega
 have hS2:(s++t).length<4000000:=by rw [List.length_append] at hS;omega
 have e1:ilt (ilen (s++t)) (List.length s:Int)=false:=by unfold ilt ilen;exact decide_eq_false (by omega)
 have i1:inS 0 (List.length s:Int) (ilen (s++t))=true:=inS_nn (a:=0) (by omega) hl
 have i2:inS (List.length s:Int) (ilen (s++t)) (ilen (s++t))=true:=inS_nn (b:=(s++t).length) (c:=(s++t).length) hl (by omega)
 have p1:piece (s++t) 0 (List.length s:Int)=s:=by unfold piece;simp
 have p2:piece (s++t) (List.length s:Int) (ilen (s++t))=t:=by
  unfold piece ilen;rw [Int.toNat_natCast,Int.toNat_natCast,List.take_length];simp
 have bt:bnot true=false:=rfl
 rw [z0g.f_eq,back_int k _ _ hk (by omega) hS]
 simp only [bnd_some,fine_is,decide_true,br_true,e1,br_false,bt,i1,i2,p1,p2]
def codeP (p:List Str):List UInt8:=packB p.length++p.flatMap codeX
theorem codeP_le {p:List Str} (h:ShortP p):(codeP p).length≤1544:=by
 have hp:=packB_le (n:=p.length) (by have:=h.1;omega)
 have:=codes_le codeX 128 p (fun s hs=>by have h1:=h.2 s hs;have:=codeX_len s (by omega);omega)
 have h1:=h.1
 unfold codeP;rw [List.length_append];omega
theorem pcode_l (k:Nat) (p:List Str) (hs:∀ s ∈ p,List.length s≤120) (hl:p.length<10000):∀ (n i:Nat) (x:List UInt8),i≤p.length→p.length<n+i→x.length≤100+128 * i→z1L.l3 k n x p (ilen p) (i:Int)=some (x++(p.drop i).flatMap codeX)
 | 0,i,_,h,h',_=>by omega
 | n+1,i,x,h,h',hx=>by
  rw [z1L.l3_eq,ilt_nat,inL_nat,natOf_nat]
  by_cases hi:i<p.length
  ·have hd:=hs p[i] (List.getElem_mem hi)
   have hp:=codeX_len p[i] (by omega)
   have e4:iadd .i64 (i:Int) 1=((i+1:Nat):Int):=iadd_nat (by omega)
   have ed:p.drop i=p[i]::p.drop (i+1):=List.drop_eq_getElem_cons hi
   rw [decide_eq_true hi,rd_at' (e:=.str) hi,text_code k _ (by omega),e4,ed,List.flatMap_cons]
   simp only [br_true,bnd_some]
   rw [roomS_ok (by omega) (by omega),br_true]
   refine (pcode_l k p hs hl n (i+1) _ (by omega) (by omega) (by unfold app;rw [List.length_append];omega)).trans ?_
   unfold app;rw [List.append_assoc]
  ·have e0:p.drop i=[]:=List.drop_eq_nil_of_le (by omega)
   rw [decide_eq_false hi,br_false,e0];simp
theorem pcode_is (k:Nat) {p:List Str} (h:ShortP p) (hk:12<k) (hk2:k<1000000):z1L.f k p=some (codeP p):=by
 have h1:=h.1
 have e:(ilen p).toNat=p.length:=rfl
 have hp:=packB_le (n:=p.length) (by omega)
 rw [z1L.f_eq,packI_is (n:=ilen p) (by unfold ilen;omega),e,bnd_some]
 exact pcode_l k p h.2 (by omega) k 0 _ (by omega) (by omega) (by omega)
theorem back_p3 (k:Nat) (hk:12<k) (N:Nat) (hN:N<10000) (t:List UInt8) (p:List Str) (hc:z1f.f k p=some 0):∀ (n i:Nat) (x l:List Str),i+l.length=N→N<n+i→x.length=i→x++l=p→(l.flatMap codeX++t).length<4000000 →
  z1H.l3 k n x (N:Int) (i:Int) (l.flatMap codeX++t,0)=some (p,(t,0))
 | 0,i,_,_,h,h',_,_,_=>by omega
 | n+1,i,x,[],h,_,_,hp,_=>by
  have hi:N=i:=by simpa using h.symm
  subst hi
  rw [List.append_nil] at hp
  subst hp
  rw [z1H.l3_eq,ilt_nn,decide_eq_false (Nat.lt_irrefl _)]
  have bt:bnot true=false:=rfl
  simp only [br_false,fault_is,bnd_some,ieq_dec,decide_true,br_true,hc,fail_is,if_true,bt,List.append_nil,List.flatMap_nil,List.nil_append]
 | n+1,i,x,d::l,h,h',hx,hp,hS=>by
  simp only [List.length_cons] at h
  have e4:iadd .i64 (i:Int) 1=((i+1:Nat):Int):=iadd_nat (by omega)
  have ea:(d::l).flatMap codeX++t=codeX d++(l.flatMap codeX++t):=by rw [List.flatMap_cons,List.append_assoc]
  rw [ea] at hS ⊢
  have hS2:(l.flatMap codeX++t).length<4000000:=by rw [List.length_append] at hS;omega
  rw [z1H.l3_eq,ilt_nn,decide_eq_true (show i<N by omega),back_text k d _ hk hS,e4]
  simp only [br_true,bnd_some,room1 (show x.length<4000000 by omega)]
  exact back_p3 k hk N hN t p hc n (i+1) (app x (d::[])) l (by omega) (by omega) (by simp [app,hx]) (by unfold app;rw [List.append_assoc];exact hp) hS2
theorem back_path (k:Nat) (p:List Str) (t:List UInt8) (hc:z1f.f k p=some 0) (hm:p.length≤8) (hk:12<k) (hk2:k<1000000) (hS:(codeP p++t).length<4000000) :
  z1H.f k (codeP p++t,0)=some (p,(t,0)):=by
 have ea:codeP p++t=packB p.length++(p.flatMap codeX++t):=by unfold codeP;rw [List.append_assoc]
 rw [ea] at hS ⊢
 have hS2:(p.flatMap codeX++t).length<4000000:=by rw [List.length_append] at hS;omega
 have hlen:=codes_len codeX codeX_pos p
 rw [z1H.f_eq,back_many k _ 8 _ hk (by omega) (by omega) (by rw [List.length_append];omega) hS]
 simp only [bnd_some]
 exact back_p3 k hk p.length (by omega) t p hc k 0 [] p (by omega) (by omega) rfl rfl hS2
def foldN (i:Int):Nat:=if i<0 then (-2 * i - 1).toNat else (2 * i).toNat
theorem foldN_le {i:Int} (h1:-2147483647≤i) (h2:i≤2147483647):foldN i<72057594037927936:=by
 unfold foldN;split <;> omega
theorem fold_is (k:Nat) (i:Int) (h1:-2147483647≤i) (h2:i≤2147483647):z1t.f k i=some ((foldN i:Nat):Int):=by
 rw [z1t.f_eq]
 unfold foldN
 by_cases h:i<0
 ·have m:imul .i64 (-2) i=-2 * i:=by
   show IntKind.wrap .i64 (-2 * i)=_
   rw [wrap64 (by omega) (by omega)]
  have s:isub .i64 (-2 * i) 1=-2 * i - 1:=by
   show IntKind.wrap .i64 (-2 * i - 1)=_
   rw [wrap64 (by omega) (by omega)]
  rw [show ilt i 0=true from decide_eq_true h,br_true,m,s,if_pos h,Int.toNat_of_nonneg (by omega)]
 ·have m:imul .i64 2 i=2 * i:=by
   show IntKind.wrap .i64 (2 * i)=_
   rw [wrap64 (by omega) (by omega)]
  rw [show ilt i 0=false from decide_eq_false h,br_false,m,if_neg h,Int.toNat_of_nonneg (by omega)]
theorem unf_fold (i:Int) (h1:-2147483647≤i) (h2:i≤2147483647):unf (foldN i)=i:=by
 unfold unf foldN
 by_cases h:i<0
 ·rw [if_pos h]
  obtain ⟨m,hm⟩:∃ m:Nat,i=-((m:Int)+1):=⟨(-i - 1).toNat,by omega⟩
  have e:(-2 * i - 1).toNat=2 * m+1:=by omega
  rw [e,if_neg (by omega)];omega
 ·rw [if_neg h]
  obtain ⟨m,hm⟩:∃ m:Nat,i=(m:Int):=⟨i.toNat,by omega⟩
  have e:(2 * i).toNat=2 * m:=by omega
  rw [e,if_pos (by omega)];omega
structure ValOK (v:Val):Prop where
 kind:1≤v.1∧v.1≤3
 text:v.1=2→v.2.1=0
 num:v.1 ≠ 2→v.2.2=[]∧-2147483647≤v.2.1∧v.2.1≤2147483647
theorem seq_nil {s:Str} (h:seq s []=true):s=[]:=by
 cases s with
 | nil=>rfl
 | cons a l=>cases h
theorem val_ok (k:Nat) (v:Val) (h:z0Y.f k v=some true):ValOK v:=by
 rw [z0Y.f_eq] at h
 obtain ⟨K,A,s⟩:=v
 simp only at h
 by_cases h1:K=1
 ·subst h1
  rw [show ieq (1:Int) 1=true from rfl,br_true] at h
  cases hq:seq s [] with
  | false=>rw [hq,br_false] at h;cases h
  | true =>
   rw [hq,br_true,show ile (-2147483647) A=decide (-2147483647≤A) from rfl] at h
   by_cases h2:-2147483647≤A
   ·rw [decide_eq_true h2,br_true] at h
    injection h with h
    exact ⟨by show (1:Int)≤1∧(1:Int)≤3;decide,fun h=>(by cases h),fun _=>⟨seq_nil hq,h2,of_decide_eq_true h⟩⟩
   ·rw [decide_eq_false h2,br_false] at h;cases h
 by_cases h2:K=2
 ·subst h2
  rw [show ieq (2:Int) 1=false from rfl,show ieq (2:Int) 2=true from rfl,br_false,br_true] at h
  refine ⟨by show (1:Int)≤2∧(2:Int)≤3;decide,fun _=>?_,fun h=>absurd rfl h⟩
  cases hr:runesB s with
  | none=>rw [hr] at h;cases h
  | some r =>
   rw [hr,bnd_some] at h
   cases h2:r.2 with
   | false=>rw [h2,br_false] at h;cases h
   | true =>
    rw [h2,br_true,ieq_dec] at h
    by_cases h0:A=0
    ·exact h0
    ·rw [decide_eq_false h0,br_false] at h;cases h
 by_cases h3:K=3
 ·subst h3
  rw [show ieq (3:Int) 1=false from rfl,show ieq (3:Int) 2=false from rfl,show ieq (3:Int) 3=true from rfl,br_false,br_false,br_true] at h
  cases hq:seq s [] with
  | false=>rw [hq,br_false] at h;cases h
  | true =>
   rw [hq,br_true,ieq_dec] at h
   refine ⟨by show (1:Int)≤3∧(3:Int)≤3;decide,fun h=>(by cases h),fun _=>⟨seq_nil hq,?_⟩⟩
   show -2147483647≤A∧A≤2147483647
   by_cases h0:A=0
   ·omega
   ·rw [decide_eq_false h0,br_false,ieq_dec] at h
    injection h with h
    have:=of_decide_eq_true h
    omega
 ·have f:∀ c:Int,K ≠ c→ieq K c=false:=fun c hc=>by rw [ieq_dec];exact decide_eq_false hc
  rw [f 1 h1,f 2 h2,f 3 h3,br_false,br_false,br_false] at h
  cases h
def codeVal (v:Val):List UInt8:=packB v.1.toNat++(if v.1=2 then codeX v.2.2 else packB (foldN v.2.1))
theorem codeVal_le {v:Val} (hv:ValOK v) (hl:v.2.2.length≤200):(codeVal v).length≤216:=by
 have h1:=hv.kind
 have p1:=packB_le (n:=v.1.toNat) (by omega)
 unfold codeVal;rw [List.length_append]
 split
 ·have:=codeX_len v.2.2 (by omega);omega
 ·rename_i h2
  obtain ⟨_,a,b⟩:=hv.num h2
  have:=packB_le (foldN_le a b);omega
theorem vacode_is (k:Nat) {v:Val} (hv:ValOK v) (hl:v.2.2.length≤200):z1d.f k v=some (codeVal v):=by
 have h1:=hv.kind
 have p1:=packB_le (n:=v.1.toNat) (by omega)
 unfold codeVal
 rw [z1d.f_eq,packI_is (n:=v.1) (by omega),ieq_dec]
 by_cases h2:v.1=2
 ·have:=codeX_len v.2.2 (by omega)
  rw [decide_eq_true h2,br_true,bnd_some,text_code k _ (by omega),bnd_some,roomS_ok (by omega) (by omega),br_true,if_pos h2];rfl
 ·obtain ⟨_,a,b⟩:=hv.num h2
  have hb:=foldN_le a b
  have:=packB_le hb
  rw [decide_eq_false h2,br_false,bnd_some,fold_is k _ a b,bnd_some,packI_is (n:=((foldN v.2.1:Nat):Int)) (by omega),Int.toNat_natCast,bnd_some,roomS_ok (by omega) (by omega),br_true,if_neg h2];rfl
theorem back_val (k:Nat) {v:Val} (t:List UInt8) (h:z0Y.f k v=some true) (hk:12<k) (hS:(codeVal v++t).length<4000000):z1y.f k (codeVal v++t,0)=some (v,(t,0)):=by
 have hv:=val_ok k v h
 have h1:=hv.kind
 have e1:((v.1.toNat:Nat):Int)=v.1:=Int.toNat_of_nonneg (by omega)
 have bt:bnot true=false:=rfl
 by_cases h2:v.1=2
 ·have ea:codeVal v++t=packB v.1.toNat++(codeX v.2.2++t):=by unfold codeVal;rw [if_pos h2,List.append_assoc]
  rw [ea] at hS ⊢
  have hS2:(codeX v.2.2++t).length<4000000:=by rw [List.length_append] at hS;omega
  have ev:(v.1,((0:Int),v.2.2))=v:=by rw [← hv.text h2]
  rw [z1y.f_eq,back_int k _ _ hk (by omega) hS,e1]
  simp only [bnd_some]
  rw [ieq_dec,decide_eq_true h2,br_true,back_text k _ _ hk hS2]
  simp only [bnd_some]
  rw [ev,h]
  simp only [bnd_some,fault_is,ieq_dec,decide_true,br_true,bt,br_false]
 ·obtain ⟨e0,a,b⟩:=hv.num h2
  have hb:=foldN_le a b
  have ea:codeVal v++t=packB v.1.toNat++(packB (foldN v.2.1)++t):=by unfold codeVal;rw [if_neg h2,List.append_assoc]
  rw [ea] at hS ⊢
  have hS2:(packB (foldN v.2.1)++t).length<4000000:=by rw [List.length_append] at hS;omega
  obtain ⟨u1,_⟩:=unfold_is k (foldN v.2.1) hb
  rw [unf_fold _ a b] at u1
  have ev:(v.1,(v.2.1,([]:Str)))=v:=by rw [← e0]
  rw [z1y.f_eq,back_int k _ _ hk (by omega) hS,e1]
  simp only [bnd_some]
  rw [ieq_dec,decide_eq_false h2,br_false,back_int k _ _ hk hb hS2]
  simp only [bnd_some]
  rw [u1]
  simp only [bnd_some]
  rw [ev,h]
  simp only [bnd_some,fault_is,ieq_dec,decide_true,br_true,bt,br_false]
end Go.Proofs.YtggcagclpkhlhaaGreatDoor
end
noncomputable section
/- What is told of operations is read again. -/
namespace Go.Proofs.YtggcagclpkhlhaaGreatDoor
open Pal
theorem path_len (k:Nat) (p:List Str) (h:z1f.f k p=some 0):p.length≤8:=by
 rw [z1f.f_eq,show ilt 8 (ilen p)=decide (8<p.length) from ilt_lenR 8 p] at h
 generalize ieq (ilen p) 0=q at h
 cases q with
 | true=>rw [br_true] at h;cases h
 | false =>
  rw [br_false] at h
  by_cases h1:8<p.length
  ·rw [decide_eq_true h1,br_true] at h;cases h
  ·omega
theorem refs_ok (k:Nat) (l:List (Dot × Int)) (h3:3≤k) (hl:l.length<1000000):∀ (n i:Nat),i≤l.length→l.length<n+i→z2m.l2 k n l l (ilen l) (i:Int)=some true→∀ u ∈ l.drop i,rightD u.1=true∧0≤u.2∧u.2<16
 | 0,i,_,h,_=>by omega
 | n+1,i,h,h',hb=>by
  rw [z2m.l2_eq,ilt_nat,inL_nat,natOf_nat] at hb
  by_cases hi:i<l.length
  ·rw [decide_eq_true hi,rd_at' (e:=tUndo) hi,right_is,iadd_nat (by omega)] at hb
   simp only [br_true,bnd_some] at hb
   rw [List.drop_eq_getElem_cons hi]
   have bt:bnot true=false:=rfl
   have bf:bnot false=true:=rfl
   cases hr:rightD l[i].1 with
   | false=>rw [hr,bf,br_true] at hb;cases hb
   | true =>
    rw [hr,bt,br_false,show ilt l[i].2 0=decide (l[i].2<0) from rfl,show ile 16 l[i].2=decide (16≤l[i].2) from rfl] at hb
    by_cases h0:l[i].2<0
    ·rw [decide_eq_true h0,br_true] at hb;cases hb
    rw [decide_eq_false h0,br_false] at hb
    by_cases h16:16≤l[i].2
    ·rw [decide_eq_true h16,br_true] at hb;cases hb
    rw [decide_eq_false h16,br_false,show ilt 0 (i:Int)=decide (0<i) from ilt_nn 0 i] at hb
    have hnext:z2m.l2 k n l l (ilen l) ((i+1:Nat):Int)=some true:=by
     by_cases hp:0<i
     ·have hi1:i - 1<l.length:=by omega
      have e3:isub .i64 (i:Int) 1=((i - 1:Nat):Int):=by rw [isub_s (by omega) (by omega) (by omega) (by omega)];omega
      rw [decide_eq_true hp,br_true,e3,inL_nat,natOf_nat,rd_at' (e:=tUndo) hi1,decide_eq_true hi1,br_true,ref_is k _ _ h3,bnd_some] at hb
      cases hq:ile 0 (cmpR l[i - 1] l[i]) with
      | true=>rw [hq,br_true] at hb;cases hb
      | false=>rw [hq,br_false] at hb;exact hb
     ·rw [decide_eq_false hp,br_false] at hb;exact hb
    intro u hu
    rcases List.mem_cons.1 hu with rfl | hu
    ·exact ⟨hr,by omega,by omega⟩
    ·exact refs_ok k l h3 hl n (i+1) (by omega) (by omega) hnext u hu
  ·rw [List.drop_eq_nil_of_le (by omega)]
   intro u hu;simp at hu
structure OkO (k:Nat) (o:Op):Prop where
 kind:o.1=1∨o.1=2∨o.1=3∨o.1=4∨o.1=5
 chk:z28.f k o=some 0
 path:z1f.f k o.2.1=some 0
 val0:o.1=3∨o.1=5→o.2.2.1=(0,(0,[]))
 valr:o.1=1∨o.1=2∨o.1=4→z0Y.f k o.2.2.1=some true
 amt0:o.1 ≠ 3→o.2.2.2.1=0
 amt3:-2147483647≤o.2.2.2.1∧o.2.2.2.1≤2147483647
 seen0:o.1=2∨o.1=3→o.2.2.2.2=[]
 seen:o.2.2.2.2.length≤256∧∀ u ∈ o.2.2.2.2,rightD u.1=true∧0≤u.2∧u.2<16
theorem nil_of {l:List (Dot × Int)} (h:ilt 0 (ilen l)=false):l=[]:=by
 rw [show ilt 0 (ilen l)=decide (0<l.length) from ilt_lenR 0 l] at h
 have:=of_decide_eq_false h
 exact List.eq_nil_of_length_eq_zero (by omega)
set_option maxHeartbeats 4000000 in
theorem op_ok (k:Nat) (o:Op) (so:SizO k o) (hk:10<k) (hk2:k<1000000) (h:z28.f k o=some 0):OkO k o:=by
 have hsave:=h
 obtain ⟨e1,p1,p2⟩:=path_is k o.2.1 so.path hk hk2 so.names
 obtain ⟨b1,v1,v2⟩:=val_is k o.2.2.1 hk so.val hk2
 obtain ⟨b2,r1,r2⟩:=refs_is k o.2.2.2.2 (by omega) so.seen hk2
 have hsl:=so.seen
 rw [z28.f_eq,z1S.f_eq,z1V.f_eq,p1,v1,r1] at h
 have bt:bnot true=false:=rfl
 have bf:bnot false=true:=rfl
 obtain ⟨K,P,V,A,S⟩:=o
 simp only at h p1 v1 r1 hsl
 by_cases h1:K<1
 ·rw [show ilt K 1=true from decide_eq_true h1,br_true] at h;cases h
 by_cases h5:5<K
 ·rw [show ilt K 1=false from decide_eq_false h1,show ilt 5 K=true from decide_eq_true h5,br_false,br_true] at h;cases h
 rw [show ilt K 1=false from decide_eq_false h1,show ilt 5 K=false from decide_eq_false h5,br_false,br_false,bnd_some] at h
 have he:e1=0:=by
  apply Classical.byContradiction
  intro hne
  rw [ieq_dec,decide_eq_false hne,bf,br_true] at h
  injection h with h;exact hne h
 subst he
 rw [show ieq (0:Int) 0=true from rfl,bt,br_false] at h
 have refsOK:b2=true→∀ u ∈ S,rightD u.1=true∧0≤u.2∧u.2<16:=by
  intro hb;subst hb
  rw [z2m.f_eq] at r1
  have:=refs_ok k S (by omega) (by omega) k 0 (by omega) (by omega) r1
  rwa [List.drop_zero] at this
 have seenOK:b2=true→ilt 256 (ilen S)=false→S.length≤256∧∀ u ∈ S,rightD u.1=true∧0≤u.2∧u.2<16:=by
  intro hb hl
  rw [show ilt 256 (ilen S)=decide (256<S.length) from ilt_lenR 256 S] at hl
  have:=of_decide_eq_false hl
  exact ⟨by omega,refsOK hb⟩
 have aOK:ieq A 0=true→A=0:=fun h=>by rw [ieq_dec] at h;exact of_decide_eq_true h
 have vOK:deq tValue V (0,(0,[]))=true→V=(0,(0,[])):=fun h=>by rw [deqVal] at h;exact of_decide_eq_true h
 clear p2 v2 r2 so hsl r1
 have hK:K=1∨K=2∨K=3∨K=4∨K=5:=by omega
 rcases hK with rfl | rfl | rfl | rfl | rfl
 ·simp only [show ieq (1:Int) 1=true from rfl,show ieq (1:Int) 2=false from rfl,show ieq (1:Int) 3=false from rfl,show ieq (1:Int) 4=false from rfl,show ieq (1:Int) 5=false from rfl,br_true,br_false,bt,bf,bnd_some] at h
  cases b1 with
  | false=>exact absurd h (by intro h;cases h)
  | true =>
  generalize hA:ieq A 0=qa at h
  cases qa with
  | false=>exact absurd h (by intro h;cases h)
  | true =>
  generalize hS:ilt 256 (ilen S)=qs at h
  cases qs with
  | true=>exact absurd h (by intro h;cases h)
  | false =>
  cases b2 with
  | false=>exact absurd h (by intro h;cases h)
  | true =>
  have a0:=aOK hA
  exact ⟨.inl rfl,hsave,p1,fun h=>(by rcases h with h | h <;> cases h),fun _=>v1,fun _=>a0,by show -2147483647≤A∧A≤2147483647;omega,fun h=>(by rcases h with h | h <;> cases h),seenOK rfl hS⟩
 ·simp only [show ieq (2:Int) 1=false from rfl,show ieq (2:Int) 2=true from rfl,show ieq (2:Int) 3=false from rfl,show ieq (2:Int) 4=false from rfl,show ieq (2:Int) 5=false from rfl,br_true,br_false,bt,bf,bnd_some] at h
  cases b1 with
  | false=>exact absurd h (by intro h;cases h)
  | true =>
  generalize hA:ieq A 0=qa at h
  cases qa with
  | false=>exact absurd h (by intro h;cases h)
  | true =>
  generalize hS:ilt 0 (ilen S)=qs at h
  cases qs with
  | true=>exact absurd h (by intro h;cases h)
  | false =>
  have a0:=aOK hA
  have s0:=nil_of hS
  exact ⟨.inr (.inl rfl),hsave,p1,fun h=>(by rcases h with h | h <;> cases h),fun _=>v1,fun _=>a0,by show -2147483647≤A∧A≤2147483647;omega,fun _=>s0,by show S.length≤256∧_;rw [s0];exact ⟨by simp,fun u hu=>by simp at hu⟩⟩
 ·simp only [show ieq (3:Int) 1=false from rfl,show ieq (3:Int) 2=false from rfl,show ieq (3:Int) 3=true from rfl,show ieq (3:Int) 4=false from rfl,show ieq (3:Int) 5=false from rfl,br_true,br_false,bt,bf,bnd_some] at h
  generalize hV:deq tValue V (0,(0,[]))=qv at h
  cases qv with
  | false=>exact absurd h (by intro h;cases h)
  | true =>
  generalize hA:ieq A 0=qa at h
  cases qa with
  | true=>exact absurd h (by intro h;cases h)
  | false =>
  generalize hA1:ile (-2147483647) A=q1 at h
  cases q1 with
  | false=>exact absurd h (by intro h;cases h)
  | true =>
  generalize hA2:ile A 2147483647=q2 at h
  cases q2 with
  | false=>exact absurd h (by intro h;cases h)
  | true =>
  generalize hS:ilt 0 (ilen S)=qs at h
  cases qs with
  | true=>exact absurd h (by intro h;cases h)
  | false =>
  have v0:=vOK hV
  have s0:=nil_of hS
  have a1:-2147483647≤A:=of_decide_eq_true hA1
  have a2:A≤2147483647:=of_decide_eq_true hA2
  exact ⟨.inr (.inr (.inl rfl)),hsave,p1,fun _=>v0,fun h=>(by rcases h with h | h | h <;> cases h),fun h=>absurd rfl h,⟨a1,a2⟩,fun _=>s0,by show S.length≤256∧_;rw [s0];exact ⟨by simp,fun u hu=>by simp at hu⟩⟩
 ·simp only [show ieq (4:Int) 1=false from rfl,show ieq (4:Int) 2=false from rfl,show ieq (4:Int) 3=false from rfl,show ieq (4:Int) 4=true from rfl,show ieq (4:Int) 5=false from rfl,br_true,br_false,bt,bf,bnd_some] at h
  cases b1 with
  | false=>exact absurd h (by intro h;cases h)
  | true =>
  generalize hA:ieq A 0=qa at h
  cases qa with
  | false=>exact absurd h (by intro h;cases h)
  | true =>
  generalize hS:ilt 256 (ilen S)=qs at h
  cases qs with
  | true=>exact absurd h (by intro h;cases h)
  | false =>
  cases b2 with
  | false=>exact absurd h (by intro h;cases h)
  | true =>
  have a0:=aOK hA
  exact ⟨.inr (.inr (.inr (.inl rfl))),hsave,p1,fun h=>(by rcases h with h | h <;> cases h),fun _=>v1,fun _=>a0,by show -2147483647≤A∧A≤2147483647;omega,fun h=>(by rcases h with h | h <;> cases h),seenOK rfl hS⟩
 ·simp only [show ieq (5:Int) 1=false from rfl,show ieq (5:Int) 2=false from rfl,show ieq (5:Int) 3=false from rfl,show ieq (5:Int) 4=false from rfl,show ieq (5:Int) 5=true from rfl,br_true,br_false,bt,bf,bnd_some] at h
  generalize hV:deq tValue V (0,(0,[]))=qv at h
  cases qv with
  | false=>exact absurd h (by intro h;cases h)
  | true =>
  generalize hA:ieq A 0=qa at h
  cases qa with
  | false=>exact absurd h (by intro h;cases h)
  | true =>
  generalize hS:ilt 256 (ilen S)=qs at h
  cases qs with
  | true=>exact absurd h (by intro h;cases h)
  | false =>
  cases b2 with
  | false=>exact absurd h (by intro h;cases h)
  | true =>
  have a0:=aOK hA
  have v0:=vOK hV
  exact ⟨.inr (.inr (.inr (.inr rfl))),hsave,p1,fun _=>v0,fun h=>(by rcases h with h | h | h <;> cases h),fun _=>a0,by show -2147483647≤A∧A≤2147483647;omega,fun h=>(by rcases h with h | h <;> cases h),seenOK rfl hS⟩
def goneO:Op:=(0,([],((0,(0,[])),(0,[]))))
theorem gone_val {k:Nat} {o:Op} (h:z2l.f k o=some true):o=goneO:=by
 rw [z2l.f_eq,ieq_dec,ieq0,deqVal,ieq_dec,ieq0] at h
 obtain ⟨K,P,V,A,S⟩:=o
 simp only at h
 by_cases h1:K=0
 case neg=>rw [decide_eq_false h1,br_false] at h;cases h
 rw [decide_eq_true h1,br_true] at h
 by_cases h2:P.length=0
 case neg=>rw [decide_eq_false h2,br_false] at h;cases h
 rw [decide_eq_true h2,br_true] at h
 by_cases h3:V=(0,(0,[]))
 case neg=>rw [decide_eq_false h3,br_false] at h;cases h
 rw [decide_eq_true h3,br_true] at h
 by_cases h4:A=0
 case neg=>rw [decide_eq_false h4,br_false] at h;cases h
 rw [decide_eq_true h4,br_true] at h
 injection h with h
 have h5:=of_decide_eq_true h
 rw [h1,List.eq_nil_of_length_eq_zero h2,h3,h4,List.eq_nil_of_length_eq_zero h5];rfl
def codeTl (o:Op):List UInt8 :=
 if o.1=3 then packB (foldN o.2.2.2.1) else if o.1=2 then codeVal o.2.2.1 else if o.1=5 then codeT o.2.2.2.2 else codeVal o.2.2.1++codeT o.2.2.2.2
def codeO (o:Op):List UInt8:=if o.1=0 then packB 0 else packB o.1.toNat++(codeP o.2.1++codeTl o)
theorem codeR_le {u:Undo} (h:rightD u.1=true∧0≤u.2∧u.2<16):(codeU u).length≤24:=by
 have:=codeD_le h.1
 have:=packB_le (n:=u.2.toNat) (by omega)
 unfold codeU;rw [List.length_append];omega
theorem codeRs_le {l:List Undo} (h:∀ u ∈ l,rightD u.1=true∧0≤u.2∧u.2<16) (hl:l.length≤256):(codeT l).length≤6152:=by
 have hp:=packB_le (n:=l.length) (by omega)
 have:=codes_le codeU 24 l (fun d hd=>codeR_le (h d hd))
 unfold codeT;rw [List.length_append];omega
theorem codeTl_le {k:Nat} {o:Op} (h:OkO k o) (hs:ShortO o):(codeTl o).length≤6400:=by
 obtain ⟨a,b⟩:=h.amt3
 have h1:=packB_le (foldN_le a b)
 have h2:=codeRs_le h.seen.2 h.seen.1
 have hv:=hs.val
 unfold codeTl
 by_cases c3:o.1=3
 ·rw [if_pos c3];omega
 rw [if_neg c3]
 by_cases c2:o.1=2
 ·have:=codeVal_le (val_ok k _ (h.valr (.inr (.inl c2)))) hv
  rw [if_pos c2];omega
 rw [if_neg c2]
 by_cases c5:o.1=5
 ·rw [if_pos c5];omega
 rw [if_neg c5,List.length_append]
 have:=codeVal_le (val_ok k _ (h.valr (by have:=h.kind;omega))) hv
 omega
theorem codeO_le {k:Nat} {o:Op} (h:o=goneO∨OkO k o) (hs:ShortO o):(codeO o).length≤8000:=by
 unfold codeO
 rcases h with rfl | h
 ·rw [if_pos (by rfl)];have:=packB_le (n:=0) (by omega);omega
 ·have h1:=codeTl_le h hs
  have h2:=codeP_le hs.path
  have h3:=packB_le (n:=o.1.toNat) (by have:=h.kind;omega)
  rw [if_neg (by have:=h.kind;omega),List.length_append,List.length_append];omega
theorem codeO_pos (o:Op):0<(codeO o).length:=by
 unfold codeO
 split
 ·exact packB_pos 0
 ·rw [List.length_append];have:=packB_pos o.1.toNat;omega
theorem rcode_l (k:Nat) (l:List Undo) (hr:∀ u ∈ l,rightD u.1=true∧0≤u.2∧u.2<16) (hl:l.length<1000000):∀ (n i:Nat) (x:List UInt8),i≤l.length→l.length<n+i→x.length≤10000+24 * i→z2j.l16 k n x l (ilen l) (i:Int)=some (x++(l.drop i).flatMap codeU)
 | 0,i,_,h,h',_=>by omega
 | n+1,i,x,h,h',hx=>by
  rw [z2j.l16_eq,ilt_nat,inL_nat,natOf_nat]
  by_cases hi:i<l.length
  ·have hd:=hr l[i] (List.getElem_mem hi)
   have hp:=codeR_le hd
   obtain ⟨hd1,hd2,hd3⟩:=hd
   have hp1:=codeD_le hd1
   have hp2:=packB_le (n:=l[i].2.toNat) (by omega)
   have e4:iadd .i64 (i:Int) 1=((i+1:Nat):Int):=iadd_nat (by omega)
   have ed:l.drop i=l[i]::l.drop (i+1):=List.drop_eq_getElem_cons hi
   rw [decide_eq_true hi,rd_at' (e:=tUndo) hi,dcode_is k hd1,packI_is (n:=l[i].2) (by omega),e4,ed,List.flatMap_cons]
   simp only [br_true,bnd_some]
   rw [roomS_ok (by omega) (by omega),br_true]
   have ea:app (codeD l[i].1) (packB l[i].2.toNat)=codeU l[i]:=rfl
   rw [ea,roomS_ok (by omega) (by omega),br_true]
   refine (rcode_l k l hr hl n (i+1) _ (by omega) (by omega) (by unfold app;rw [List.length_append];omega)).trans ?_
   unfold app;rw [List.append_assoc]
  ·have e0:l.drop i=[]:=List.drop_eq_nil_of_le (by omega)
   rw [decide_eq_false hi,br_false,e0];simp
theorem rcode_is (k:Nat) (x:List UInt8) {l:List Undo} (hr:∀ u ∈ l,rightD u.1=true∧0≤u.2∧u.2<16) (hl:l.length≤256) (hx:x.length≤9000) (hk:5000<k) (hk2:k<1000000) :
  (bnd (packI (ilen l)) fun r6=>br (roomS x r6) (z2j.l16 k k (app x r6) l (ilen l) 0) none)=some (x++codeT l):=by
 have e:(ilen l).toNat=l.length:=rfl
 have hp:=packB_le (n:=l.length) (by omega)
 rw [packI_is (n:=ilen l) (by unfold ilen;omega),e,bnd_some,roomS_ok (by omega) (by omega),br_true]
 refine (rcode_l k l hr (by omega) k 0 _ (by omega) (by omega) (by unfold app;rw [List.length_append];omega)).trans ?_
 rw [List.drop_zero];unfold app codeT;rw [List.append_assoc]
end Go.Proofs.YtggcagclpkhlhaaGreatDoor
end
noncomputable section
/- What is told of operations is read again: kind by kind. -/
namespace Go.Proofs.YtggcagclpkhlhaaGreatDoor
open Pal
theorem pI (n:Nat) (h:n<100):packI (n:Int)=some (packB n):=by rw [packI_is (n:=(n:Int)) (by omega),Int.toNat_natCast]
theorem ocode_0 (k:Nat):z2j.f k goneO=some (packB 0):=by
 have h0:packI 0=some (packB 0):=pI 0 (by decide)
 have e0:ieq (ilen ([]:List Undo)) 0=true:=rfl
 have e1:ieq (ilen ([]:List Str)) 0=true:=rfl
 have e2:deq tValue ((0,(0,[])):Val) (0,(0,[]))=true:=by rw [deqVal];exact decide_eq_true rfl
 rw [z2j.f_eq,z2l.f_eq]
 unfold goneO
 simp only [h0,bnd_some,show ieq (0:Int) 0=true from rfl,e0,e1,e2,br_true]
section
variable (k:Nat) (hk:5000<k) (hk2:k<1000000) (P:List Str) (V:Val) (A:Int) (S:List Undo) (hP:ShortP P) (hv:V.2.2.length≤200)
include hk hk2 hP
theorem rooms (n:Nat) (hn:n<100):roomS (packB n) (codeP P)=true∧(app (packB n) (codeP P)).length≤2000:=by
 have h1:=packB_le (n:=n) (by omega)
 have h2:=codeP_le hP
 exact ⟨roomS_ok (by omega) (by omega),by unfold app;rw [List.length_append];omega⟩
theorem ocode_3 (h1:-2147483647≤A) (h2:A≤2147483647):z2j.f k (3,(P,(V,(A,S))))=some (packB 3++(codeP P++packB (foldN A))):=by
 have h0:packI 3=some (packB 3):=pI 3 (by decide)
 have hb:=foldN_le h1 h2
 have hpl:=packB_le hb
 have hf:packI ((foldN A:Nat):Int)=some (packB (foldN A)):=by rw [packI_is (n:=((foldN A:Nat):Int)) (by omega),Int.toNat_natCast]
 obtain ⟨r1,r2⟩:=rooms k hk hk2 P hP 3 (by decide)
 have r3:roomS (app (packB 3) (codeP P)) (packB (foldN A))=true:=roomS_ok (by omega) (by omega)
 rw [z2j.f_eq,z2l.f_eq]
 simp only [h0,bnd_some,show ieq (3:Int) 0=false from rfl,show ieq (3:Int) 3=true from rfl,br_true,br_false,pcode_is k hP (by omega) hk2,r1,fold_is k A h1 h2,hf,r3]
 unfold app;rw [List.append_assoc]
include hv
theorem ocode_1 (hV:ValOK V) (hs:S.length≤256∧∀ u ∈ S,rightD u.1=true∧0≤u.2∧u.2<16):z2j.f k (1,(P,(V,(A,S))))=some (packB 1++(codeP P++(codeVal V++codeT S))):=by
 have h0:packI 1=some (packB 1):=pI 1 (by decide)
 have hvl:=codeVal_le hV hv
 obtain ⟨r1,r2⟩:=rooms k hk hk2 P hP 1 (by decide)
 have r3:roomS (app (packB 1) (codeP P)) (codeVal V)=true:=roomS_ok (by omega) (by omega)
 rw [z2j.f_eq,z2l.f_eq]
 simp only [h0,bnd_some,show ieq (1:Int) 0=false from rfl,show ieq (1:Int) 1=true from rfl,show ieq (1:Int) 2=false from rfl,show ieq (1:Int) 3=false from rfl,br_true,br_false,pcode_is k hP (by omega) hk2,r1,vacode_is k hV hv,r3]
 refine (rcode_is k _ hs.2 hs.1 (by unfold app at r2 ⊢;rw [List.length_append];omega) hk hk2).trans ?_
 unfold app;simp only [List.append_assoc]
theorem ocode_4 (hV:ValOK V) (hs:S.length≤256∧∀ u ∈ S,rightD u.1=true∧0≤u.2∧u.2<16):z2j.f k (4,(P,(V,(A,S))))=some (packB 4++(codeP P++(codeVal V++codeT S))):=by
 have h0:packI 4=some (packB 4):=pI 4 (by decide)
 have hvl:=codeVal_le hV hv
 obtain ⟨r1,r2⟩:=rooms k hk hk2 P hP 4 (by decide)
 have r3:roomS (app (packB 4) (codeP P)) (codeVal V)=true:=roomS_ok (by omega) (by omega)
 rw [z2j.f_eq,z2l.f_eq]
 simp only [h0,bnd_some,show ieq (4:Int) 0=false from rfl,show ieq (4:Int) 1=false from rfl,show ieq (4:Int) 2=false from rfl,show ieq (4:Int) 3=false from rfl,show ieq (4:Int) 4=true from rfl,br_true,br_false,pcode_is k hP (by omega) hk2,r1,vacode_is k hV hv,r3]
 refine (rcode_is k _ hs.2 hs.1 (by unfold app at r2 ⊢;rw [List.length_append];omega) hk hk2).trans ?_
 unfold app;simp only [List.append_assoc]
theorem ocode_2 (hV:ValOK V):z2j.f k (2,(P,(V,(A,S))))=some (packB 2++(codeP P++codeVal V)):=by
 have h0:packI 2=some (packB 2):=pI 2 (by decide)
 have hvl:=codeVal_le hV hv
 obtain ⟨r1,r2⟩:=rooms k hk hk2 P hP 2 (by decide)
 have r3:roomS (app (packB 2) (codeP P)) (codeVal V)=true:=roomS_ok (by omega) (by omega)
 rw [z2j.f_eq,z2l.f_eq]
 simp only [h0,bnd_some,show ieq (2:Int) 0=false from rfl,show ieq (2:Int) 1=false from rfl,show ieq (2:Int) 2=true from rfl,show ieq (2:Int) 3=false from rfl,br_true,br_false,pcode_is k hP (by omega) hk2,r1,vacode_is k hV hv,r3]
 unfold app;rw [List.append_assoc]
omit hv in
theorem ocode_5 (hs:S.length≤256∧∀ u ∈ S,rightD u.1=true∧0≤u.2∧u.2<16):z2j.f k (5,(P,(V,(A,S))))=some (packB 5++(codeP P++codeT S)):=by
 have h0:packI 5=some (packB 5):=pI 5 (by decide)
 obtain ⟨r1,r2⟩:=rooms k hk hk2 P hP 5 (by decide)
 rw [z2j.f_eq,z2l.f_eq]
 simp only [h0,bnd_some,show ieq (5:Int) 0=false from rfl,show ieq (5:Int) 1=false from rfl,show ieq (5:Int) 2=false from rfl,show ieq (5:Int) 3=false from rfl,show ieq (5:Int) 4=false from rfl,br_true,br_false,pcode_is k hP (by omega) hk2,r1]
 refine (rcode_is k _ hs.2 hs.1 (by omega) hk hk2).trans ?_
 unfold app;simp only [List.append_assoc]
end
theorem ocode_is (k:Nat) {o:Op} (h:o=goneO∨OkO k o) (hs:ShortO o) (hk:5000<k) (hk2:k<1000000):z2j.f k o=some (codeO o):=by
 rcases h with rfl | h
 ·rw [ocode_0];rfl
 ·have hK:=h.kind
  have hvr:=h.valr;have hse:=h.seen;have hv:=hs.val;have hP:=hs.path;have ha:=h.amt3
  clear h hs
  obtain ⟨K,P,V,A,S⟩:=o
  simp only at hK hvr hse hv hP ha
  rcases hK with rfl | rfl | rfl | rfl | rfl
  ·exact ocode_1 k hk hk2 P V A S hP hv (val_ok k V (hvr (.inl rfl))) hse
  ·exact ocode_2 k hk hk2 P V A S hP hv (val_ok k V (hvr (.inr (.inl rfl))))
  ·exact ocode_3 k hk hk2 P V A S hP ha.1 ha.2
  ·exact ocode_4 k hk hk2 P V A S hP hv (val_ok k V (hvr (.inr (.inr rfl)))) hse
  ·exact ocode_5 k hk hk2 P V A S hP hse
theorem back_s3 (k:Nat) (h12:12<k) (N:Nat) (hN:N<1000000) (t:List UInt8):∀ (n i:Nat) (x l:List Undo),i+l.length=N→N<n+i→x.length=i→(∀ u ∈ l,rightD u.1=true∧0≤u.2∧u.2<16)→(l.flatMap codeU++t).length<4000000 →
  z2i.l3 k n x (N:Int) (i:Int) (l.flatMap codeU++t,0)=some (x++l,(t,0))
 | 0,i,_,_,h,h',_,_,_=>by omega
 | n+1,i,x,[],h,_,hx,_,_=>by
  have hi:N=i:=by simpa using h.symm
  subst hi
  rw [z2i.l3_eq,ilt_nn,decide_eq_false (Nat.lt_irrefl _)]
  simp only [br_false,List.append_nil,List.flatMap_nil,List.nil_append]
 | n+1,i,x,d::l,h,h',hx,hr,hS=>by
  simp only [List.length_cons] at h
  obtain ⟨hd1,hd2,hd3⟩:=hr d (by simp)
  have e4:iadd .i64 (i:Int) 1=((i+1:Nat):Int):=iadd_nat (by omega)
  have ea:(d::l).flatMap codeU++t=codeD d.1++(packB d.2.toNat++(l.flatMap codeU++t)):=by rw [List.flatMap_cons,codeU,List.append_assoc,List.append_assoc]
  rw [ea] at hS ⊢
  have hS2:(packB d.2.toNat++(l.flatMap codeU++t)).length<4000000:=by rw [List.length_append] at hS;omega
  have hS3:(l.flatMap codeU++t).length<4000000:=by rw [List.length_append] at hS2;omega
  rw [z2i.l3_eq,ilt_nn,decide_eq_true (show i<N by omega),back_dot k d.1 _ hd1 h12 hS,e4]
  simp only [br_true,bnd_some]
  rw [back_int k d.2.toNat _ h12 (by omega) hS2]
  simp only [bnd_some]
  rw [room1 (show x.length<4000000 by omega),br_true,Int.toNat_of_nonneg (by omega)]
  have:=back_s3 k h12 N hN t n (i+1) (app x (d::[])) l (by omega) (by omega) (by simp [app,hx]) (fun e he=>hr e (List.mem_cons_of_mem _ he)) hS3
  refine this.trans ?_
  simp [app]
theorem back_seen (k:Nat) (l:List Undo) (t:List UInt8) (hr:l.length≤256∧∀ u ∈ l,rightD u.1=true∧0≤u.2∧u.2<16) (hk:5000<k) (hk2:k<1000000) (hS:(codeT l++t).length<4000000) :
  z2i.f k (codeT l++t,0)=some (l,(t,0)):=by
 have hr1:=hr.1
 have ea:codeT l++t=packB l.length++(l.flatMap codeU++t):=by unfold codeT;rw [List.append_assoc]
 rw [ea] at hS ⊢
 have hS2:(l.flatMap codeU++t).length<4000000:=by rw [List.length_append] at hS;omega
 have hlen:=codes_len codeU codeU_pos l
 rw [z2i.f_eq,back_many k _ 256 _ (by omega) (by omega) (by omega) (by rw [List.length_append];omega) hS]
 simp only [bnd_some]
 exact back_s3 k (by omega) l.length (by omega) t k 0 [] l (by omega) (by omega) rfl hr.2 hS2
theorem oback_0 (k:Nat) (t:List UInt8) (hk:12<k) (hS:(packB 0++t).length<4000000):z2k.f k (packB 0++t,0)=some (goneO,(t,0)):=by
 have hb:z0p.f k (packB 0++t,0)=some (0,(t,0)):=back_int k 0 _ hk (by decide) hS
 rw [z2k.f_eq,hb,bnd_some,show ieq (0:Int) 0=true from rfl,br_true];rfl
section
variable (k:Nat) (P:List Str) (V:Val) (S:List Undo) (t X1 X2:List UInt8)
theorem oback_1 (hb:z0p.f k (X1,0)=some (1,(X2,0))) (X3 X4:List UInt8) (hp:z1H.f k (X2,0)=some (P,(X3,0))) (hv:z1y.f k (X3,0)=some (V,(X4,0))) (hs:z2i.f k (X4,0)=some (S,(t,0))) (hc:z28.f k (1,(P,(V,(0,S))))=some 0) :
  z2k.f k (X1,0)=some ((1,(P,(V,(0,S)))),(t,0)):=by
 have bt:bnot true=false:=rfl
 rw [z2k.f_eq,hb,bnd_some,show ieq (1:Int) 0=false from rfl,br_false,hp,bnd_some,show ieq (1:Int) 3=false from rfl,br_false,show ieq (1:Int) 1=true from rfl,br_true,br_true,hv,bnd_some,hs,bnd_some]
 simp only [fault_is,bnd_some,show ieq (0:Int) 0=true from rfl,br_true,hc,fail_is,if_true,bt,br_false]
theorem oback_4 (hb:z0p.f k (X1,0)=some (4,(X2,0))) (X3 X4:List UInt8) (hp:z1H.f k (X2,0)=some (P,(X3,0))) (hv:z1y.f k (X3,0)=some (V,(X4,0))) (hs:z2i.f k (X4,0)=some (S,(t,0))) (hc:z28.f k (4,(P,(V,(0,S))))=some 0) :
  z2k.f k (X1,0)=some ((4,(P,(V,(0,S)))),(t,0)):=by
 have bt:bnot true=false:=rfl
 rw [z2k.f_eq,hb,bnd_some,show ieq (4:Int) 0=false from rfl,br_false,hp,bnd_some,show ieq (4:Int) 3=false from rfl,br_false,show ieq (4:Int) 1=false from rfl,br_false,show ieq (4:Int) 4=true from rfl,br_true,hv,bnd_some,hs,bnd_some]
 simp only [fault_is,bnd_some,show ieq (0:Int) 0=true from rfl,br_true,hc,fail_is,if_true,bt,br_false]
theorem oback_2 (hb:z0p.f k (X1,0)=some (2,(X2,0))) (X3:List UInt8) (hp:z1H.f k (X2,0)=some (P,(X3,0))) (hv:z1y.f k (X3,0)=some (V,(t,0))) (hc:z28.f k (2,(P,(V,(0,[]))))=some 0) :
  z2k.f k (X1,0)=some ((2,(P,(V,(0,[])))),(t,0)):=by
 have bt:bnot true=false:=rfl
 rw [z2k.f_eq,hb,bnd_some,show ieq (2:Int) 0=false from rfl,br_false,hp,bnd_some,show ieq (2:Int) 3=false from rfl,br_false,show ieq (2:Int) 1=false from rfl,br_false,show ieq (2:Int) 4=false from rfl,br_false,show ieq (2:Int) 2=true from rfl,br_true,hv,bnd_some]
 simp only [fault_is,bnd_some,show ieq (0:Int) 0=true from rfl,br_true,hc,fail_is,if_true,bt,br_false]
theorem oback_3 (A m:Int) (hb:z0p.f k (X1,0)=some (3,(X2,0))) (X3:List UInt8) (hp:z1H.f k (X2,0)=some (P,(X3,0))) (hv:z0p.f k (X3,0)=some (m,(t,0))) (hu:z0A.f k m=some A) (hc:z28.f k (3,(P,((0,(0,[])),(A,[]))))=some 0) :
  z2k.f k (X1,0)=some ((3,(P,((0,(0,[])),(A,[])))),(t,0)):=by
 have bt:bnot true=false:=rfl
 rw [z2k.f_eq,hb,bnd_some,show ieq (3:Int) 0=false from rfl,br_false,hp,bnd_some,show ieq (3:Int) 3=true from rfl,br_true,hv,bnd_some,hu,bnd_some]
 simp only [fault_is,bnd_some,show ieq (0:Int) 0=true from rfl,br_true,hc,fail_is,if_true,bt,br_false]
theorem oback_5 (hb:z0p.f k (X1,0)=some (5,(X2,0))) (X3:List UInt8) (hp:z1H.f k (X2,0)=some (P,(X3,0))) (hs:z2i.f k (X3,0)=some (S,(t,0))) (hc:z28.f k (5,(P,((0,(0,[])),(0,S))))=some 0) :
  z2k.f k (X1,0)=some ((5,(P,((0,(0,[])),(0,S)))),(t,0)):=by
 have bt:bnot true=false:=rfl
 rw [z2k.f_eq,hb,bnd_some,show ieq (5:Int) 0=false from rfl,br_false,hp,bnd_some,show ieq (5:Int) 3=false from rfl,br_false,show ieq (5:Int) 1=false from rfl,br_false,show ieq (5:Int) 4=false from rfl,br_false,show ieq (5:Int) 2=false from rfl,br_false,show ieq (5:Int) 5=true from rfl,br_true,hs,bnd_some]
 simp only [fault_is,bnd_some,show ieq (0:Int) 0=true from rfl,br_true,hc,fail_is,if_true,bt,br_false]
end
theorem back_op (k:Nat) {o:Op} (t:List UInt8) (h:o=goneO∨OkO k o) (hk:5000<k) (hk2:k<1000000) (hS:(codeO o++t).length<4000000):z2k.f k (codeO o++t,0)=some (o,(t,0)):=by
 rcases h with rfl | h
 ·exact oback_0 k t (by omega) hS
 ·have hK:=h.kind;have hvr:=h.valr;have hv0:=h.val0;have hse:=h.seen;have hp:=h.path;have ha:=h.amt3;have ha0:=h.amt0;have hs0:=h.seen0;have hc:=h.chk
  clear h
  obtain ⟨K,P,V,A,S⟩:=o
  simp only at hK hvr hv0 hse hp ha ha0 hs0 hc
  have pl:=path_len k P hp
  have i (n:Nat) (X:List UInt8) (hn:n<100) (hS:(packB n++X).length<4000000):=back_int k n X (by omega) (by omega) hS
  rcases hK with rfl | rfl | rfl | rfl | rfl
  ·have ea:codeO (1,(P,(V,(A,S))))++t=packB 1++(codeP P++(codeVal V++(codeT S++t))):=by
    show (packB 1++(codeP P++(codeVal V++codeT S)))++t=_
    simp only [List.append_assoc]
   have hA:A=0:=ha0 (by decide)
   subst hA
   rw [ea] at hS ⊢
   have s2:(codeP P++(codeVal V++(codeT S++t))).length<4000000:=by rw [List.length_append] at hS;omega
   have s3:(codeVal V++(codeT S++t)).length<4000000:=by rw [List.length_append] at s2;omega
   have s4:(codeT S++t).length<4000000:=by rw [List.length_append] at s3;omega
   exact oback_1 k P V S t _ _ (i 1 _ (by decide) hS) _ _ (back_path k P _ hp pl (by omega) hk2 s2) (back_val k _ (hvr (.inl rfl)) (by omega) s3) (back_seen k S t hse hk hk2 s4) hc
  ·have hA:A=0:=ha0 (by decide)
   have hS0:S=[]:=hs0 (.inl rfl)
   subst hA;subst hS0
   have ea:codeO (2,(P,(V,(0,[]))))++t=packB 2++(codeP P++(codeVal V++t)):=by
    show (packB 2++(codeP P++codeVal V))++t=_
    simp only [List.append_assoc]
   rw [ea] at hS ⊢
   have s2:(codeP P++(codeVal V++t)).length<4000000:=by rw [List.length_append] at hS;omega
   have s3:(codeVal V++t).length<4000000:=by rw [List.length_append] at s2;omega
   exact oback_2 k P V t _ _ (i 2 _ (by decide) hS) _ (back_path k P _ hp pl (by omega) hk2 s2) (back_val k _ (hvr (.inr (.inl rfl))) (by omega) s3) hc
  ·have hV:V=(0,(0,[])):=hv0 (.inl rfl)
   have hS0:S=[]:=hs0 (.inr rfl)
   subst hV;subst hS0
   have ea:codeO (3,(P,((0,(0,[])),(A,[]))))++t=packB 3++(codeP P++(packB (foldN A)++t)):=by
    show (packB 3++(codeP P++packB (foldN A)))++t=_
    simp only [List.append_assoc]
   rw [ea] at hS ⊢
   have s2:(codeP P++(packB (foldN A)++t)).length<4000000:=by rw [List.length_append] at hS;omega
   have s3:(packB (foldN A)++t).length<4000000:=by rw [List.length_append] at s2;omega
   have hb:=foldN_le ha.1 ha.2
   obtain ⟨u1,_⟩:=unfold_is k (foldN A) hb
   rw [unf_fold _ ha.1 ha.2] at u1
   exact oback_3 k P t _ _ A _ (i 3 _ (by decide) hS) _ (back_path k P _ hp pl (by omega) hk2 s2) (back_int k _ _ (by omega) hb s3) u1 hc
  ·have ea:codeO (4,(P,(V,(A,S))))++t=packB 4++(codeP P++(codeVal V++(codeT S++t))):=by
    show (packB 4++(codeP P++(codeVal V++codeT S)))++t=_
    simp only [List.append_assoc]
   have hA:A=0:=ha0 (by decide)
   subst hA
   rw [ea] at hS ⊢
   have s2:(codeP P++(codeVal V++(codeT S++t))).length<4000000:=by rw [List.length_append] at hS;omega
   have s3:(codeVal V++(codeT S++t)).length<4000000:=by rw [List.length_append] at s2;omega
   have s4:(codeT S++t).length<4000000:=by rw [List.length_append] at s3;omega
   exact oback_4 k P V S t _ _ (i 4 _ (by decide) hS) _ _ (back_path k P _ hp pl (by omega) hk2 s2) (back_val k _ (hvr (.inr (.inr rfl))) (by omega) s3) (back_seen k S t hse hk hk2 s4) hc
  ·have ea:codeO (5,(P,(V,(A,S))))++t=packB 5++(codeP P++(codeT S++t)):=by
    show (packB 5++(codeP P++codeT S))++t=_
    simp only [List.append_assoc]
   have hA:A=0:=ha0 (by decide)
   have hV:V=(0,(0,[])):=hv0 (.inr rfl)
   subst hA;subst hV
   rw [ea] at hS ⊢
   have s2:(codeP P++(codeT S++t)).length<4000000:=by rw [List.length_append] at hS;omega
   have s4:(codeT S++t).length<4000000:=by rw [List.length_append] at s2;omega
   exact oback_5 k P S t _ _ (i 5 _ (by decide) hS) _ (back_path k P _ hp pl (by omega) hk2 s2) (back_seen k S t hse hk hk2 s4) hc
end Go.Proofs.YtggcagclpkhlhaaGreatDoor
end
noncomputable section
/- What is told of transactions and lists of them is read again. -/
namespace Go.Proofs.YtggcagclpkhlhaaGreatDoor
open Pal
theorem ShortO.siz {o:Op} (h:ShortO o) {k:Nat} (hk:1000<k):SizO k o:=by
 have h1:=h.path.1;have h3:=h.val;have h4:=h.seen
 exact ⟨fun s hs=>by have:=h.path.2 s hs;omega,by omega,by omega,by omega⟩
theorem ShortT.siz {t:Txn} (h:ShortT t) {k:Nat} (hk:1000<k):SizT k t:=⟨by have:=h.len;omega,fun o ho=>(h.ops o ho).siz hk⟩
theorem txnck_l (k:Nat) (t:Txn) (ho:∀ o ∈ t.2.2.2.2,SizO k o) (hl:t.2.2.2.2.length<1000000) (hk:10<k) (hk2:k<1000000):∀ (n i:Nat),i≤t.2.2.2.2.length→t.2.2.2.2.length<n+i →
  z1K.l10 k n t.2.2.2.2 (ilen t.2.2.2.2) (i:Int) t=some 0→∀ o ∈ t.2.2.2.2.drop i,o=goneO∨OkO k o
 | 0,i,_,h,_=>by omega
 | n+1,i,h,h',hc=>by
  rw [z1K.l10_eq,ilt_nat,inL_nat,natOf_nat] at hc
  by_cases hi:i<t.2.2.2.2.length
  ·have so:=ho _ (List.getElem_mem hi)
   obtain ⟨e,p1,p2⟩:=op_is k t.2.2.2.2[i] so.path so.names so.val so.seen hk hk2
   obtain ⟨g,q1,q2⟩:=gone_tot k t.2.2.2.2[i]
   rw [decide_eq_true hi,rd_at' (e:=tOp) hi,p1,q1,iadd_nat (by omega)] at hc
   simp only [br_true,bnd_some] at hc
   have bt:bnot true=false:=rfl
   have bf:bnot false=true:=rfl
   have key:(t.2.2.2.2[i]=goneO∨OkO k t.2.2.2.2[i])∧z1K.l10 k n t.2.2.2.2 (ilen t.2.2.2.2) ((i+1:Nat):Int) t=some 0:=by
    have chk:br (bnot (ieq e 0)) (some e) (z1K.l10 k n t.2.2.2.2 (ilen t.2.2.2.2) ((i+1:Nat):Int) t)=some 0→(t.2.2.2.2[i]=goneO∨OkO k t.2.2.2.2[i])∧z1K.l10 k n t.2.2.2.2 (ilen t.2.2.2.2) ((i+1:Nat):Int) t=some 0:=by
     intro hh
     rw [ieq_dec] at hh
     by_cases he:e=0
     ·rw [decide_eq_true he,bt,br_false] at hh
      exact ⟨.inr (op_ok k _ so hk hk2 (by rw [p1,he])),hh⟩
     ·rw [decide_eq_false he,bf,br_true] at hh
      injection hh with hh;exact absurd hh he
    generalize hth:t.2.2.2.1=th at hc
    cases th with
    | true =>
     rw [br_true] at hc
     cases g with
     | true=>rw [br_true] at hc;exact ⟨.inl (gone_val q1),hc⟩
     | false=>rw [br_false] at hc;exact chk hc
    | false=>rw [br_false] at hc;exact chk hc
   intro o ho'
   rw [List.drop_eq_getElem_cons hi] at ho'
   rcases List.mem_cons.1 ho' with rfl | ho'
   ·exact key.1
   ·exact txnck_l k t ho hl hk hk2 n (i+1) (by omega) (by omega) key.2 o ho'
  ·rw [List.drop_eq_nil_of_le (by omega)]
   intro o ho';simp at ho'
structure OkT (k:Nat) (t:Txn):Prop where
 chk:z1K.f k t=some 0
 dot:rightD t.1=true
 user:0≤t.2.1∧t.2.1<8
 time:1≤t.2.2.1∧t.2.2.1≤1099511627776
 ops:t.2.2.2.2.length≤16
 each:∀ o ∈ t.2.2.2.2,o=goneO∨OkO k o
theorem txn_ok (k:Nat) (t:Txn) (st:SizT k t) (hk:10<k) (hk2:k<1000000) (h:z1K.f k t=some 0):OkT k t:=by
 have hsave:=h
 have hl:=st.ops
 have bt:bnot true=false:=rfl
 have bf:bnot false=true:=rfl
 rw [z1K.f_eq,right_is,bnd_some] at h
 cases hr:rightD t.1 with
 | false=>rw [hr,bf,br_true,br_true] at h;cases h
 | true =>
 rw [hr,bt,br_false,show ilt t.2.1 0=decide (t.2.1<0) from rfl,show ile 8 t.2.1=decide (8≤t.2.1) from rfl] at h
 by_cases h1:t.2.1<0
 ·rw [decide_eq_true h1,br_true] at h;cases h
 rw [decide_eq_false h1,br_false] at h
 by_cases h2:8≤t.2.1
 ·rw [decide_eq_true h2,br_true,br_true] at h;cases h
 rw [decide_eq_false h2,br_false,show ilt t.2.2.1 1=decide (t.2.2.1<1) from rfl,show ilt 1099511627776 t.2.2.1=decide (1099511627776<t.2.2.1) from rfl] at h
 by_cases h3:t.2.2.1<1
 ·rw [decide_eq_true h3,br_true] at h;cases h
 rw [decide_eq_false h3,br_false] at h
 by_cases h4:1099511627776<t.2.2.1
 ·rw [decide_eq_true h4,br_true] at h;cases h
 rw [decide_eq_false h4,br_false] at h
 generalize h5:ieq (ilen t.2.2.2.2) 0=q5 at h
 cases q5 with
 | true=>rw [br_true] at h;cases h
 | false =>
 rw [br_false,show ilt 16 (ilen t.2.2.2.2)=decide (16<t.2.2.2.2.length) from ilt_lenR 16 _] at h
 by_cases h6:16<t.2.2.2.2.length
 ·rw [decide_eq_true h6,br_true] at h;cases h
 rw [decide_eq_false h6,br_false] at h
 have:=txnck_l k t st.each (by omega) hk hk2 k 0 (by omega) (by omega) h
 rw [List.drop_zero] at this
 exact ⟨hsave,hr,by omega,by omega,by omega,this⟩
def thinN (b:Bool):Nat:=match b with | true=>1 | false=>0
def codeTx (t:Txn):List UInt8:=codeD t.1++(packB t.2.1.toNat++(packB t.2.2.1.toNat++(packB (thinN t.2.2.2.1)++(packB t.2.2.2.2.length++t.2.2.2.2.flatMap codeO))))
theorem codeTx_le {k:Nat} {t:Txn} (h:OkT k t) (hs:ShortT t):(codeTx t).length≤130000:=by
 have h1:=codeD_le h.dot
 have hu:=h.user;have ht:=h.time;have ho:=h.ops
 have h2:=packB_le (n:=t.2.1.toNat) (by omega)
 have h3:=packB_le (n:=t.2.2.1.toNat) (by omega)
 have h4:=packB_le (n:=thinN t.2.2.2.1) (by unfold thinN;split <;> omega)
 have h5:=packB_le (n:=t.2.2.2.2.length) (by omega)
 have:=codes_le codeO 8000 t.2.2.2.2 (fun o ho=>codeO_le (h.each o ho) (hs.ops o ho))
 unfold codeTx;simp only [List.length_append];omega
theorem codeTx_pos (t:Txn):0<(codeTx t).length:=by
 unfold codeTx;rw [List.length_append];have:=codeD_pos t.1;omega
theorem tocode_l (k:Nat) (l:List Op) (hr:∀ o ∈ l,o=goneO∨OkO k o) (hs:∀ o ∈ l,ShortO o) (hl:l.length<1000) (hk:5000<k) (hk2:k<1000000):∀ (n i:Nat) (x:List UInt8),i≤l.length→l.length<n+i→x.length≤100+8000 * i→z2f.l6 k n x l (ilen l) (i:Int)=some (x++(l.drop i).flatMap codeO)
 | 0,i,_,h,h',_=>by omega
 | n+1,i,x,h,h',hx=>by
  rw [z2f.l6_eq,ilt_nat,inL_nat,natOf_nat]
  by_cases hi:i<l.length
  ·have hd:=hr l[i] (List.getElem_mem hi)
   have hsd:=hs l[i] (List.getElem_mem hi)
   have hp:=codeO_le hd hsd
   have e4:iadd .i64 (i:Int) 1=((i+1:Nat):Int):=iadd_nat (by omega)
   have ed:l.drop i=l[i]::l.drop (i+1):=List.drop_eq_getElem_cons hi
   rw [decide_eq_true hi,rd_at' (e:=tOp) hi,ocode_is k hd hsd hk hk2,e4,ed,List.flatMap_cons]
   simp only [br_true,bnd_some]
   rw [roomS_ok (by omega) (by omega),br_true]
   refine (tocode_l k l hr hs hl hk hk2 n (i+1) _ (by omega) (by omega) (by unfold app;rw [List.length_append];omega)).trans ?_
   unfold app;rw [List.append_assoc]
  ·have e0:l.drop i=[]:=List.drop_eq_nil_of_le (by omega)
   rw [decide_eq_false hi,br_false,e0];simp
theorem txcode_is (k : Nat) {t : Txn} (h : OkT k t) (hs : ShortT t) (hk : 5000 < k) (hk2 : k < 1000000) : z2f.f k t = some (codeTx t) := by
  have h1 := codeD_le h.dot
  have hu := h.user; have ht := h.time; have ho := h.ops
  have h2 := packB_le (n := t.2.1.toNat) (by omega)
  have h3 := packB_le (n := t.2.2.1.toNat) (by omega)
  have h4 : ∀ b, (packB (thinN b)).length ≤ 8 := fun b => packB_le (n := thinN b) (by unfold thinN; split <;> omega)
  have h5 := packB_le (n := t.2.2.2.2.length) (by omega)
  have e : (ilen t.2.2.2.2).toNat = t.2.2.2.2.length := rfl
  have q1 : packI 1 = some (packB (thinN true)) := pI 1 (by decide)
  have q0 : packI 0 = some (packB (thinN false)) := pI 0 (by decide)
  have key : ∀ b, (br (roomS (codeD t.1) (packB t.2.1.toNat))
      (br (roomS (app (codeD t.1) (packB t.2.1.toNat)) (packB t.2.2.1.toNat))
        (br (roomS (app (app (codeD t.1) (packB t.2.1.toNat)) (packB t.2.2.1.toNat)) (packB (thinN b)))
          (br (roomS (app (app (app (codeD t.1) (packB t.2.1.toNat)) (packB t.2.2.1.toNat)) (packB (thinN b))) (packB t.2.2.2.2.length))
            (z2f.l6 k k (app (app (app (app (codeD t.1) (packB t.2.1.toNat)) (packB t.2.2.1.toNat)) (packB (thinN b))) (packB t.2.2.2.2.length)) t.2.2.2.2 (ilen t.2.2.2.2) 0)
            none)
          none)
        none)
      none) = some (codeD t.1 ++ (packB t.2.1.toNat ++ (packB t.2.2.1.toNat ++ (packB (thinN b) ++ (packB t.2.2.2.2.length ++ t.2.2.2.2.flatMap codeO))))) := by
    intro b
    have h4 := h4 b
    rw [roomS_ok (by omega) (by omega), br_true, roomS_ok (by unfold app; simp only [List.length_append]; omega) (by omega), br_true, roomS_ok (by unfold app; simp only [List.length_append]; omega) (by omega), br_true, roomS_ok (by unfold app; simp only [List.length_append]; omega) (by omega), br_true]
    refine (tocode_l k t.2.2.2.2 h.each hs.ops (by omega) hk hk2 k 0 _ (by omega) (by omega) (by unfold app; simp only [List.length_append]; omega)).trans ?_
    rw [List.drop_zero]; unfold app; simp only [List.append_assoc]
  rw [z2f.f_eq, dcode_is k h.dot, packI_is (n := t.2.1) (by omega), packI_is (n := t.2.2.1) (by omega), packI_is (n := ilen t.2.2.2.2) (by unfold ilen; omega), e, q1, q0]
  unfold codeTx
  simp only [bnd_some]
  cases t.2.2.2.1 with
  | true => rw [br_true]; exact key true
  | false => rw [br_false]; exact key false
theorem back_o7 (k:Nat) (hk:5000<k) (hk2:k<1000000) (N:Nat) (hN:N≤16) (d:Dot) (a b:Int) (c:Bool) (t:List UInt8) (p:List Op) (hc:z1K.f k (d,(a,(b,(c,p))))=some 0):∀ (n i:Nat) (x l:List Op),i+l.length=N→N<n+i→x.length=i→(∀ o ∈ l,o=goneO∨OkO k o)→x++l=p→(l.flatMap codeO++t).length<4000000 →
  z2g.l7 k n (N:Int) (i:Int) (0,0) 0 0 false [] d a b c x (l.flatMap codeO++t,0)=some ((d,(a,(b,(c,p)))),(t,0))
 | 0,i,_,_,h,h',_,_,_,_=>by omega
 | n+1,i,x,[],h,_,hx,_,hp,_=>by
  have hi:N=i:=by simpa using h.symm
  subst hi
  rw [List.append_nil] at hp
  subst hp
  rw [z2g.l7_eq,ilt_nn,decide_eq_false (Nat.lt_irrefl _)]
  have bt:bnot true=false:=rfl
  simp only [br_false,fault_is,bnd_some,ieq_dec,decide_true,br_true,hc,fail_is,if_true,bt,List.append_nil,List.flatMap_nil,List.nil_append]
 | n+1,i,x,o::l,h,h',hx,hr,hp,hS=>by
  simp only [List.length_cons] at h
  have e4:iadd .i64 (i:Int) 1=((i+1:Nat):Int):=iadd_nat (by omega)
  have ea:(o::l).flatMap codeO++t=codeO o++(l.flatMap codeO++t):=by rw [List.flatMap_cons,List.append_assoc]
  rw [ea] at hS ⊢
  have hS2:(l.flatMap codeO++t).length<4000000:=by rw [List.length_append] at hS;omega
  rw [z2g.l7_eq,ilt_nn,decide_eq_true (show i<N by omega),back_op k _ (hr o (by simp)) hk hk2 hS,e4]
  simp only [br_true,bnd_some]
  rw [room1 (show x.length<4000000 by omega),br_true]
  exact back_o7 k hk hk2 N hN d a b c t p hc n (i+1) (app x (o::[])) l (by omega) (by omega) (by simp [app,hx]) (fun e he=>hr e (List.mem_cons_of_mem _ he)) (by unfold app;rw [List.append_assoc];exact hp) hS2
theorem back_txn (k:Nat) {t:Txn} (r:List UInt8) (h:OkT k t) (hk:5000<k) (hk2:k<1000000) (hS:(codeTx t++r).length<4000000):z2g.f k (codeTx t++r,0)=some (t,(r,0)):=by
 have hu:=h.user;have ht:=h.time;have ho:=h.ops
 have hth:thinN t.2.2.2.1≤1:=by unfold thinN;split <;> omega
 have ea:codeTx t++r=codeD t.1++(packB t.2.1.toNat++(packB t.2.2.1.toNat++(packB (thinN t.2.2.2.1)++(packB t.2.2.2.2.length++(t.2.2.2.2.flatMap codeO++r))))):=by unfold codeTx;simp only [List.append_assoc]
 rw [ea] at hS ⊢
 have s1:(packB t.2.1.toNat++(packB t.2.2.1.toNat++(packB (thinN t.2.2.2.1)++(packB t.2.2.2.2.length++(t.2.2.2.2.flatMap codeO++r))))).length<4000000:=by rw [List.length_append] at hS;omega
 have s2:(packB t.2.2.1.toNat++(packB (thinN t.2.2.2.1)++(packB t.2.2.2.2.length++(t.2.2.2.2.flatMap codeO++r)))).length<4000000:=by rw [List.length_append] at s1;omega
 have s3:(packB (thinN t.2.2.2.1)++(packB t.2.2.2.2.length++(t.2.2.2.2.flatMap codeO++r))).length<4000000:=by rw [List.length_append] at s2;omega
 have s4:(packB t.2.2.2.2.length++(t.2.2.2.2.flatMap codeO++r)).length<4000000:=by rw [List.length_append] at s3;omega
 have s5:(t.2.2.2.2.flatMap codeO++r).length<4000000:=by rw [List.length_append] at s4;omega
 have hlen:=codes_len codeO codeO_pos t.2.2.2.2
 have e1:((t.2.1.toNat:Nat):Int)=t.2.1:=Int.toNat_of_nonneg (by omega)
 have e2:((t.2.2.1.toNat:Nat):Int)=t.2.2.1:=Int.toNat_of_nonneg (by omega)
 have e3:ilt 1 ((thinN t.2.2.2.1:Nat):Int)=false:=decide_eq_false (by omega)
 have e4:ieq ((thinN t.2.2.2.1:Nat):Int) 1=t.2.2.2.1:=by cases t.2.2.2.1 <;> rfl
 rw [z2g.f_eq,back_dot k t.1 _ h.dot (by omega) hS]
 simp only [bnd_some]
 rw [back_int k _ _ (by omega) (by omega) s1]
 simp only [bnd_some]
 rw [back_int k _ _ (by omega) (by omega) s2]
 simp only [bnd_some]
 rw [back_int k _ _ (by omega) (by omega) s3]
 simp only [bnd_some,fault_is]
 rw [show ieq (0:Int) 0=true from rfl,br_true,e3,br_false,e4,e1,e2,back_many k _ 16 _ (by omega) (by omega) (by omega) (by rw [List.length_append];omega) s4]
 simp only [bnd_some]
 exact back_o7 k hk hk2 t.2.2.2.2.length ho t.1 t.2.1 t.2.2.1 t.2.2.2.1 r t.2.2.2.2 h.chk k 0 [] t.2.2.2.2 (by omega) (by omega) rfl h.each rfl s5
def codeTL (l:List Txn):List UInt8:=packB l.length++l.flatMap codeTx
theorem codeTL_le {k:Nat} {l:List Txn} (h:∀ t ∈ l,OkT k t) (hs:∀ t ∈ l,ShortT t) (hl:l.length≤20):(codeTL l).length≤2600008:=by
 have hp:=packB_le (n:=l.length) (by omega)
 have:=codes_le codeTx 130000 l (fun t ht=>codeTx_le (h t ht) (hs t ht))
 unfold codeTL;rw [List.length_append];omega
theorem tlcode_l (k:Nat) (l:List Txn) (hr:∀ t ∈ l,OkT k t) (hs:∀ t ∈ l,ShortT t) (hl:l.length≤20) (hk:5000<k) (hk2:k<1000000):∀ (n i:Nat) (x:List UInt8),i≤l.length→l.length<n+i→x.length≤100+130000 * i→z2a.l3 k n x l (ilen l) (i:Int)=some (x++(l.drop i).flatMap codeTx)
 | 0,i,_,h,h',_=>by omega
 | n+1,i,x,h,h',hx=>by
  rw [z2a.l3_eq,ilt_nat,inL_nat,natOf_nat]
  by_cases hi:i<l.length
  ·have hd:=hr l[i] (List.getElem_mem hi)
   have hsd:=hs l[i] (List.getElem_mem hi)
   have hp:=codeTx_le hd hsd
   have e4:iadd .i64 (i:Int) 1=((i+1:Nat):Int):=iadd_nat (by omega)
   have ed:l.drop i=l[i]::l.drop (i+1):=List.drop_eq_getElem_cons hi
   rw [decide_eq_true hi,rd_at' (e:=tTxn) hi,txcode_is k hd hsd hk hk2,e4,ed,List.flatMap_cons]
   simp only [br_true,bnd_some]
   rw [roomS_ok (by omega) (by omega),br_true]
   refine (tlcode_l k l hr hs hl hk hk2 n (i+1) _ (by omega) (by omega) (by unfold app;rw [List.length_append];omega)).trans ?_
   unfold app;rw [List.append_assoc]
  ·have e0:l.drop i=[]:=List.drop_eq_nil_of_le (by omega)
   rw [decide_eq_false hi,br_false,e0];simp
theorem tlcode_is (k:Nat) {l:List Txn} (hr:∀ t ∈ l,OkT k t) (hs:∀ t ∈ l,ShortT t) (hl:l.length≤20) (hk:5000<k) (hk2:k<1000000):z2a.f k l=some (codeTL l):=by
 have e:(ilen l).toNat=l.length:=rfl
 have hp:=packB_le (n:=l.length) (by omega)
 rw [z2a.f_eq,packI_is (n:=ilen l) (by unfold ilen;omega),e,bnd_some]
 exact tlcode_l k l hr hs hl hk hk2 k 0 _ (by omega) (by omega) (by omega)
theorem back_tl3 (k:Nat) (hk:5000<k) (hk2:k<1000000) (N:Nat) (hN:N≤1000) (t:List UInt8):∀ (n i:Nat) (x l:List Txn),i+l.length=N→N<n+i→x.length=i→(∀ o ∈ l,OkT k o)→(x++l).Pairwise (fun a b=>dotLt a.1 b.1=true)→(l.flatMap codeTx++t).length<4000000 →
  z0G.l3 k n x (N:Int) (i:Int) (l.flatMap codeTx++t,0)=some (x++l,(t,0))
 | 0,i,_,_,h,h',_,_,_,_=>by omega
 | n+1,i,x,[],h,_,hx,_,hc,_=>by
  have hi:N=i:=by simpa using h.symm
  subst hi
  rw [List.append_nil] at hc
  obtain ⟨b1,g1,i1⟩:=trises_is k x (by omega) (by omega) hk2
  have hb:b1=true:=i1.2 hc
  subst hb
  rw [z0G.l3_eq,ilt_nn,decide_eq_false (Nat.lt_irrefl _)]
  have bt:bnot true=false:=rfl
  simp only [br_false,fault_is,bnd_some,ieq_dec,decide_true,br_true,g1,bt,List.append_nil,List.flatMap_nil,List.nil_append]
 | n+1,i,x,d::l,h,h',hx,hr,hc,hS=>by
  simp only [List.length_cons] at h
  have e4:iadd .i64 (i:Int) 1=((i+1:Nat):Int):=iadd_nat (by omega)
  have ea:(d::l).flatMap codeTx++t=codeTx d++(l.flatMap codeTx++t):=by rw [List.flatMap_cons,List.append_assoc]
  rw [ea] at hS ⊢
  have hS2:(l.flatMap codeTx++t).length<4000000:=by rw [List.length_append] at hS;omega
  rw [z0G.l3_eq,ilt_nn,decide_eq_true (show i<N by omega),back_txn k _ (hr d (by simp)) hk hk2 hS,e4]
  simp only [br_true,bnd_some]
  rw [room1 (show x.length<4000000 by omega),br_true]
  have:=back_tl3 k hk hk2 N hN t n (i+1) (app x (d::[])) l (by omega) (by omega) (by simp [app,hx]) (fun e he=>hr e (List.mem_cons_of_mem _ he)) (by unfold app;rw [List.append_assoc];exact hc) hS2
  refine this.trans ?_
  simp [app]
theorem back_tl (k:Nat) (l:List Txn) (most:Int) (t:List UInt8) (hr:∀ o ∈ l,OkT k o) (hc:l.Pairwise (fun a b=>dotLt a.1 b.1=true)) (hm:(l.length:Int)≤most) (hl:l.length≤1000) (hk:5000<k) (hk2:k<1000000) (hS:(codeTL l++t).length<4000000) :
  z0G.f k most (codeTL l++t,0)=some (l,(t,0)):=by
 have ea:codeTL l++t=packB l.length++(l.flatMap codeTx++t):=by unfold codeTL;rw [List.append_assoc]
 rw [ea] at hS ⊢
 have hS2:(l.flatMap codeTx++t).length<4000000:=by rw [List.length_append] at hS;omega
 have hlen:=codes_len codeTx codeTx_pos l
 rw [z0G.f_eq,back_many k _ most _ (by omega) (by omega) hm (by rw [List.length_append];omega) hS]
 simp only [bnd_some]
 exact back_tl3 k hk hk2 l.length hl t k 0 [] l (by omega) (by omega) rfl hr hc hS2
end Go.Proofs.YtggcagclpkhlhaaGreatDoor
end
noncomputable section
/- A state that may be is read as it was told. -/
namespace Go.Proofs.YtggcagclpkhlhaaGreatDoor
open Pal
theorem RightS.ok {k:Nat} {s:Sta} (h:RightS k s) (hsh:∀ t ∈ s.1,ShortT t) (hk:1000<k) (hk2:k<1000000):∀ t ∈ s.1,OkT k t:=fun t ht=>by
 have st:=(hsh t ht).siz hk
 obtain ⟨e,g1,g2⟩:=txn_is k t st.each st.ops (by omega) hk2
 rw [h.chk t ht] at g2
 injection g2 with g2
 exact txn_ok k t st (by omega) hk2 (by rw [g1,← g2])
end Go.Proofs.YtggcagclpkhlhaaGreatDoor
end
noncomputable section
/- Deltas: the program and the document read the same, and test the same; what is told is read again. -/
namespace Go.Proofs.YtggcagclpkhlhaaGreatDoor
open Pal
def codeDl (d:Dlt):List UInt8:=codeTL d.1++(codeT d.2.1++codeL d.2.2)
theorem RightDl.ok {k:Nat} {d:Dlt} (h:RightDl k d) (hsh:∀ t ∈ d.1,ShortT t) (hk:1000<k) (hk2:k<1000000):∀ t ∈ d.1,OkT k t:=fun t ht=>by
 have st:=(hsh t ht).siz hk
 obtain ⟨e,g1,g2⟩:=txn_is k t st.each st.ops (by omega) hk2
 rw [h.chk t ht] at g2
 injection g2 with g2
 exact txn_ok k t st (by omega) hk2 (by rw [g1,← g2])
theorem dlcode_is (k:Nat) {d:Dlt} (sh:ShortD d) (hr:RightDl k d) (hk:5000<k) (hk2:k<1000000):z0C.f k d=some (codeDl d)∧(codeDl d).length≤2700000:=by
 have ho:=hr.ok sh.each (by omega) hk2
 have l1:=codeTL_le ho sh.each sh.tx
 have l2:=codeT_le hr.un.rt sh.un (by omega)
 have l3:=codeL_le hr.se (by have:=sh.se;omega)
 have hun:=sh.un;have hse:=sh.se
 constructor
 ·rw [z0C.f_eq,tlcode_is k ho sh.each sh.tx hk hk2,tcode_is k hr.un.rt (by omega) hk2,lcode_is k hr.se (by omega) hk2]
  simp only [bnd_some]
  rw [roomS_ok (by omega) (by omega),br_true,roomS_ok (by unfold app;rw [List.length_append];omega) (by omega),br_true]
  unfold app codeDl;simp only [List.append_assoc]
 ·unfold codeDl;simp only [List.length_append];omega
theorem back_dl (k:Nat) {d:Dlt} (t:List UInt8) (sh:ShortD d) (hr:RightDl k d) (hk:5000<k) (hk2:k<1000000) (hS:(codeDl d++t).length<4000000):z0e.f k (codeDl d++t,0)=some (d,(t,0)):=by
 have tx:=sh.tx;have un:=sh.un;have se:=sh.se
 have ea:codeDl d++t=codeTL d.1++(codeT d.2.1++(codeL d.2.2++t)):=by unfold codeDl;simp only [List.append_assoc]
 have bt:bnot true=false:=rfl
 rw [ea] at hS ⊢
 have s1:(codeT d.2.1++(codeL d.2.2++t)).length<4000000:=by rw [List.length_append] at hS;omega
 have s2:(codeL d.2.2++t).length<4000000:=by rw [List.length_append] at s1;omega
 rw [z0e.f_eq,back_tl k d.1 1000 _ (hr.ok sh.each (by omega) hk2) hr.ris (by omega) (by omega) hk hk2 hS]
 simp only [bnd_some]
 rw [back_tally k d.2.1 1048576 _ hr.un (by omega) (by omega) (by omega) hk2 s1]
 simp only [bnd_some]
 rw [back_list k d.2.2 1048576 _ hr.se (by omega) (by omega) (by omega) hk2 s2]
 simp only [bnd_some,fault_is,ieq_dec,decide_true,bt,br_false]
end Go.Proofs.YtggcagclpkhlhaaGreatDoor
end
noncomputable section
/- Records: whether one may be; the program and the document parse the same. -/
namespace Go.Proofs.YtggcagclpkhlhaaGreatDoor
open Pal
abbrev Rec:=Ty.D tRecord
def noD:Dlt:=([],([],[]))
structure SizR (k n:Nat) (x:Rec):Prop where
 t:SizT k x.2.1
 d:LenD n x.2.2.2.2.2.1
 dt:∀ t ∈ x.2.2.2.2.2.1.1,SizT k t
 s:LenS n x.2.2.2.2.2.2
 st:∀ t ∈ x.2.2.2.2.2.2.1,SizT k t
 s8:x.2.2.2.2.2.2.2.2.2.2.length=8
 v1:x.2.2.2.2.2.2.2.2.1.1.length=16
 v2:x.2.2.2.2.2.2.2.2.2.1.1.length=16
theorem SizR.of {k n:Nat} {K u b:Int} {t:Txn} {U:Undo} {d:Dlt} {s:Sta} (ht:SizT k t) (hd:LenD n d) (hdt:∀ t ∈ d.1,SizT k t) (hs:LenS n s) (hst:∀ t ∈ s.1,SizT k t) (h8:s.2.2.2.2.length=8) (h1:s.2.2.1.1.length=16) (h2:s.2.2.2.1.1.length=16):SizR k n (K,(t,(u,(U,(b,(d,s)))))):=⟨ht,hd,hdt,hs,hst,h8,h1,h2⟩
theorem dchks_l (k:Nat) (l:List Txn) (ho:∀ t ∈ l,SizT k t) (hl:l.length<1000000) (hk:10<k) (hk2:k<1000000):∀ (n i:Nat),i≤l.length→l.length<n+i →
  ∃ r:Int,z05.l2 k n l (ilen l) (i:Int)=some r∧(0≤r ↔ ¬ ∀ t ∈ l.drop i,z0U.f k t=some 0)
 | 0,i,_,h=>by omega
 | n+1,i,h,h'=>by
  rw [z05.l2_eq,ilt_nat,inL_nat,natOf_nat]
  by_cases hi:i<l.length
  ·have st:=ho _ (List.getElem_mem hi)
   obtain ⟨e,g1,g2⟩:=txn_is k l[i] st.each st.ops hk hk2
   rw [decide_eq_true hi,br_true,br_true,rd_at' (e:=tTxn) hi,z0q.f_eq,g1,bnd_some,bnd_some,iadd_nat (by omega),ieq_dec,bnot_dec,List.drop_eq_getElem_cons hi]
   by_cases h0:e=0
   ·subst h0
    rw [decide_eq_false (by simp),br_false]
    obtain ⟨r,q1,q2⟩:=dchks_l k l ho hl hk hk2 n (i+1) (by omega) (by omega)
    refine ⟨r,q1,q2.trans (not_congr ⟨fun h t ht=>?_,fun h t ht=>h t (List.mem_cons_of_mem _ ht)⟩)⟩
    rcases List.mem_cons.1 ht with rfl | ht
    ·exact g2
    ·exact h t ht
   ·rw [decide_eq_true h0,br_true]
    refine ⟨(i:Int),rfl,⟨fun _ h=>h0 ?_,fun _=>by omega⟩⟩
    have:=h l[i] List.mem_cons_self
    rw [g2] at this;injection this
  ·rw [decide_eq_false hi,br_false,List.drop_eq_nil_of_le (by omega)]
   exact ⟨-1,rfl,⟨fun h=>by omega,fun h=>absurd (fun t ht=>by simp at ht) h⟩⟩
theorem drds_l (k:Nat) (l:List Dot) (hl:l.length<1000000):∀ (n i:Nat),i≤l.length→l.length<n+i →
  ∃ r:Int,z04.l2 k n l (ilen l) (i:Int)=some r∧(0≤r ↔ ¬ ∀ d ∈ l.drop i,rightD d=true)
 | 0,i,_,h=>by omega
 | n+1,i,h,h'=>by
  rw [z04.l2_eq,ilt_nat,inL_nat,natOf_nat]
  by_cases hi:i<l.length
  ·rw [decide_eq_true hi,br_true,br_true,rd_at' (e:=tDot) hi,z0r.f_eq,right_is,bnd_some,bnd_some,iadd_nat (by omega),List.drop_eq_getElem_cons hi]
   cases hr:rightD l[i] with
   | true =>
    obtain ⟨r,q1,q2⟩:=drds_l k l hl n (i+1) (by omega) (by omega)
    refine ⟨r,q1,q2.trans (not_congr ⟨fun h t ht=>?_,fun h t ht=>h t (List.mem_cons_of_mem _ ht)⟩)⟩
    rcases List.mem_cons.1 ht with rfl | ht
    ·exact hr
    ·exact h t ht
   | false =>
    refine ⟨(i:Int),rfl,⟨fun _ h=>?_,fun _=>by omega⟩⟩
    have:=h l[i] List.mem_cons_self
    rw [hr] at this;cases this
  ·rw [decide_eq_false hi,br_false,List.drop_eq_nil_of_le (by omega)]
   exact ⟨-1,rfl,⟨fun h=>by omega,fun h=>absurd (fun t ht=>by simp at ht) h⟩⟩
theorem tdl_is (k:Nat) (d:Dlt) (ho:∀ t ∈ d.1,SizT k t) (hul:d.2.1.length<k) (hsl:d.2.2.length<k) (hk:5000<k) (hk2:k<1000000):∃ b,z0H.f k d=some b∧(b=true ↔ RightDl k d):=by
 rw [z0H.f_eq,show ile (ilen d.1) 1000=decide (d.1.length≤1000) from ile_len 1000 d.1]
 by_cases hm:d.1.length≤1000
 case neg=>rw [decide_eq_false hm];exact ⟨false,rfl,⟨fun h=>(by cases h),fun h=>absurd h.many hm⟩⟩
 rw [decide_eq_true hm,br_true]
 obtain ⟨b1,g1,i1⟩:=trises_is k d.1 (by omega) (by omega) hk2
 obtain ⟨b2,g2,i2⟩:=trightU2_is k d.2.1 (by omega) hul hk2
 obtain ⟨r,g3,i3⟩:=dchks_l k d.1 ho (by omega) (by omega) hk2 k 0 (by omega) (by omega)
 obtain ⟨q,g4,i4⟩:=drds_l k d.2.2 (by omega) k 0 (by omega) (by omega)
 rw [show ((0:Nat):Int)=0 from rfl] at g3 g4
 rw [List.drop_zero] at i3 i4
 have bt:bnot true=false:=rfl
 have bf:bnot false=true:=rfl
 rw [g1,bnd_some]
 cases b1 with
 | false=>rw [br_false];exact ⟨false,rfl,⟨fun h=>(by cases h),fun h=>i1.2 h.ris⟩⟩
 | true =>
 rw [br_true,z00.f_eq,z05.f_eq,g3,bnd_some,bnd_some,show ile 0 r=decide (0≤r) from rfl]
 by_cases hr:0≤r
 ·rw [decide_eq_true hr,bt,br_false];exact ⟨false,rfl,⟨fun h=>(by cases h),fun h=>absurd h.chk (i3.1 hr)⟩⟩
 have hc:∀ t ∈ d.1,z0U.f k t=some 0:=Classical.byContradiction fun h=>hr (i3.2 h)
 rw [decide_eq_false hr,bf,br_true,g2,bnd_some]
 cases b2 with
 | false=>rw [br_false];exact ⟨false,rfl,⟨fun h=>(by cases h),fun h=>i2.2 h.un⟩⟩
 | true =>
 rw [br_true,z01.f_eq,z04.f_eq,g4,bnd_some,bnd_some,show ile 0 q=decide (0≤q) from rfl]
 by_cases hq:0≤q
 ·rw [decide_eq_true hq,bt];exact ⟨false,rfl,⟨fun h=>(by cases h),fun h=>absurd h.se (i4.1 hq)⟩⟩
 ·have hd:∀ x ∈ d.2.2,rightD x=true:=Classical.byContradiction fun h=>hq (i4.2 h)
  rw [decide_eq_false hq,bf]
  exact ⟨true,rfl,⟨fun _=>⟨hm,i1.1 rfl,i2.1 rfl,hc,hd⟩,fun _=>rfl⟩⟩
end Go.Proofs.YtggcagclpkhlhaaGreatDoor
end
noncomputable section
/- Records that may be are parsed as they were told. -/
namespace Go.Proofs.YtggcagclpkhlhaaGreatDoor
open Pal
theorem endz_is (k:Nat):z0m.f k ([],0)=some (0,([],0)):=by
 have bt:bnot true=false:=rfl
 rw [z0m.f_eq,z0i.f_eq,fine_is]
 simp only [bnd_some,decide_true,bt,br_false]
 have e:ilt 0 (ilen ([]:List UInt8))=false:=rfl
 rw [e]
 simp only [br_false,fault_is,bnd_some]
structure ShortR (x:Rec):Prop where
 t:ShortT x.2.1
 d:ShortD x.2.2.2.2.2.1
 s:ShortS x.2.2.2.2.2.2
theorem ShortR.siz {k:Nat} {x:Rec} (h:ShortR x) (hk:1000<k) (h8:x.2.2.2.2.2.2.2.2.2.2.length=8) (h1:x.2.2.2.2.2.2.2.2.1.1.length=16) (h2:x.2.2.2.2.2.2.2.2.2.1.1.length=16):SizR k 100 x :=
 ⟨h.t.siz hk,h.d.len,fun t ht=>(h.d.each t ht).siz hk,h.s.len,fun t ht=>(h.s.each t ht).siz hk,h8,h1,h2⟩
section
variable (k:Nat) (hk:5000<k) (hk2:k<1000000)
include hk hk2
end
section
variable (k:Nat) (hk:5000<k) (hk2:k<1000000)
include hk hk2
end
end Go.Proofs.YtggcagclpkhlhaaGreatDoor
end
noncomputable section
/- The document's bytes are the program's. -/
namespace Go.Proofs.YtggcagclpkhlhaaGreatDoor
open Pal
theorem rdcode_is (k:Nat) {d:Dot} (h:rightD d=true):z1i.f k d=some (codeD d):=by
 obtain ⟨h1,h2,h3,h4⟩:=rightD_rng h
 have p1:=packB_le (n:=d.1.toNat) (by omega)
 have p2:=packB_le (n:=d.2.toNat) (by omega)
 rw [z1i.f_eq,packI_is (n:=d.1) (by omega),packI_is (n:=d.2) (by omega)]
 simp only [bnd_some]
 rw [roomS_ok (by omega) (by omega)];rfl
theorem rtext_code (k:Nat) (s:Str) (h:List.length s<1000000):z1u.f k s=some (codeX s):=by
 have e:(ilen s).toNat=List.length s:=rfl
 have hp:=packB_le (n:=List.length s) (by omega)
 rw [z1u.f_eq,packI_is (n:=ilen s) (by unfold ilen;omega),e,bnd_some,roomS_ok (by omega) (by omega)];rfl
theorem rpcode_l (k:Nat) (p:List Str) (hs:∀ s ∈ p,List.length s≤120) (hl:p.length<10000):∀ (n i:Nat) (x:List UInt8),i≤p.length→p.length<n+i→x.length≤100+128 * i→z1v.l3 k n p x (i:Int)=some (x++(p.drop i).flatMap codeX)
 | 0,i,_,h,h',_=>by omega
 | n+1,i,x,h,h',hx=>by
  rw [z1v.l3_eq,ilt_nat,inL_nat,natOf_nat]
  by_cases hi:i<p.length
  ·have hd:=hs p[i] (List.getElem_mem hi)
   have hp:=codeX_len p[i] (by omega)
   have e4:iadd .i64 (i:Int) 1=((i+1:Nat):Int):=iadd_nat (by omega)
   have ed:p.drop i=p[i]::p.drop (i+1):=List.drop_eq_getElem_cons hi
   rw [decide_eq_true hi,rd_at' (e:=.str) hi,rtext_code k _ (by omega),e4,ed,List.flatMap_cons]
   simp only [br_true,bnd_some]
   rw [roomS_ok (by omega) (by omega),br_true]
   refine (rpcode_l k p hs hl n (i+1) _ (by omega) (by omega) (by unfold app;rw [List.length_append];omega)).trans ?_
   unfold app;rw [List.append_assoc]
  ·have e0:p.drop i=[]:=List.drop_eq_nil_of_le (by omega)
   rw [decide_eq_false hi,br_false,e0];simp
theorem rpcode_is (k:Nat) {p:List Str} (h:ShortP p) (hk:12<k) (hk2:k<1000000):z1v.f k p=some (codeP p):=by
 have h1:=h.1
 have e:(ilen p).toNat=p.length:=rfl
 have hp:=packB_le (n:=p.length) (by omega)
 rw [z1v.f_eq,packI_is (n:=ilen p) (by unfold ilen;omega),e,bnd_some]
 exact rpcode_l k p h.2 (by omega) k 0 _ (by omega) (by omega) (by omega)
theorem rfold_is (k:Nat) (i:Int) (h1:-2147483647≤i) (h2:i≤2147483647):z1k.f k i=some ((foldN i:Nat):Int):=by
 rw [z1k.f_eq]
 unfold foldN
 by_cases h:i<0
 ·have m1:isub .i64 0 i=-i:=by
   show IntKind.wrap .i64 (0 - i)=_
   rw [wrap64 (by omega) (by omega)];omega
  have m2:isub .i64 (-i) i=-2 * i:=by
   show IntKind.wrap .i64 (-i - i)=_
   rw [wrap64 (by omega) (by omega)];omega
  have s:isub .i64 (-2 * i) 1=-2 * i - 1:=by
   show IntKind.wrap .i64 (-2 * i - 1)=_
   rw [wrap64 (by omega) (by omega)]
  rw [show ilt i 0=true from decide_eq_true h,br_true,m1,m2,s,if_pos h,Int.toNat_of_nonneg (by omega)]
 ·have m:iadd .i64 i i=2 * i:=by
   show IntKind.wrap .i64 (i+i)=_
   rw [wrap64 (by omega) (by omega)];omega
  rw [show ilt i 0=false from decide_eq_false h,br_false,m,if_neg h,Int.toNat_of_nonneg (by omega)]
theorem rvacode_is (k:Nat) {v:Val} (hv:ValOK v) (hl:v.2.2.length≤200):z1b.f k v=some (codeVal v):=by
 have h1:=hv.kind
 have p1:=packB_le (n:=v.1.toNat) (by omega)
 unfold codeVal
 rw [z1b.f_eq,ieq_dec]
 by_cases h2:v.1=2
 ·have h0:packI 2=some (packB 2):=pI 2 (by decide)
  have hp2:=packB_le (n:=2) (by omega)
  have:=codeX_len v.2.2 (by omega)
  rw [decide_eq_true h2,br_true,h0,bnd_some,rtext_code k _ (by omega),bnd_some,roomS_ok (by omega) (by omega),br_true,if_pos h2,h2];rfl
 ·obtain ⟨_,a,b⟩:=hv.num h2
  have hb:=foldN_le a b
  have:=packB_le hb
  rw [decide_eq_false h2,br_false,packI_is (n:=v.1) (by omega),bnd_some,rfold_is k _ a b,bnd_some,packI_is (n:=((foldN v.2.1:Nat):Int)) (by omega),Int.toNat_natCast,bnd_some,roomS_ok (by omega) (by omega),br_true,if_neg h2];rfl
theorem rrcode_l (k:Nat) (o:Op) (hr:∀ u ∈ o.2.2.2.2,rightD u.1=true∧0≤u.2∧u.2<16) (hl:o.2.2.2.2.length<1000000):∀ (n i:Nat) (x:List UInt8),i≤o.2.2.2.2.length→o.2.2.2.2.length<n+i→x.length≤10000+24 * i→z1c.l13 k n x (i:Int) o=some (x++(o.2.2.2.2.drop i).flatMap codeU)
 | 0,i,_,h,h',_=>by omega
 | n+1,i,x,h,h',hx=>by
  rw [z1c.l13_eq,ilt_nat,inL_nat,natOf_nat]
  by_cases hi:i<o.2.2.2.2.length
  ·have hd:=hr o.2.2.2.2[i] (List.getElem_mem hi)
   have hp:=codeR_le hd
   obtain ⟨hd1,hd2,hd3⟩:=hd
   have hp1:=codeD_le hd1
   have hp2:=packB_le (n:=o.2.2.2.2[i].2.toNat) (by omega)
   have e4:iadd .i64 (i:Int) 1=((i+1:Nat):Int):=iadd_nat (by omega)
   have ed:o.2.2.2.2.drop i=o.2.2.2.2[i]::o.2.2.2.2.drop (i+1):=List.drop_eq_getElem_cons hi
   rw [decide_eq_true hi,rd_at' (e:=tUndo) hi,rdcode_is k hd1,packI_is (n:=o.2.2.2.2[i].2) (by omega),e4,ed,List.flatMap_cons]
   simp only [br_true,bnd_some]
   rw [roomS_ok (by omega) (by omega),br_true,roomS_ok (by unfold app;rw [List.length_append];omega) (by omega),br_true]
   have ea:app (app x (codeD o.2.2.2.2[i].1)) (packB o.2.2.2.2[i].2.toNat)=x++codeU o.2.2.2.2[i]:=by unfold app codeU;rw [List.append_assoc]
   rw [ea]
   refine (rrcode_l k o hr hl n (i+1) _ (by omega) (by omega) (by rw [List.length_append];omega)).trans ?_
   rw [List.append_assoc]
  ·have e0:o.2.2.2.2.drop i=[]:=List.drop_eq_nil_of_le (by omega)
   rw [decide_eq_false hi,br_false,e0];simp
theorem rrcode_is (k:Nat) (x:List UInt8) {o:Op} (hr:∀ u ∈ o.2.2.2.2,rightD u.1=true∧0≤u.2∧u.2<16) (hl:o.2.2.2.2.length≤256) (hx:x.length≤9000) (hk:5000<k) (hk2:k<1000000) :
  (bnd (packI (ilen o.2.2.2.2)) fun r6=>br (roomS x r6) (z1c.l13 k k (app x r6) 0 o) none)=some (x++codeT o.2.2.2.2):=by
 have e:(ilen o.2.2.2.2).toNat=o.2.2.2.2.length:=rfl
 have hp:=packB_le (n:=o.2.2.2.2.length) (by omega)
 rw [packI_is (n:=ilen o.2.2.2.2) (by unfold ilen;omega),e,bnd_some,roomS_ok (by omega) (by omega),br_true]
 refine (rrcode_l k o hr (by omega) k 0 _ (by omega) (by omega) (by unfold app;rw [List.length_append];omega)).trans ?_
 rw [List.drop_zero];unfold app codeT;rw [List.append_assoc]
theorem rocode_0 (k:Nat):z1c.f k goneO=some (packB 0):=by
 have h0:packI 0=some (packB 0):=pI 0 (by decide)
 have e0:ieq (ilen ([]:List Undo)) 0=true:=rfl
 have e1:ieq (ilen ([]:List Str)) 0=true:=rfl
 have e2:deq tValue ((0,(0,[])):Val) (0,(0,[]))=true:=by rw [deqVal];exact decide_eq_true rfl
 rw [z1c.f_eq,z1A.f_eq]
 unfold goneO
 simp only [h0,bnd_some,show ieq (0:Int) 0=true from rfl,e0,e1,e2,br_true]
section
variable (k:Nat) (hk:5000<k) (hk2:k<1000000) (P:List Str) (V:Val) (A:Int) (S:List Undo) (hP:ShortP P) (hv:V.2.2.length≤200)
include hk hk2 hP
theorem rocode_3 (h1:-2147483647≤A) (h2:A≤2147483647):z1c.f k (3,(P,(V,(A,S))))=some (packB 3++(codeP P++packB (foldN A))):=by
 have h0:packI 3=some (packB 3):=pI 3 (by decide)
 have hb:=foldN_le h1 h2
 have hpl:=packB_le hb
 have hf:packI ((foldN A:Nat):Int)=some (packB (foldN A)):=by rw [packI_is (n:=((foldN A:Nat):Int)) (by omega),Int.toNat_natCast]
 obtain ⟨r1,r2⟩:=rooms k hk hk2 P hP 3 (by decide)
 have r3:roomS (app (packB 3) (codeP P)) (packB (foldN A))=true:=roomS_ok (by omega) (by omega)
 rw [z1c.f_eq,z1A.f_eq]
 simp only [h0,bnd_some,show ieq (3:Int) 0=false from rfl,show ieq (3:Int) 3=true from rfl,br_true,br_false,rpcode_is k hP (by omega) hk2,r1,rfold_is k A h1 h2,hf,r3]
 unfold app;rw [List.append_assoc]
include hv
theorem rocode_1 (hV:ValOK V) (hs:S.length≤256∧∀ u ∈ S,rightD u.1=true∧0≤u.2∧u.2<16):z1c.f k (1,(P,(V,(A,S))))=some (packB 1++(codeP P++(codeVal V++codeT S))):=by
 have h0:packI 1=some (packB 1):=pI 1 (by decide)
 have hvl:=codeVal_le hV hv
 have bf:bnot false=true:=rfl
 obtain ⟨r1,r2⟩:=rooms k hk hk2 P hP 1 (by decide)
 have r3:roomS (app (packB 1) (codeP P)) (codeVal V)=true:=roomS_ok (by omega) (by omega)
 rw [z1c.f_eq,z1A.f_eq]
 simp only [h0,bnd_some,show ieq (1:Int) 0=false from rfl,show ieq (1:Int) 5=false from rfl,show ieq (1:Int) 2=false from rfl,show ieq (1:Int) 3=false from rfl,bf,br_true,br_false,rpcode_is k hP (by omega) hk2,r1,rvacode_is k hV hv,r3]
 refine (rrcode_is k _ (o:=(1,(P,(V,(A,S))))) hs.2 hs.1 (by unfold app at r2 ⊢;rw [List.length_append];omega) hk hk2).trans ?_
 unfold app;simp only [List.append_assoc]
theorem rocode_4 (hV:ValOK V) (hs:S.length≤256∧∀ u ∈ S,rightD u.1=true∧0≤u.2∧u.2<16):z1c.f k (4,(P,(V,(A,S))))=some (packB 4++(codeP P++(codeVal V++codeT S))):=by
 have h0:packI 4=some (packB 4):=pI 4 (by decide)
 have hvl:=codeVal_le hV hv
 have bf:bnot false=true:=rfl
 obtain ⟨r1,r2⟩:=rooms k hk hk2 P hP 4 (by decide)
 have r3:roomS (app (packB 4) (codeP P)) (codeVal V)=true:=roomS_ok (by omega) (by omega)
 rw [z1c.f_eq,z1A.f_eq]
 simp only [h0,bnd_some,show ieq (4:Int) 0=false from rfl,show ieq (4:Int) 5=false from rfl,show ieq (4:Int) 2=false from rfl,show ieq (4:Int) 3=false from rfl,bf,br_true,br_false,rpcode_is k hP (by omega) hk2,r1,rvacode_is k hV hv,r3]
 refine (rrcode_is k _ (o:=(4,(P,(V,(A,S))))) hs.2 hs.1 (by unfold app at r2 ⊢;rw [List.length_append];omega) hk hk2).trans ?_
 unfold app;simp only [List.append_assoc]
theorem rocode_2 (hV:ValOK V):z1c.f k (2,(P,(V,(A,S))))=some (packB 2++(codeP P++codeVal V)):=by
 have h0:packI 2=some (packB 2):=pI 2 (by decide)
 have hvl:=codeVal_le hV hv
 have bf:bnot false=true:=rfl
 obtain ⟨r1,r2⟩:=rooms k hk hk2 P hP 2 (by decide)
 have r3:roomS (app (packB 2) (codeP P)) (codeVal V)=true:=roomS_ok (by omega) (by omega)
 rw [z1c.f_eq,z1A.f_eq]
 simp only [h0,bnd_some,show ieq (2:Int) 0=false from rfl,show ieq (2:Int) 5=false from rfl,show ieq (2:Int) 2=true from rfl,show ieq (2:Int) 3=false from rfl,bf,br_true,br_false,rpcode_is k hP (by omega) hk2,r1,rvacode_is k hV hv,r3]
 unfold app;rw [List.append_assoc]
omit hv in
theorem rocode_5 (hs:S.length≤256∧∀ u ∈ S,rightD u.1=true∧0≤u.2∧u.2<16):z1c.f k (5,(P,(V,(A,S))))=some (packB 5++(codeP P++codeT S)):=by
 have h0:packI 5=some (packB 5):=pI 5 (by decide)
 have bt:bnot true=false:=rfl
 obtain ⟨r1,r2⟩:=rooms k hk hk2 P hP 5 (by decide)
 rw [z1c.f_eq,z1A.f_eq]
 simp only [h0,bnd_some,show ieq (5:Int) 0=false from rfl,show ieq (5:Int) 5=true from rfl,show ieq (5:Int) 2=false from rfl,show ieq (5:Int) 3=false from rfl,bt,br_true,br_false,rpcode_is k hP (by omega) hk2,r1]
 refine (rrcode_is k _ (o:=(5,(P,(V,(A,S))))) hs.2 hs.1 (by omega) hk hk2).trans ?_
 unfold app;simp only [List.append_assoc]
end
theorem rocode_is (k:Nat) {o:Op} (h:o=goneO∨OkO k o) (hs:ShortO o) (hk:5000<k) (hk2:k<1000000):z1c.f k o=some (codeO o):=by
 rcases h with rfl | h
 ·rw [rocode_0];rfl
 ·have hK:=h.kind
  have hvr:=h.valr;have hse:=h.seen;have hv:=hs.val;have hP:=hs.path;have ha:=h.amt3
  clear h hs
  obtain ⟨K,P,V,A,S⟩:=o
  simp only at hK hvr hse hv hP ha
  rcases hK with rfl | rfl | rfl | rfl | rfl
  ·exact rocode_1 k hk hk2 P V A S hP hv (val_ok k V (hvr (.inl rfl))) hse
  ·exact rocode_2 k hk hk2 P V A S hP hv (val_ok k V (hvr (.inr (.inl rfl))))
  ·exact rocode_3 k hk hk2 P V A S hP ha.1 ha.2
  ·exact rocode_4 k hk hk2 P V A S hP hv (val_ok k V (hvr (.inr (.inr rfl)))) hse
  ·exact rocode_5 k hk hk2 P V A S hP hse
theorem rtocode_l (k:Nat) (t:Txn) (hr:∀ o ∈ t.2.2.2.2,o=goneO∨OkO k o) (hs:∀ o ∈ t.2.2.2.2,ShortO o) (hl:t.2.2.2.2.length<1000) (hk:5000<k) (hk2:k<1000000):∀ (n i:Nat) (x:List UInt8),i≤t.2.2.2.2.length→t.2.2.2.2.length<n+i→x.length≤100+8000 * i→z1j.l7 k n x (i:Int) t=some (x++(t.2.2.2.2.drop i).flatMap codeO)
 | 0,i,_,h,h',_=>by omega
 | n+1,i,x,h,h',hx=>by
  rw [z1j.l7_eq,ilt_nat,inL_nat,natOf_nat]
  by_cases hi:i<t.2.2.2.2.length
  ·have hd:=hr t.2.2.2.2[i] (List.getElem_mem hi)
   have hsd:=hs t.2.2.2.2[i] (List.getElem_mem hi)
   have hp:=codeO_le hd hsd
   have e4:iadd .i64 (i:Int) 1=((i+1:Nat):Int):=iadd_nat (by omega)
   have ed:t.2.2.2.2.drop i=t.2.2.2.2[i]::t.2.2.2.2.drop (i+1):=List.drop_eq_getElem_cons hi
   rw [decide_eq_true hi,rd_at' (e:=tOp) hi,rocode_is k hd hsd hk hk2,e4,ed,List.flatMap_cons]
   simp only [br_true,bnd_some]
   rw [roomS_ok (by omega) (by omega),br_true]
   refine (rtocode_l k t hr hs hl hk hk2 n (i+1) _ (by omega) (by omega) (by unfold app;rw [List.length_append];omega)).trans ?_
   unfold app;rw [List.append_assoc]
  ·have e0:t.2.2.2.2.drop i=[]:=List.drop_eq_nil_of_le (by omega)
   rw [decide_eq_false hi,br_false,e0];simp
theorem rtxcode_is (k : Nat) {t : Txn} (h : OkT k t) (hs : ShortT t) (hk : 5000 < k) (hk2 : k < 1000000) : z1j.f k t = some (codeTx t) := by
  have h1 := codeD_le h.dot
  have hu := h.user; have ht := h.time; have ho := h.ops
  have h2 := packB_le (n := t.2.1.toNat) (by omega)
  have h3 := packB_le (n := t.2.2.1.toNat) (by omega)
  have h4 : ∀ b, (packB (thinN b)).length ≤ 8 := fun b => packB_le (n := thinN b) (by unfold thinN; split <;> omega)
  have h5 := packB_le (n := t.2.2.2.2.length) (by omega)
  have e : (ilen t.2.2.2.2).toNat = t.2.2.2.2.length := rfl
  have q1 : packI 1 = some (packB (thinN true)) := pI 1 (by decide)
  have q0 : packI 0 = some (packB (thinN false)) := pI 0 (by decide)
  have key : ∀ b, (br (roomS (app (app (codeD t.1) (packB t.2.1.toNat)) (packB t.2.2.1.toNat)) (packB (thinN b)))
          (br (roomS (app (app (app (codeD t.1) (packB t.2.1.toNat)) (packB t.2.2.1.toNat)) (packB (thinN b))) (packB t.2.2.2.2.length))
            (z1j.l7 k k (app (app (app (app (codeD t.1) (packB t.2.1.toNat)) (packB t.2.2.1.toNat)) (packB (thinN b))) (packB t.2.2.2.2.length)) 0 t)
            none)
          none) = some (codeD t.1 ++ (packB t.2.1.toNat ++ (packB t.2.2.1.toNat ++ (packB (thinN b) ++ (packB t.2.2.2.2.length ++ t.2.2.2.2.flatMap codeO))))) := by
    intro b
    have h4 := h4 b
    rw [roomS_ok (by unfold app; simp only [List.length_append]; omega) (by omega), br_true, roomS_ok (by unfold app; simp only [List.length_append]; omega) (by omega), br_true]
    refine (rtocode_l k t h.each hs.ops (by omega) hk hk2 k 0 _ (by omega) (by omega) (by unfold app; simp only [List.length_append]; omega)).trans ?_
    rw [List.drop_zero]; unfold app; simp only [List.append_assoc]
  rw [z1j.f_eq, rdcode_is k h.dot, packI_is (n := t.2.1) (by omega), packI_is (n := t.2.2.1) (by omega), packI_is (n := ilen t.2.2.2.2) (by unfold ilen; omega), e, q1, q0]
  unfold codeTx
  simp only [bnd_some]
  rw [roomS_ok (by omega) (by omega), br_true, roomS_ok (by unfold app; simp only [List.length_append]; omega) (by omega), br_true]
  cases t.2.2.2.1 with
  | true => rw [br_true]; exact key true
  | false => rw [br_false]; exact key false
theorem rtlcode_l (k:Nat) (l:List Txn) (hr:∀ t ∈ l,OkT k t) (hs:∀ t ∈ l,ShortT t) (hl:l.length≤20) (hk:5000<k) (hk2:k<1000000):∀ (n i:Nat) (x:List UInt8),i≤l.length→l.length<n+i→x.length≤100+130000 * i→z1g.l3 k n l x (i:Int)=some (x++(l.drop i).flatMap codeTx)
 | 0,i,_,h,h',_=>by omega
 | n+1,i,x,h,h',hx=>by
  rw [z1g.l3_eq,ilt_nat,inL_nat,natOf_nat]
  by_cases hi:i<l.length
  ·have hd:=hr l[i] (List.getElem_mem hi)
   have hsd:=hs l[i] (List.getElem_mem hi)
   have hp:=codeTx_le hd hsd
   have e4:iadd .i64 (i:Int) 1=((i+1:Nat):Int):=iadd_nat (by omega)
   have ed:l.drop i=l[i]::l.drop (i+1):=List.drop_eq_getElem_cons hi
   rw [decide_eq_true hi,rd_at' (e:=tTxn) hi,rtxcode_is k hd hsd hk hk2,e4,ed,List.flatMap_cons]
   simp only [br_true,bnd_some]
   rw [roomS_ok (by omega) (by omega),br_true]
   refine (rtlcode_l k l hr hs hl hk hk2 n (i+1) _ (by omega) (by omega) (by unfold app;rw [List.length_append];omega)).trans ?_
   unfold app;rw [List.append_assoc]
  ·have e0:l.drop i=[]:=List.drop_eq_nil_of_le (by omega)
   rw [decide_eq_false hi,br_false,e0];simp
theorem rtlcode_is (k:Nat) {l:List Txn} (hr:∀ t ∈ l,OkT k t) (hs:∀ t ∈ l,ShortT t) (hl:l.length≤20) (hk:5000<k) (hk2:k<1000000):z1g.f k l=some (codeTL l):=by
 have e:(ilen l).toNat=l.length:=rfl
 have hp:=packB_le (n:=l.length) (by omega)
 rw [z1g.f_eq,packI_is (n:=ilen l) (by unfold ilen;omega),e,bnd_some]
 exact rtlcode_l k l hr hs hl hk hk2 k 0 _ (by omega) (by omega) (by omega)
theorem rtcode_l (k:Nat) (l:List Undo) (hr:∀ u ∈ l,rightU u=true) (hl:l.length<1000000):∀ (n i:Nat) (x:List UInt8),i≤l.length→l.length<n+i→x.length≤100+24 * i→z1s.l3 k n l x (i:Int)=some (x++(l.drop i).flatMap codeU)
 | 0,i,_,h,h',_=>by omega
 | n+1,i,x,h,h',hx=>by
  rw [z1s.l3_eq,ilt_nat,inL_nat,natOf_nat]
  by_cases hi:i<l.length
  ·have hd:=hr l[i] (List.getElem_mem hi)
   obtain ⟨hd1,hd2,hd3⟩:=(rightU_iff _).1 hd
   have hp:=codeU_le hd
   have hp1:=codeD_le hd1
   have hp2:=packB_le (n:=l[i].2.toNat) (by omega)
   have e4:iadd .i64 (i:Int) 1=((i+1:Nat):Int):=iadd_nat (by omega)
   have ed:l.drop i=l[i]::l.drop (i+1):=List.drop_eq_getElem_cons hi
   rw [decide_eq_true hi,rd_at' (e:=tUndo) hi,rdcode_is k hd1,packI_is (n:=l[i].2) (by omega),e4,ed,List.flatMap_cons]
   simp only [br_true,bnd_some]
   rw [roomS_ok (by omega) (by omega),br_true,roomS_ok (by unfold app;rw [List.length_append];omega) (by omega),br_true]
   have ea:app (app x (codeD l[i].1)) (packB l[i].2.toNat)=x++codeU l[i]:=by unfold app codeU;rw [List.append_assoc]
   rw [ea]
   refine (rtcode_l k l hr hl n (i+1) _ (by omega) (by omega) (by rw [List.length_append];omega)).trans ?_
   rw [List.append_assoc]
  ·have e0:l.drop i=[]:=List.drop_eq_nil_of_le (by omega)
   rw [decide_eq_false hi,br_false,e0];simp
theorem rtcode_is (k:Nat) {l:List Undo} (hr:∀ u ∈ l,rightU u=true) (hl:l.length<k) (hk:k<1000000):z1s.f k l=some (codeT l):=by
 have e:(ilen l).toNat=l.length:=rfl
 have hp:=packB_le (n:=l.length) (by omega)
 rw [z1s.f_eq,packI_is (n:=ilen l) (by unfold ilen;omega),e,bnd_some]
 exact rtcode_l k l hr (by omega) k 0 _ (by omega) (by omega) (by omega)
theorem rlcode_l (k:Nat) (l:List Dot) (hr:∀ d ∈ l,rightD d=true) (hl:l.length<1000000):∀ (n i:Nat) (x:List UInt8),i≤l.length→l.length<n+i→x.length≤100+16 * i→z1q.l3 k n l x (i:Int)=some (x++(l.drop i).flatMap codeD)
 | 0,i,_,h,h',_=>by omega
 | n+1,i,x,h,h',hx=>by
  rw [z1q.l3_eq,ilt_nat,inL_nat,natOf_nat]
  by_cases hi:i<l.length
  ·have hd:=hr l[i] (List.getElem_mem hi)
   have hp:=codeD_le hd
   have e4:iadd .i64 (i:Int) 1=((i+1:Nat):Int):=iadd_nat (by omega)
   have ed:l.drop i=l[i]::l.drop (i+1):=List.drop_eq_getElem_cons hi
   rw [decide_eq_true hi,rd_at' (e:=tDot) hi,rdcode_is k hd,e4,ed,List.flatMap_cons]
   simp only [br_true,bnd_some]
   rw [roomS_ok (by omega) (by omega),br_true]
   refine (rlcode_l k l hr hl n (i+1) _ (by omega) (by omega) (by unfold app;rw [List.length_append];omega)).trans ?_
   unfold app;rw [List.append_assoc]
  ·have e0:l.drop i=[]:=List.drop_eq_nil_of_le (by omega)
   rw [decide_eq_false hi,br_false,e0];simp
theorem rlcode_is (k:Nat) {l:List Dot} (hr:∀ d ∈ l,rightD d=true) (hl:l.length<k) (hk:k<1000000):z1q.f k l=some (codeL l):=by
 have e:(ilen l).toNat=l.length:=rfl
 have hp:=packB_le (n:=l.length) (by omega)
 rw [z1q.f_eq,packI_is (n:=ilen l) (by unfold ilen;omega),e,bnd_some]
 exact rlcode_l k l hr (by omega) k 0 _ (by omega) (by omega) (by omega)
theorem rdlcode_is (k:Nat) {d:Dlt} (sh:ShortD d) (hr:RightDl k d) (hk:5000<k) (hk2:k<1000000):z0I.f k d=some (codeDl d):=by
 have ho:=hr.ok sh.each (by omega) hk2
 have l1:=codeTL_le ho sh.each sh.tx
 have l2:=codeT_le hr.un.rt sh.un (by omega)
 have l3:=codeL_le hr.se (by have:=sh.se;omega)
 have hun:=sh.un;have hse:=sh.se
 rw [z0I.f_eq,rtlcode_is k ho sh.each sh.tx hk hk2,rtcode_is k hr.un.rt (by omega) hk2,rlcode_is k hr.se (by omega) hk2]
 simp only [bnd_some]
 rw [roomS_ok (by omega) (by omega),br_true,roomS_ok (by unfold app;rw [List.length_append];omega) (by omega),br_true]
 unfold app codeDl;simp only [List.append_assoc]
end Go.Proofs.YtggcagclpkhlhaaGreatDoor
end
noncomputable section
/- A frame's changed byte is found: the plain law. -/
namespace Go.Proofs.YtggcagclpkhlhaaGreatDoor
theorem sumB_len (n:Nat):(Crc.sumB n).length=4:=rfl
theorem bad_pure (P s:List UInt8) (j:Nat) (x:UInt8) (hj:j<s.length+4) (hx:∀ h:j<(s++Crc.sumB (Crc.sumN (P++s))).length,x ≠ (s++Crc.sumB (Crc.sumN (P++s)))[j]) :
  Crc.sumB (Crc.sumN (P++((s++Crc.sumB (Crc.sumN (P++s))).set j x).take s.length)) ≠ ((s++Crc.sumB (Crc.sumN (P++s))).set j x).drop s.length:=by
 have hl:(s++Crc.sumB (Crc.sumN (P++s))).length=s.length+4:=by rw [List.length_append,sumB_len]
 intro h
 by_cases c:j<s.length
 ·have t1:((s++Crc.sumB (Crc.sumN (P++s))).set j x).take s.length=s.set j x:=by
   rw [List.set_append_left _ _ c];simp
  have t2:((s++Crc.sumB (Crc.sumN (P++s))).set j x).drop s.length=Crc.sumB (Crc.sumN (P++s)):=by
   rw [List.set_append_left _ _ c];simp
  rw [t1,t2] at h
  have h2:=Crc.sumB_inj (Crc.sum_lt _) (Crc.sum_lt _) h
  have hx2:x ≠ s[j]:=by
   have:=hx (by omega)
   rwa [List.getElem_append_left c] at this
  have e1:s.set j x=s.take j++x::s.drop (j+1):=List.set_eq_take_append_cons_drop .. |>.trans (if_pos c)
  have e2:s=s.take j++s[j]::s.drop (j+1):=by rw [← List.drop_eq_getElem_cons c,List.take_append_drop]
  have h3:Crc.sumN (P++s)=Crc.sumN ((P++s.take j)++s[j]::s.drop (j+1)):=by
   rw [List.append_assoc,← e2]
  rw [h3,e1,← List.append_assoc] at h2
  exact Crc.sum_ne _ _ hx2 h2
 ·have t1:((s++Crc.sumB (Crc.sumN (P++s))).set j x).take s.length=s:=by
   rw [List.set_append_right _ _ (by omega)];simp
  have t2:((s++Crc.sumB (Crc.sumN (P++s))).set j x).drop s.length=(Crc.sumB (Crc.sumN (P++s))).set (j - s.length) x:=by
   rw [List.set_append_right _ _ (by omega)];simp
  rw [t1,t2] at h
  have hx2:=hx (by omega)
  rw [List.getElem_append_right (by omega)] at hx2
  have hj4:j - s.length<(Crc.sumB (Crc.sumN (P++s))).length:=by rw [sumB_len];omega
  have:=congrArg (fun l:List UInt8=>l[j - s.length]?) h
  simp only [List.getElem?_set_self hj4,List.getElem?_eq_getElem hj4] at this
  injection this with this
  exact hx2 this.symm
end Go.Proofs.YtggcagclpkhlhaaGreatDoor
end
noncomputable section
/- Frames: what one is, and what is cut of one; a changed byte is found. -/
namespace Go.Proofs.YtggcagclpkhlhaaGreatDoor
open Pal
def codeF (s:List UInt8):List UInt8:=codeX s++Crc.sumB (Crc.sumN (codeX s))
theorem frame_of (k:Nat) (s:List UInt8) (hs:s.length≤800000) (hk:900000≤k) (hk2:k<1000000):z2b.f k s=some (codeF s):=by
 have hx:=codeX_len s (by omega)
 rw [z2b.f_eq,text_code k s (by omega),bnd_some,z1D.f_eq,sum_is k (codeX s) (by omega) (by omega) hk2,bnd_some,sumBI_is (Crc.sum_lt _),bnd_some,roomS_ok (by omega) (by rw [sumB_len];omega),br_true,bnd_some];rfl
theorem rframe_of (k:Nat) (s:List UInt8) (hs:s.length≤800000) (hk:900000≤k) (hk2:k<1000000):z23.f k s=some (codeF s):=by
 have hx:=codeX_len s (by omega)
 rw [z23.f_eq,rtext_code k s (by omega),bnd_some,rsum_is k (codeX s) (by omega) (by omega) hk2,bnd_some,sumBI_is (Crc.sum_lt _),bnd_some,roomS_ok (by omega) (by rw [sumB_len];omega),br_true];rfl
theorem left_ok (k:Nat) (t:List UInt8):z0i.f k (t,0)=some (ilen t,(t,0)):=by
 have bt:bnot true=false:=rfl
 rw [z0i.f_eq,fine_is]
 simp only [bnd_some,decide_true,bt,br_false]
theorem seq_dec (a b:List UInt8):seq a b=decide (a=b):=by
 unfold seq
 by_cases h:a=b
 ·subst h;simp
 ·rw [decide_eq_false h];simpa using h
theorem open_is (k:Nat) (T B:List UInt8) (hB:B.length=4) (hT:T.length<k) (hk:900000≤k) (hk2:k<1000000):z1Z.f k (T++B)=some (if Crc.sumB (Crc.sumN T)=B then (T,true) else ([],false)):=by
 have hl:(T++B).length=T.length+4:=by rw [List.length_append,hB]
 have e1:isub .i64 (ilen (T++B)) 4=(T.length:Int):=by unfold ilen;rw [isub_s (by omega) (by omega) (by omega) (by omega),hl];omega
 have i1:inS 0 (T.length:Int) (ilen (T++B))=true:=inS_nn (a:=0) (c:=(T++B).length) (by omega) (by omega)
 have i2:inS (T.length:Int) (ilen (T++B)) (ilen (T++B))=true:=inS_nn (b:=(T++B).length) (c:=(T++B).length) (by omega) (by omega)
 have p1:piece (T++B) 0 (T.length:Int)=T:=by unfold piece;simp
 have p2:piece (T++B) (T.length:Int) (ilen (T++B))=B:=by
  unfold piece ilen;rw [Int.toNat_natCast,Int.toNat_natCast,List.take_length];simp
 rw [z1Z.f_eq,e1,show ilt (T.length:Int) 0=false from decide_eq_false (by omega),br_false,i1,br_true,p1,sum_is k T hT (by omega) hk2,bnd_some,sumBI_is (Crc.sum_lt _),bnd_some,i2,br_true,p2,seq_dec]
 by_cases h:Crc.sumB (Crc.sumN T)=B
 ·rw [decide_eq_true h,if_pos h,show bnot true=false from rfl,br_false,br_true]
 ·rw [decide_eq_false h,if_neg h,show bnot false=true from rfl,br_true]
theorem cut_is (k n:Nat) (R:List UInt8) (hR:R.length=n+4) (hn:n≤800000) (hk:900000≤k) (hk2:k<1000000) :
  z1P.f k (packB n++R)=some (if Crc.sumB (Crc.sumN (packB n++R.take n))=R.drop n then (R.take n,([],0)) else ([],([],5))):=by
 have hp:=packB_le (n:=n) (by omega)
 have hl:(packB n++R).length=(packB n).length+(n+4):=by rw [List.length_append,hR]
 have e1:isub .i64 (ilen (packB n++R)) (ilen R)=((packB n).length:Int):=by unfold ilen;rw [isub_s (by omega) (by omega) (by omega) (by omega),hl,hR];omega
 have e2:iadd .i64 (n:Int) 4=((n+4:Nat):Int):=by rw [iadd_s (by omega) (by omega) (by omega) (by omega)];omega
 have e3:iadd .i64 ((packB n).length:Int) (n:Int)=(((packB n).length+n:Nat):Int):=by rw [iadd_s (by omega) (by omega) (by omega) (by omega)];omega
 have e4:iadd .i64 (((packB n).length+n:Nat):Int) 4=(((packB n).length+n+4:Nat):Int):=by rw [iadd_s (by omega) (by omega) (by omega) (by omega)];omega
 have c1:ilt 1048576 (n:Int)=false:=decide_eq_false (by omega)
 have c2:ilt (ilen R) ((n+4:Nat):Int)=false:=by unfold ilt ilen;exact decide_eq_false (by rw [hR];omega)
 have hwhole:(((packB n).length+n+4:Nat):Int)=ilen (packB n++R):=by unfold ilen;rw [hl];omega
 have p1:piece (packB n++R) 0 (ilen (packB n++R))=packB n++R:=by unfold piece ilen;rw [Int.toNat_natCast,List.take_length];simp
 have i1:inS 0 (ilen (packB n++R)) (ilen (packB n++R))=true:=inS_nn (a:=0) (b:=(packB n++R).length) (c:=(packB n++R).length) (by omega) (by omega)
 have i3:inS (ilen (packB n++R)) (ilen (packB n++R)) (ilen (packB n++R))=true:=inS_nn (a:=(packB n++R).length) (b:=(packB n++R).length) (c:=(packB n++R).length) (by omega) (by omega)
 have ea:packB n++R=(packB n++R.take n)++R.drop n:=by rw [List.append_assoc,List.take_append_drop]
 have ht:(R.take n).length=n:=by rw [List.length_take];omega
 have hd:(R.drop n).length=4:=by rw [List.length_drop];omega
 have hT:(packB n++R.take n).length=(packB n).length+n:=by rw [List.length_append,ht]
 have ho:=open_is k (packB n++R.take n) (R.drop n) hd (by omega) hk hk2
 rw [← ea] at ho
 have i2:inS ((packB n).length:Int) (ilen (packB n++R.take n)) (ilen (packB n++R.take n))=true:=inS_nn (b:=(packB n++R.take n).length) (c:=(packB n++R.take n).length) (by omega) (by omega)
 have p2:piece (packB n++R.take n) ((packB n).length:Int) (ilen (packB n++R.take n))=R.take n:=by
  unfold piece ilen;rw [Int.toNat_natCast,Int.toNat_natCast,List.take_length];simp
 have p3:piece (packB n++R) (ilen (packB n++R)) (ilen (packB n++R))=[]:=by unfold piece ilen;rw [Int.toNat_natCast,List.take_length];simp
 rw [z1P.f_eq,z1F.f_eq,bnd_some]
 simp only []
 rw [back_int k n R (by omega) (by omega) (by rw [hl];omega),bnd_some]
 simp only []
 rw [left_ok,bnd_some,fault_is,bnd_some]
 simp only []
 rw [show ieq (0:Int) 0=true from rfl,show bnot true=false from rfl,br_false,c1,br_false,left_ok,bnd_some]
 simp only []
 rw [e2,c2,br_false,e1,e3,e4,hwhole,i1,br_true,p1,ho,bnd_some]
 by_cases h:Crc.sumB (Crc.sumN (packB n++R.take n))=R.drop n
 ·rw [if_pos h,if_pos h]
  simp only []
  rw [show bnot true=false from rfl,br_false,i2,br_true,i3,br_true,p2,p3]
 ·rw [if_neg h,if_neg h]
  simp only []
  rw [show bnot false=true from rfl,br_true]
theorem codeF_ap (s:List UInt8):codeF s=packB s.length++(s++Crc.sumB (Crc.sumN (packB s.length++s))):=by
 unfold codeF codeX;rw [List.append_assoc]
theorem cut_of (k:Nat) (s:List UInt8) (hs:s.length≤800000) (hk:900000≤k) (hk2:k<1000000):z1P.f k (codeF s)=some (s,([],0)):=by
 have t1:(s++Crc.sumB (Crc.sumN (packB s.length++s))).take s.length=s:=by simp
 have t2:(s++Crc.sumB (Crc.sumN (packB s.length++s))).drop s.length=Crc.sumB (Crc.sumN (packB s.length++s)):=by simp
 rw [codeF_ap,cut_is k s.length _ (by rw [List.length_append,sumB_len]) hs hk hk2,t1,t2,if_pos rfl]
theorem cut_bad (k:Nat) (s:List UInt8) (j:Nat) (x:UInt8) (hj:j<s.length+4) (hs:s.length≤800000) (hk:900000≤k) (hk2:k<1000000)
  (hx:∀ h:j<(s++Crc.sumB (Crc.sumN (packB s.length++s))).length,x ≠ (s++Crc.sumB (Crc.sumN (packB s.length++s)))[j]) :
  z1P.f k (packB s.length++(s++Crc.sumB (Crc.sumN (packB s.length++s))).set j x)=some ([],([],5)):=by
 have hl:(s++Crc.sumB (Crc.sumN (packB s.length++s))).length=s.length+4:=by rw [List.length_append,sumB_len]
 rw [cut_is k s.length _ (by rw [List.length_set,hl]) hs hk hk2,if_neg (bad_pure (packB s.length) s j x hj hx)]
end Go.Proofs.YtggcagclpkhlhaaGreatDoor
end
noncomputable section
/- How long the bytes of short deltas are: less than a frame may hold. -/
namespace Go.Proofs.YtggcagclpkhlhaaGreatDoor
open Pal
theorem pb1 {n:Nat} (h:n<128):(packB n).length≤1:=packB_len 0 n (by show n<128;exact h)
theorem pb2 {n:Nat} (h:n<16384):(packB n).length≤2:=packB_len 1 n (by show n<16384;exact h)
theorem pb3 {n:Nat} (h:n<2097152):(packB n).length≤3:=packB_len 2 n (by show n<2097152;exact h)
theorem pb5 {n:Nat} (h:n<34359738368):(packB n).length≤5:=packB_len 4 n (by show n<34359738368;exact h)
theorem pb6 {n:Nat} (h:n<4398046511104):(packB n).length≤6:=packB_len 5 n (by show n<4398046511104;exact h)
theorem codeD_4 {d:Dot} (h:rightD d=true):(codeD d).length≤4:=by
 obtain ⟨h1,h2,h3,h4⟩:=rightD_rng h
 have:=pb1 (n:=d.1.toNat) (by omega)
 have:=pb3 (n:=d.2.toNat) (by omega)
 unfold codeD;rw [List.length_append];omega
theorem codeU_5 {u:Undo} (h:rightD u.1=true∧0≤u.2∧u.2≤64):(codeU u).length≤5:=by
 have:=codeD_4 h.1
 have:=pb1 (n:=u.2.toNat) (by omega)
 unfold codeU;rw [List.length_append];omega
theorem codeX_121 {s:Str} (h:List.length s≤120):(codeX s).length≤121:=by
 have:=pb1 (n:=List.length s) (by omega)
 unfold codeX;rw [List.length_append];omega
theorem codeP_969 {p:List Str} (h:ShortP p) (h8:p.length≤8):(codeP p).length≤969:=by
 have:=pb1 (n:=p.length) (by omega)
 have:=codes_le codeX 121 p (fun s hs=>codeX_121 (h.2 s hs))
 unfold codeP;rw [List.length_append];omega
theorem codeVal_203 {v:Val} (hv:ValOK v) (hl:v.2.2.length≤200):(codeVal v).length≤203:=by
 have h1:=hv.kind
 have p1:=pb1 (n:=v.1.toNat) (by omega)
 unfold codeVal;rw [List.length_append]
 split
 ·have:=pb2 (n:=List.length v.2.2) (by omega)
  unfold codeX;rw [List.length_append];omega
 ·rename_i h2
  obtain ⟨_,a,b⟩:=hv.num h2
  have:=pb5 (n:=foldN v.2.1) (by unfold foldN;split <;> omega)
  omega
theorem codeT_1282 {l:List Undo} (h:∀ u ∈ l,rightD u.1=true∧0≤u.2∧u.2≤64) {n:Nat} (hl:l.length≤n) (hn:n<16384):(codeT l).length≤2+5 * n:=by
 have:=pb2 (n:=l.length) (by omega)
 have:=codes_le codeU 5 l (fun u hu=>codeU_5 (h u hu))
 unfold codeT;rw [List.length_append];omega
theorem codeO_2460 {k:Nat} {o:Op} (h:o=goneO∨OkO k o) (hs:ShortO o):(codeO o).length≤2460:=by
 unfold codeO
 rcases h with rfl | h
 ·rw [if_pos (by rfl)];have:=pb1 (n:=0) (by omega);omega
 ·have hp:=codeP_969 hs.path (path_len k _ h.path)
  have hk:=pb1 (n:=o.1.toNat) (by have:=h.kind;omega)
  have ht:=codeT_1282 (l:=o.2.2.2.2) (fun u hu=>by obtain ⟨a,b,c⟩:=h.seen.2 u hu;exact ⟨a,b,by omega⟩) h.seen.1 (by decide)
  have hv:=hs.val
  rw [if_neg (by have:=h.kind;omega),List.length_append,List.length_append]
  have:(codeTl o).length≤1485:=by
   unfold codeTl
   obtain ⟨a,b⟩:=h.amt3
   have:=pb5 (n:=foldN o.2.2.2.1) (by unfold foldN;split <;> omega)
   by_cases c3:o.1=3
   ·rw [if_pos c3];omega
   rw [if_neg c3]
   by_cases c2:o.1=2
   ·have:=codeVal_203 (val_ok k _ (h.valr (.inr (.inl c2)))) hv
    rw [if_pos c2];omega
   rw [if_neg c2]
   by_cases c5:o.1=5
   ·rw [if_pos c5];omega
   rw [if_neg c5,List.length_append]
   have:=codeVal_203 (val_ok k _ (h.valr (by have:=h.kind;omega))) hv
   omega
  omega
theorem codeTx_40k {k:Nat} {t:Txn} (h:OkT k t) (hs:ShortT t):(codeTx t).length≤39400:=by
 have h1:=codeD_4 h.dot
 have hu:=h.user;have ht:=h.time;have ho:=h.ops
 have h2:=pb1 (n:=t.2.1.toNat) (by omega)
 have h3:=pb6 (n:=t.2.2.1.toNat) (by omega)
 have h4:=pb1 (n:=thinN t.2.2.2.1) (by unfold thinN;split <;> omega)
 have h5:=pb1 (n:=t.2.2.2.2.length) (by omega)
 have:=codes_le codeO 2460 t.2.2.2.2 (fun o ho=>codeO_2460 (h.each o ho) (hs.ops o ho))
 unfold codeTx;simp only [List.length_append];omega
theorem codeDl_800k {k:Nat} {d:Dlt} (sh:ShortD d) (hr:RightDl k d) (hk:5000<k) (hk2:k<1000000):(codeDl d).length≤790000:=by
 have ho:=hr.ok sh.each (by omega) hk2
 have a1:=sh.tx;have a2:=sh.un;have a3:=sh.se
 have p1:=pb1 (n:=d.1.length) (by omega)
 have p3:=pb1 (n:=d.2.2.length) (by omega)
 have l1:=codes_le codeTx 39400 d.1 (fun t ht=>codeTx_40k (ho t ht) (sh.each t ht))
 have l2:=codeT_1282 (l:=d.2.1) (fun u hu=>by obtain ⟨a,b,c⟩:=(rightU_iff u).1 (hr.un.rt u hu);exact ⟨a,by omega,by omega⟩) a2 (by decide)
 have l3:=codes_le codeD 4 d.2.2 (fun x hx=>codeD_4 (hr.se x hx))
 unfold codeDl codeTL codeL;simp only [List.length_append];omega
end Go.Proofs.YtggcagclpkhlhaaGreatDoor
end
noncomputable section
/- The document's bytes of states and records are the program's. -/
namespace Go.Proofs.YtggcagclpkhlhaaGreatDoor
open Pal
theorem rvcode_l (k:Nat) (v:Vec) (hv:VOk v):∀ (n i:Nat) (x:List UInt8),i≤16→16<n+i→x.length≤100+8 * i→z1x.l3 k n x (i:Int) v=some (x++List.flatMap (fun n:Int=>packB n.toNat) (List.drop i v))
 | 0,i,_,h,h',_=>by omega
 | n+1,i,x,h,h',hx=>by
  have hvl:=hv.len
  rw [z1x.l3_eq,show ilt (i:Int) 16=decide (i<16) from ilt_nn i 16,inB_nat,natOf_nat]
  by_cases hi:i<16
  ·have hil:i<List.length v:=by omega
   have e:rd (.int .i64) v i=v[i]:=rd_at' (e:=.int .i64) hil
   have hge:0≤v[i]∧v[i]≤1048576:=by
    have h1:=hv.lo (i:Int) (by omega) (by omega)
    have h2:=hv.hi (i:Int) (by omega) (by omega)
    rw [vat_get hil] at h1 h2;exact ⟨h1,h2⟩
   have e4:iadd .i64 (i:Int) 1=((i+1:Nat):Int):=iadd_nat (by omega)
   have hp:(packB v[i].toNat).length≤8:=packB_le (by omega)
   have ed:List.drop i v=v[i]::List.drop (i+1) v:=List.drop_eq_getElem_cons hil
   rw [decide_eq_true hi,e,packI_is (n:=v[i]) (by omega),e4,ed,List.flatMap_cons]
   simp only [br_true,bnd_some]
   rw [roomS_ok (by omega) (by omega),br_true]
   refine (rvcode_l k v hv n (i+1) _ (by omega) (by omega) (by unfold app;rw [List.length_append];omega)).trans ?_
   unfold app;rw [List.append_assoc]
  ·have e0:List.drop i v=[]:=List.drop_eq_nil_of_le (by omega)
   rw [decide_eq_false hi,br_false,e0];simp
theorem rvcode_is (k:Nat) {v:Vec} (hv:VOk v) (hk:17<k):z1x.f k v=some (codeV v):=by
 rw [z1x.f_eq]
 exact rvcode_l k v hv k 0 [] (by omega) (by omega) (by simp)
theorem rscode_is (k:Nat) {s:DSet} (hs:Can s) (hl:s.2.length<k) (h17:17<k) (hk:k<1000000):z1h.f k s=some (codeS s):=by
 have h1:=codeV_le hs.vok
 have h2:=codeL_le hs.rt (by omega)
 rw [z1h.f_eq,rvcode_is k hs.vok h17,rlcode_is k hs.rt hl hk]
 simp only [bnd_some]
 rw [roomS_ok (by omega) (by omega)];rfl
section
variable (k:Nat) (hk:5000<k) (hk2:k<1000000)
include hk hk2
end
end Go.Proofs.YtggcagclpkhlhaaGreatDoor
end
noncomputable section
/- Messages: whether one may be, its bytes, and that it is parsed as it was told. (Draft: not built.) -/
namespace Go.Proofs.YtggcagclpkhlhaaGreatDoor
open Pal
abbrev Msg:=Ty.D tMessage
def noK:Know:=((zarr 16 0,[]),([],(zarr 16 0,[])))
theorem mrightK (k:Nat) (a:Know) (v1:a.1.1.length=16) (v2:a.2.2.1.length=16) (hl:a.2.1.length<k) (hk:5000<k) (hk2:k<1000000) :
  ∃ b,z14.f k a=some b∧z18.f k a=some b∧(b=true ↔ CanK a∧a.1.2.length≤4096∧a.2.2.2.length≤4096):=by
 obtain ⟨b1,g1,i1⟩:=dr_is k a.1 v1 hk hk2
 obtain ⟨b2,g2,i2⟩:=trightU2_is k a.2.1 (by omega) hl hk2
 obtain ⟨b3,g3,i3⟩:=dr_is k a.2.2 v2 hk hk2
 obtain ⟨c1,f1,j1⟩:=rr_is k a.1 v1 hk hk2
 obtain ⟨c2,f2,j2⟩:=rrightU_is k a.2.1 hl hk2
 obtain ⟨c3,f3,j3⟩:=rr_is k a.2.2 v2 hk hk2
 have e1:c1=b1:=by rw [Bool.eq_iff_iff,i1,j1]
 have e2:c2=b2:=by rw [Bool.eq_iff_iff,i2,j2]
 have e3:c3=b3:=by rw [Bool.eq_iff_iff,i3,j3]
 subst e1;subst e2;subst e3
 rw [z14.f_eq,z18.f_eq,g1,g2,g3,f1,f2,f3]
 simp only [bnd_some]
 cases c1 with
 | false=>exact ⟨false,rfl,rfl,⟨fun h=>(by cases h),fun h=>j1.2 ⟨h.1.kn,h.2.1⟩⟩⟩
 | true =>
  cases c2 with
  | false=>exact ⟨false,rfl,rfl,⟨fun h=>(by cases h),fun h=>j2.2 h.1.un⟩⟩
  | true =>
   refine ⟨c3,rfl,rfl,j3.trans ⟨fun h=>⟨⟨(j1.1 rfl).1,j2.1 rfl,h.1⟩,(j1.1 rfl).2,h.2⟩,fun h=>⟨h.1.se,h.2.2⟩⟩⟩
structure ShortM (m:Msg):Prop where
 d:ShortD m.2.2.2.1
 k:LenK 100 m.2.2.2.2
 v1:m.2.2.2.2.1.1.length=16
 v2:m.2.2.2.2.2.2.1.length=16
theorem mshortK (k:Nat) (a:Know):∃ b,z10.f k a=some b∧(b=true→LenK 100 a):=by
 have e:∀ {α:Type} (xs:List α),ile (ilen xs) 100=decide (xs.length≤100):=fun xs=>by unfold ile ilen;exact decide_eq_decide.2 ⟨fun h=>by omega,fun h=>by omega⟩
 rw [z10.f_eq,e,e,e]
 simp only [br_dec]
 by_cases h1:List.length a.1.2≤100
 ·rw [if_pos h1]
  by_cases h2:List.length a.2.1≤100
  ·rw [if_pos h2];exact ⟨_,rfl,fun h=>⟨h1,h2,of_decide_eq_true h⟩⟩
  ·rw [if_neg h2];exact ⟨false,rfl,fun h=>by cases h⟩
 ·rw [if_neg h1];exact ⟨false,rfl,fun h=>by cases h⟩
theorem mshort_is (k:Nat) (m:Msg) (fm:Fits tMessage m) (hk:1000<k) (hk2:k<1000000):∃ b,z0M.f k m=some b∧(b=true→ShortM m):=by
 have fk:Fits tKnow m.2.2.2.2:=fm.2.2.2.2
 obtain ⟨b1,g1,i1⟩:=rshortDl_is k m.2.2.2.1 hk hk2
 obtain ⟨b2,g2,i2⟩:=mshortK k m.2.2.2.2
 rw [z0M.f_eq,g1,g2]
 simp only [bnd_some]
 cases b1 with
 | false=>exact ⟨false,rfl,fun h=>by cases h⟩
 | true=>exact ⟨b2,rfl,fun h=>⟨i1 rfl,i2 h,fk.1.1.1,fk.2.2.1.1⟩⟩
def rep (n:Int):Bool:=decide (0≤n∧n<16)
theorem rep_is (k:Nat) (n:Int):z0n.f k n=some (rep n):=by
 rw [z0n.f_eq,show ile 0 n=decide (0≤n) from rfl,show ilt n 16=decide (n<16) from rfl]
 unfold rep
 by_cases h:0≤n
 ·rw [decide_eq_true h,br_true];exact congrArg some (decide_eq_decide.2 ⟨fun h2=>⟨h,h2⟩,fun h2=>h2.2⟩)
 ·rw [decide_eq_false h,br_false,decide_eq_false (fun h2=>h h2.1)]
theorem rep_two (n:Int) (X:Option Bool):br (bnot (rep n)) (some false) X=br (ilt n 0) (some false) (br (ilt 15 n) (some false) X):=by
 rw [show ilt n 0=decide (n<0) from rfl,show ilt 15 n=decide (15<n) from rfl]
 unfold rep
 by_cases h1:0≤n∧n<16
 ·rw [decide_eq_true h1,show bnot true=false from rfl,decide_eq_false (show ¬ n<0 by omega),decide_eq_false (show ¬ 15<n by omega)];rfl
 ·rw [decide_eq_false h1,show bnot false=true from rfl]
  by_cases h0:n<0
  ·rw [decide_eq_true h0];rfl
  ·rw [decide_eq_false h0,decide_eq_true (show 15<n by omega)];rfl
theorem rep_rng {n:Int} (h:rep n=true):0≤n∧n<16:=of_decide_eq_true h
theorem ieq_one {a b:Int} (h:ieq a b=true):a=b:=by rw [ieq_dec] at h;exact of_decide_eq_true h
theorem mright_is (k:Nat) (m:Msg) (sh:ShortM m) (hk:5000<k) (hk2:k<1000000):∃ b,z0x.f k m=some b∧z11.f k m=some b ∧
  (b=true→(0≤m.2.1∧m.2.1<16)∧(0≤m.2.2.1∧m.2.2.1<16)∧((m.1=1∧RightDl k m.2.2.2.1)∨(m.1=2∧CanK m.2.2.2.2))):=by
 have d1:=sh.d.un;have d2:=sh.d.se
 have kl:=sh.k.un
 obtain ⟨b3,q1,j1⟩:=tdl_is k m.2.2.2.1 (fun t ht=>(sh.d.each t ht).siz (by omega)) (by omega) (by omega) hk hk2
 obtain ⟨b4,q2,j2⟩:=rrightDl_is k m.2.2.2.1 sh.d.each (by omega) (by omega) hk hk2
 have hcc:b4=b3:=by rw [Bool.eq_iff_iff,j1,j2]
 subst hcc
 obtain ⟨c,r1,r2,r3⟩:=mrightK k m.2.2.2.2 sh.v1 sh.v2 (by omega) hk hk2
 have hrec:z0E.f k (3,(((0,0),(0,(0,(false,[])))),(0,(((0,0),0),(0,(m.2.2.2.1,([],([],(((zarr 16 0),[]),(((zarr 16 0),[]),(zarr 8 [])))))))))))=some b4:=by
  rw [z0E.f_eq]
  simp only [show ieq (3:Int) 1=false from rfl,show ieq (3:Int) 2=false from rfl,show ieq (3:Int) 3=true from rfl,br_true,br_false]
  rw [q1,bnd_some]
 have bt:bnot true=false:=rfl
 have bf:bnot false=true:=rfl
 rw [z0x.f_eq,z11.f_eq,rep_is,rep_is,hrec,q2,r1,r2]
 simp only [bnd_some,← rep_two]
 cases h1:rep m.2.1 with
 | false=>exact ⟨false,rfl,rfl,fun h=>by cases h⟩
 | true =>
 cases h2:rep m.2.2.1 with
 | false=>exact ⟨false,rfl,rfl,fun h=>by cases h⟩
 | true =>
 cases h3:ieq m.2.1 m.2.2.1 with
 | true=>exact ⟨false,rfl,rfl,fun h=>by cases h⟩
 | false =>
 cases k1:ieq m.1 1 with
 | true=>exact ⟨b4,rfl,rfl,fun h=>⟨rep_rng h1,rep_rng h2,.inl ⟨ieq_one k1,j2.1 h⟩⟩⟩
 | false =>
 cases k2:ieq m.1 2 with
 | true=>exact ⟨c,rfl,rfl,fun h=>⟨rep_rng h1,rep_rng h2,.inr ⟨ieq_one k2,(r3.1 h).1⟩⟩⟩
 | false=>exact ⟨false,rfl,rfl,fun h=>by cases h⟩
theorem rkcode_is (k:Nat) {a:Know} (ha:CanK a) (la:LenK 100 a) (hk:5000<k) (hk2:k<1000000):z1m.f k a=some (codeK a):=by
 have l1:=la.kn;have l2:=la.un;have l3:=la.se
 have c1:=codeS_le ha.kn l1 (by omega);have c2:=codeT_le ha.un.rt l2 (by omega);have c3:=codeS_le ha.se l3 (by omega)
 rw [z1m.f_eq,rscode_is k ha.kn (by omega) (by omega) hk2,rtcode_is k ha.un.rt (by omega) hk2,rscode_is k ha.se (by omega) (by omega) hk2]
 simp only [bnd_some]
 rw [roomS_ok (by omega) (by omega),br_true,roomS_ok (by unfold app;rw [List.length_append];omega) (by omega)];rfl
theorem codeK_le {a:Know} (ha:CanK a) (la:LenK 100 a):(codeK a).length≤10000:=by
 have c1:=codeS_le ha.kn la.kn (by omega);have c2:=codeT_le ha.un.rt la.un (by omega);have c3:=codeS_le ha.se la.se (by omega)
 unfold codeK;simp only [List.length_append];omega
end Go.Proofs.YtggcagclpkhlhaaGreatDoor
end
noncomputable section
/- Messages: their bytes, and that they are parsed as they were told. (Draft: not built.) -/
namespace Go.Proofs.YtggcagclpkhlhaaGreatDoor
open Pal
section
variable (k:Nat) (hk:900000≤k) (hk2:k<1000000) (f t:Int) (hf:0≤f∧f<16) (ht:0≤t∧t<16)
include hk hk2 hf ht
theorem mheads (K:Nat) (hK:K<100):(packB K).length≤8∧(packB f.toNat).length≤8∧(packB t.toNat).length≤8:=⟨packB_le (by omega),packB_le (by omega),packB_le (by omega)⟩
theorem mcode_1 (D:Dlt) (A:Know) (sh:ShortD D) (hr:RightDl k D):z0D.f k (1,(f,(t,(D,A))))=some (codeF (packB 1++(packB f.toNat++(packB t.toNat++codeDl D))))∧z1w.f k (1,(f,(t,(D,A))))=some (codeF (packB 1++(packB f.toNat++(packB t.toNat++codeDl D)))):=by
 have h0:packI 1=some (packB 1):=pI 1 (by decide)
 obtain ⟨p1,p2,p3⟩:=mheads k hk hk2 f t hf ht 1 (by decide)
 obtain ⟨e,_⟩:=dlcode_is k sh hr (by omega) hk2
 have hl:=codeDl_800k sh hr (by omega) hk2
 have ea:app (app (app (packB 1) (packB f.toNat)) (packB t.toNat)) (codeDl D)=packB 1++(packB f.toNat++(packB t.toNat++codeDl D)):=by unfold app;simp only [List.append_assoc]
 have r1:roomS (packB 1) (packB f.toNat)=true:=roomS_ok (by omega) (by omega)
 have r2:roomS (app (packB 1) (packB f.toNat)) (packB t.toNat)=true:=roomS_ok (by unfold app;rw [List.length_append];omega) (by omega)
 have r3:roomS (app (app (packB 1) (packB f.toNat)) (packB t.toNat)) (codeDl D)=true:=roomS_ok (by unfold app;simp only [List.length_append];omega) (by omega)
 have hs:(packB 1++(packB f.toNat++(packB t.toNat++codeDl D))).length≤800000:=by simp only [List.length_append];omega
 constructor
 ·rw [z0D.f_eq]
  simp only [h0,packI_is (n:=f) (by omega),packI_is (n:=t) (by omega),bnd_some,r1,r2,br_true,show ieq (1:Int) 1=true from rfl,e,r3,ea,frame_of k _ hs hk hk2]
 ·rw [z1w.f_eq]
  simp only [h0,packI_is (n:=f) (by omega),packI_is (n:=t) (by omega),bnd_some,r1,r2,br_true,show ieq (1:Int) 1=true from rfl,rdlcode_is k sh hr (by omega) hk2,r3,ea,rframe_of k _ hs hk hk2]
theorem mcode_2 (D:Dlt) (A:Know) (ca:CanK A) (la:LenK 100 A):z0D.f k (2,(f,(t,(D,A))))=some (codeF (packB 2++(packB f.toNat++(packB t.toNat++codeK A))))∧z1w.f k (2,(f,(t,(D,A))))=some (codeF (packB 2++(packB f.toNat++(packB t.toNat++codeK A)))):=by
 have h0:packI 2=some (packB 2):=pI 2 (by decide)
 obtain ⟨p1,p2,p3⟩:=mheads k hk hk2 f t hf ht 2 (by decide)
 have hl:=codeK_le ca la
 have ea:app (app (app (packB 2) (packB f.toNat)) (packB t.toNat)) (codeK A)=packB 2++(packB f.toNat++(packB t.toNat++codeK A)):=by unfold app;simp only [List.append_assoc]
 have r1:roomS (packB 2) (packB f.toNat)=true:=roomS_ok (by omega) (by omega)
 have r2:roomS (app (packB 2) (packB f.toNat)) (packB t.toNat)=true:=roomS_ok (by unfold app;rw [List.length_append];omega) (by omega)
 have r3:roomS (app (app (packB 2) (packB f.toNat)) (packB t.toNat)) (codeK A)=true:=roomS_ok (by unfold app;simp only [List.length_append];omega) (by omega)
 have hs:(packB 2++(packB f.toNat++(packB t.toNat++codeK A))).length≤800000:=by simp only [List.length_append];omega
 constructor
 ·rw [z0D.f_eq]
  simp only [h0,packI_is (n:=f) (by omega),packI_is (n:=t) (by omega),bnd_some,r1,r2,br_true,br_false,show ieq (2:Int) 1=false from rfl,kcode_is k ca la (by omega) hk2,r3,ea,frame_of k _ hs hk hk2]
 ·rw [z1w.f_eq]
  simp only [h0,packI_is (n:=f) (by omega),packI_is (n:=t) (by omega),bnd_some,r1,r2,br_true,br_false,show ieq (2:Int) 1=false from rfl,rkcode_is k ca la (by omega) hk2,r3,ea,rframe_of k _ hs hk hk2]
end
end Go.Proofs.YtggcagclpkhlhaaGreatDoor
end
noncomputable section
/- Messages: they are parsed as they were told; the example. -/
namespace Go.Proofs.YtggcagclpkhlhaaGreatDoor
open Pal
section
variable (k:Nat) (hk:900000≤k) (hk2:k<1000000) (f t:Int) (hf:0≤f∧f<16) (ht:0≤t∧t<16)
include hk hk2 hf ht
theorem mtext_1 (D:Dlt) (sh:ShortD D) (hr:RightDl k D):(packB 1++(packB f.toNat++(packB t.toNat++codeDl D))).length≤800000:=by
 obtain ⟨p1,p2,p3⟩:=mheads k hk hk2 f t hf ht 1 (by decide)
 have hl:=codeDl_800k sh hr (by omega) hk2
 simp only [List.length_append];omega
theorem mtext_2 (A:Know) (ca:CanK A) (la:LenK 100 A):(packB 2++(packB f.toNat++(packB t.toNat++codeK A))).length≤800000:=by
 obtain ⟨p1,p2,p3⟩:=mheads k hk hk2 f t hf ht 2 (by decide)
 have hl:=codeK_le ca la
 simp only [List.length_append];omega
theorem mparse_1 (D:Dlt) (sh:ShortD D) (hr:RightDl k D) (hR:z0x.f k (1,(f,(t,(D,noK))))=some true):z0v.f k (codeF (packB 1++(packB f.toNat++(packB t.toNat++codeDl D))))=some ((1,(f,(t,(D,noK)))),0):=by
 have hs:=mtext_1 k hk hk2 f t hf ht D sh hr
 have bt:bnot true=false:=rfl
 have e0:ieq (0:Int) 0=true:=rfl
 have e1:seq ([]:List UInt8) []=true:=rfl
 have s1:(packB f.toNat++(packB t.toNat++codeDl D)).length≤800000:=by rw [List.length_append] at hs;omega
 have s2:(packB t.toNat++codeDl D).length≤800000:=by rw [List.length_append] at s1;omega
 have s3:(codeDl D).length≤800000:=by rw [List.length_append] at s2;omega
 have b4:=back_dl k [] sh hr (by omega) hk2 (by rw [List.append_nil];omega)
 rw [List.append_nil] at b4
 rw [z0v.f_eq,cut_of k _ hs hk hk2,bnd_some]
 simp only []
 rw [e0,bt,br_false,e1,bt,br_false,z1F.f_eq,bnd_some]
 simp only []
 rw [back_int k 1 _ (by omega) (by omega) (by omega),bnd_some]
 simp only []
 rw [back_int k f.toNat _ (by omega) (by omega) (by omega),bnd_some]
 simp only []
 rw [back_int k t.toNat _ (by omega) (by omega) (by omega),bnd_some]
 simp only []
 rw [show ieq ((1:Nat):Int) 1=true from rfl,br_true,b4,bnd_some]
 simp only []
 rw [endz_is,bnd_some]
 simp only []
 rw [e0,bt,br_false,Int.toNat_of_nonneg hf.1,Int.toNat_of_nonneg ht.1]
 have hR2:=hR
 unfold noK at hR2
 rw [show ((1:Nat):Int)=1 from rfl,hR2,bnd_some,bt,br_false];rfl
end
set_option maxRecDepth 1000000 in
theorem mright_noK (k:Nat):z0x.f (k+60) (1,(0,(1,(noD,noK))))=some true:=by kernel_rfl
theorem noD_short:ShortD noD:=⟨by simp [noD],by simp [noD],by simp [noD],fun t ht=>by simp [noD] at ht⟩
theorem awake28 (k:Nat) (hk:900000≤k) (hk2:k<1000000):z0S.f k=some true:=by
 obtain ⟨q,rfl⟩:∃ q,k=q+60:=⟨k - 60,by omega⟩
 have hR:=mright_noK q
 have hr:RightDl (q+60) noD:=⟨by simp [noD],by simp [noD],CanU.nil,fun t ht=>by simp [noD] at ht,fun t ht=>by simp [noD] at ht⟩
 have r0:(0:Int)≤0∧(0:Int)<16:=by decide
 have r1:(0:Int)≤1∧(1:Int)<16:=by decide
 obtain ⟨c1,_⟩:=mcode_1 (q+60) hk hk2 0 1 r0 r1 noD noK noD_short hr
 have c2:=mparse_1 (q+60) hk hk2 0 1 r0 r1 noD noD_short hr hR
 have ec:packB 1++(packB (0:Int).toNat++(packB (1:Int).toNat++codeDl noD))=[1,0,1,0,0,0]:=by
  have z1:packB 1=[1]:=packB_lo (by omega)
  have z0:packB 0=[0]:=packB_lo (by omega)
  show packB 1++(packB 0++(packB 1++(packB 0++[]++((packB 0++[])++(packB 0++[])))))=_
  rw [z1,z0];rfl
 have c3:=rframe_of (q+60) [1,0,1,0,0,0] (by decide) hk hk2
 rw [ec] at c1 c2
 unfold noD noK at c1 c2 hR
 rw [z0S.f_eq,c1,bnd_some,c2,bnd_some,c3,bnd_some,seq_dec,decide_eq_true rfl,br_true,show ieq (0:Int) 0=true from rfl,br_true,hR,bnd_some]
end Go.Proofs.YtggcagclpkhlhaaGreatDoor
end
noncomputable section
/- The plain law: the run of MessageFinds answers true for every message, place and byte. -/
namespace Go.Proofs.YtggcagclpkhlhaaGreatDoor
open Pal
theorem rat_is (k n:Nat) (t:List UInt8) (hk:12<k) (hn:n<72057594037927936) (hS:(packB n++t).length<4000000) :
  z0j.f k (packB n++t,(0,0))=some ((n:Int),(packB n++t,(((packB n).length:Int),0))):=by
 obtain ⟨v,r,x,h1,h2,h3,h4,h5,h6⟩:=int_is k (packB n++t) _ _ (open_rr _) hS hk
 have b:=back_int k n t hk hn hS
 have e:=h1.symm.trans b
 have e1:=congrArg (fun o:Option (Int × Rdr)=>(o.getD (0,([],0))).1) e
 have e2:=congrArg (fun o:Option (Int × Rdr)=>(o.getD (0,([],0))).2) e
 simp only [Option.getD_some] at e1 e2
 subst e1;subst e2
 obtain ⟨S,a,z⟩:=x
 obtain ⟨hs,hlo,hhi,hbad,hrest⟩:=h3
 simp only at hs hlo hhi hbad hrest
 subst hs;subst hbad
 have hl:=congrArg List.length (hrest rfl)
 rw [List.length_drop,List.length_append] at hl
 rw [List.length_append] at hhi
 have ha:a=((packB n).length:Int):=by omega
 subst ha
 exact h2
theorem mbad (k:Nat) (hk:900000≤k) (hk2:k<1000000) (s:List UInt8) (hs:s.length≤800000) (p x:Int) (hp1:((packB s.length).length:Int)≤p) (hp2:p<((codeF s).length:Int)) (hx:0<x∧x<256) :
  ∃ y,z0v.f k (changedB (codeF s) p x)=some (y,5):=by
 obtain ⟨j,rfl⟩:∃ j:Nat,p=(((packB s.length).length+j:Nat):Int):=⟨p.toNat - (packB s.length).length,by omega⟩
 rw [codeF_ap] at hp2 ⊢
 have hl:(s++Crc.sumB (Crc.sumN (packB s.length++s))).length=s.length+4:=by rw [List.length_append,sumB_len]
 rw [List.length_append,hl] at hp2
 have hj:j<s.length+4:=by omega
 generalize hR:s++Crc.sumB (Crc.sumN (packB s.length++s))=R at hl
 have hjR:j<R.length:=by omega
 have hg:(packB s.length++R).getD ((packB s.length).length+j) 0=R[j]:=by
  rw [List.getD_eq_getElem?_getD,List.getElem?_append_right (by omega),Nat.add_sub_cancel_left,List.getElem?_eq_getElem hjR];rfl
 have hc:changedB (packB s.length++R) (((packB s.length).length+j:Nat):Int) x=packB s.length++R.set j (R[j] ^^^ UInt8.ofNat x.toNat):=by
  unfold changedB
  rw [if_pos (by omega),Int.toNat_natCast,hg,List.set_append_right _ _ (by omega),Nat.add_sub_cancel_left]
 have hne:R[j] ^^^ UInt8.ofNat x.toNat ≠ R[j]:=by
  intro h
  have h2:UInt8.ofNat x.toNat=0:=by
   have h3:=congrArg (fun z=>R[j] ^^^ z) h
   simp only [UInt8.xor_self] at h3
   rw [← UInt8.xor_assoc,UInt8.xor_self,UInt8.zero_xor] at h3
   exact h3
  have h4:=congrArg UInt8.toNat h2
  rw [UInt8.toNat_ofNat'] at h4
  have:(0:UInt8).toNat=0:=rfl
  omega
 have cb:=cut_bad k s j (R[j] ^^^ UInt8.ofNat x.toNat) hj hs hk hk2 (by subst hR;exact fun _=>hne)
 rw [hR] at cb
 rw [hc,z0v.f_eq,cb,bnd_some]
 exact ⟨_,rfl⟩
theorem mfinds (k : Nat) (hk : 900000 ≤ k) (hk2 : k < 1000000) (s : List UInt8) (hs : s.length ≤ 800000) (p x : Int) (hx : 0 ≤ x ∧ x < 256) (h0 : ¬ x = 0) (aw : z0S.f k = some true) :
    (bnd (z0j.f k (codeF s, (0, 0))) fun r6 =>
        br (ilt p r6.2.2.1)
          (bnd (z0S.f k) fun r7 =>
          some r7)
          (br (ile (ilen (codeF s)) p)
            (bnd (z0S.f k) fun r8 =>
            some r8)
            (bnd (changedI (codeF s, (p, x))) fun r9 =>
            bnd (z0v.f k r9) fun r10 =>
            br (ieq r10.2 5)
              (bnd (z0S.f k) fun r11 =>
              some r11)
              (some false)))) = some true := by
  have hp := packB_le (n := s.length) (by omega)
  have hl : (codeF s).length = (packB s.length).length + (s.length + 4) := by rw [codeF_ap, List.length_append, List.length_append, sumB_len]
  have hr : z0j.f k (codeF s, (0, 0)) = some ((s.length : Int), (codeF s, (((packB s.length).length : Int), 0))) := by
    have := rat_is k s.length (s ++ Crc.sumB (Crc.sumN (packB s.length ++ s))) (by omega) (by omega) (by rw [← codeF_ap]; omega)
    rw [← codeF_ap] at this; exact this
  rw [hr, bnd_some]
  simp only []
  rw [aw, bnd_some, show ilt p ((packB s.length).length : Int) = decide (p < ((packB s.length).length : Int)) from rfl]
  by_cases h1 : p < ((packB s.length).length : Int)
  · rw [decide_eq_true h1, br_true]
  rw [decide_eq_false h1, br_false, show ile (ilen (codeF s)) p = decide (((codeF s).length : Int) ≤ p) from rfl]
  by_cases h2 : ((codeF s).length : Int) ≤ p
  · rw [decide_eq_true h2, br_true]
  obtain ⟨y, hy⟩ := mbad k hk hk2 s hs p x (by omega) (by omega) (by omega)
  rw [decide_eq_false h2, br_false, changedI_is (by omega) hx, bnd_some, hy, bnd_some]
  simp only []
  rw [show ieq (5 : Int) 5 = true from rfl, br_true]
theorem messageFinds_at (k:Nat) (hk:900000≤k) (hk2:k<1000000) (m:Ty.D tMessage) (fm:Fits tMessage m) (p:Int) (x:Int) (hx:0≤x∧x<256):z0b.f k m p x=some true:=by
 have aw:=awake28 k hk hk2
 have bt:bnot true=false:=rfl
 have bf:bnot false=true:=rfl
 obtain ⟨c0,g0,i0⟩:=mshort_is k m fm (by omega) hk2
 rw [z0b.f_eq,g0,bnd_some]
 cases c0 with
 | false=>rw [aw,bf];rfl
 | true =>
 have sh:=i0 rfl
 obtain ⟨b,q1,q2,inv⟩:=mright_is k m sh (by omega) hk2
 rw [bt,br_false,q2,bnd_some]
 cases b with
 | false=>rw [aw,bf];rfl
 | true =>
 obtain ⟨hf,ht,hc⟩:=inv rfl
 rw [bt,br_false,show ieq x 0=decide (x=0) from ieq_dec x 0]
 by_cases hx0:x=0
 ·rw [aw,decide_eq_true hx0,br_true,bnd_some]
 rw [decide_eq_false hx0,br_false]
 obtain ⟨sd,sk,v1,v2⟩:=sh
 clear g0 i0 fm q2 q1 inv
 obtain ⟨K,f,t,D,A⟩:=m
 simp only at hf ht hc sd sk
 rcases hc with ⟨rfl,hr⟩ | ⟨rfl,hr⟩
 ·obtain ⟨p1,p2⟩:=mcode_1 k hk hk2 f t hf ht D A sd hr
  rw [p1,bnd_some]
  exact mfinds k hk hk2 _ (mtext_1 k hk hk2 f t hf ht D sd hr) p x hx hx0 aw
 ·obtain ⟨p1,p2⟩:=mcode_2 k hk hk2 f t hf ht D A hr sk
  rw [p1,bnd_some]
  exact mfinds k hk hk2 _ (mtext_2 k hk hk2 f t hf ht A hr sk) p x hx hx0 aw
theorem u8_rngM {a:Int} (h:Fits (.int .u8) a):0≤a∧a<256:=by
 have h:(decide (IntKind.min .u8≤a) && decide (a≤IntKind.max .u8))=true:=h
 rw [Bool.and_eq_true,decide_eq_true_eq,decide_eq_true_eq] at h
 have h1:IntKind.min .u8=0:=rfl
 have h2:IntKind.max .u8=255:=rfl
 omega
theorem messageFinds_true (m:Ty.D tMessage) (fm:Fits tMessage m) (p:Ty.D (.int .i64)) (_:Fits (.int .i64) p) (x:Ty.D (.int .u8)) (fx:Fits (.int .u8) x):∃ k,z0b.f k m p x=some true:=⟨900000,messageFinds_at 900000 (by decide) (by decide) m fm p x (u8_rngM fx)⟩
end Go.Proofs.YtggcagclpkhlhaaGreatDoor
end
noncomputable section
/- The pinned tables of unicode/utf8, out of what a tied row lists. -/
namespace Go.Proofs.YtggcagclpkhlhaaGreatDoor
open Go Go.Proofs Go.Lib
open Pal
theorem tabs_reads {W : World} (h3 : VarReads Tryz.prog W "unicode/utf8.first" firstData) (h4 : VarReads Tryz.prog W "unicode/utf8.acceptRanges" acceptData) : MonoC.tab (img W) := by
 have h:=utf8Tabs_of_readsT (U8Types.of260 { laysU8 with }) u8Extra h3 h4
 exact ⟨h.1,h.2⟩
end Go.Proofs.YtggcagclpkhlhaaGreatDoor
end
