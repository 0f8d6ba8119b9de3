/- The functions that the statement reaches, and what they come to. Part 6. -/
import Derived.KernelRfl
import Derived.PinnedBridge
import Derived.Lib.LaidU8T
import Derived.MakeChecks
import Derived.Test.YtfhcammihohmjaaGreatDoorFw1
import Derived.Test.YtfhcammihohmjaaGreatDoorFw2
import Derived.Test.YtfhcammihohmjaaGreatDoorFw3
import Derived.Test.YtfhcammihohmjaaGreatDoorJournalSnaps1
import Derived.Test.YtfhcammihohmjaaGreatDoorJournalSnaps2
import Derived.Test.YtfhcammihohmjaaGreatDoorJournalSnaps3
import Derived.Test.YtfhcammihohmjaaGreatDoorJournalSnaps4
import Derived.Test.YtfhcammihohmjaaGreatDoorJournalSnaps5
set_option linter.unusedVariables false
set_option linter.unusedSimpArgs false
set_option linter.unusedSectionVars false
noncomputable section
/- How long the bytes of short deltas are: less than a frame may hold. -/
namespace Go.Proofs.YtfhcammihohmjaaGreatDoor
open Pal
theorem uU {n:Nat} (h:n<128):(al n).length≤1:=fE 0 n (by show n<128;exact h)
theorem GX {n:Nat} (h:n<16384):(al n).length≤2:=fE 1 n (by show n<16384;exact h)
theorem Hc {n:Nat} (h:n<2097152):(al n).length≤3:=fE 2 n (by show n<2097152;exact h)
theorem GY {n:Nat} (h:n<34359738368):(al n).length≤5:=fE 4 n (by show n<34359738368;exact h)
theorem H5 {n:Nat} (h:n<4398046511104):(al n).length≤6:=fE 5 n (by show n<4398046511104;exact h)
theorem oJ {d:bu} (h:aK d=true):(cj d).length≤4:=by
 obtain ⟨h1,h2,h3,h4⟩:=jC h
 have:=uU (n:=d.1.toNat) (by omega)
 have:=Hc (n:=d.2.toNat) (by omega)
 unfold cj;rw [List.length_append];omega
theorem DD {u:bq} (h:aK u.1=true∧0≤u.2∧u.2≤64):(cO u).length≤5:=by
 have:=oJ h.1
 have:=uU (n:=u.2.toNat) (by omega)
 unfold cO;rw [List.length_append];omega
theorem AG {s:iG} (h:List.length s≤120):(df s).length≤121:=by
 have:=uU (n:=List.length s) (by omega)
 unfold df;rw [List.length_append];omega
theorem AI {p:List iG} (h:ks p) (h8:p.length≤8):(cP p).length≤969:=by
 have:=uU (n:=p.length) (by omega)
 have:=dp df 121 p (fun s hs=>AG (h.2 s hs))
 unfold cP;rw [List.length_append];omega
theorem oc {v:xX} (hv:ValOK v) (hl:v.2.2.length≤200):(bG v).length≤203:=by
 have h1:=hv.kind
 have p1:=uU (n:=v.1.toNat) (by omega)
 unfold bG;rw [List.length_append]
 split
 ·have:=GX (n:=List.length v.2.2) (by omega)
  unfold df;rw [List.length_append];omega
 ·rename_i h2
  obtain ⟨_,a,b⟩:=hv.num h2
  have:=GY (n:=dQ v.2.1) (by unfold dQ;split <;> omega)
  omega
theorem ma {l:List bq} (h:∀ u ∈ l,aK u.1=true∧0≤u.2∧u.2≤64) {n:Nat} (hl:l.length≤n) (hn:n<16384):(cA l).length≤2+5 * n:=by
 have:=GX (n:=l.length) (by omega)
 have:=dp cO 5 l (fun u hu=>DD (h u hu))
 unfold cA;rw [List.length_append];omega
theorem xY {k:Nat} {o:Op} (h:o=iM∨OkO k o) (hs:ShortO o):(cQ o).length≤2460:=by
 unfold cQ
 rcases h with rfl | h
 ·rw [if_pos (by rfl)];have:=uU (n:=0) (by omega);omega
 ·have hp:=AI hs.path (ww k _ h.path)
  have hk:=uU (n:=o.1.toNat) (by have:=h.kind;omega)
  have ht:=ma (l:=o.2.2.2.2) (fun u hu=>by obtain ⟨a,b,c⟩:=h.seen.2 u hu;exact ⟨a,b,by omega⟩) h.seen.1 (by decide)
  have hv:=hs.val
  rw [if_neg (by have:=h.kind;omega),List.length_append,List.length_append]
  have:(pj o).length≤1485:=by
   unfold pj
   obtain ⟨a,b⟩:=h.amt3
   have:=GY (n:=dQ o.2.2.2.1) (by unfold dQ;split <;> omega)
   by_cases c3:o.1=3
   ·rw [if_pos c3];omega
   rw [if_neg c3]
   by_cases c2:o.1=2
   ·have:=oc (kh k _ (h.valr (.inr (.inl c2)))) hv
    rw [if_pos c2];omega
   rw [if_neg c2]
   by_cases c5:o.1=5
   ·rw [if_pos c5];omega
   rw [if_neg c5,List.length_append]
   have:=oc (kh k _ (h.valr (by have:=h.kind;omega))) hv
   omega
  omega
theorem lN {k:Nat} {t:cG} (h:OkT k t) (hs:ShortT t):(bZ t).length≤39400:=by
 have h1:=oJ h.dot
 have hu:=h.user;have ht:=h.time;have ho:=h.ops
 have h2:=uU (n:=t.2.1.toNat) (by omega)
 have h3:=H5 (n:=t.2.2.1.toNat) (by omega)
 have h4:=uU (n:=eN t.2.2.2.1) (by unfold eN;split <;> omega)
 have h5:=uU (n:=t.2.2.2.2.length) (by omega)
 have:=dp cQ 2460 t.2.2.2.2 (fun o ho=>xY (h.each o ho) (hs.ops o ho))
 unfold bZ;simp only [List.length_append];omega
theorem vV {k:Nat} {d:nx} (sh:ShortD d) (hr:RightDl k d) (hk:5000<k) (hk2:k<1000000):(ft d).length≤790000:=by
 have ho:=hr.ok sh.each (by omega) hk2
 have a1:=sh.tx;have a2:=sh.un;have a3:=sh.se
 have p1:=uU (n:=d.1.length) (by omega)
 have p3:=uU (n:=d.2.2.length) (by omega)
 have l1:=dp bZ 39400 d.1 (fun t ht=>lN (ho t ht) (sh.each t ht))
 have l2:=ma (l:=d.2.1) (fun u hu=>by obtain ⟨a,b,c⟩:=(cD u).1 (hr.un.rt u hu);exact ⟨a,by omega,by omega⟩) a2 (by decide)
 have l3:=dp cj 4 d.2.2 (fun x hx=>oJ (hr.se x hx))
 unfold ft gr dD;simp only [List.length_append];omega
end Go.Proofs.YtfhcammihohmjaaGreatDoor
end
noncomputable section
/- The document's bytes of states and records are the program's. -/
namespace Go.Proofs.YtfhcammihohmjaaGreatDoor
open Pal
section
variable (k:Nat) (hk:5000<k) (hk2:k<1000000)
include hk hk2
end
end Go.Proofs.YtfhcammihohmjaaGreatDoor
end
noncomputable section
/- States with more of each: the document's functions. -/
namespace Go.Proofs.YtfhcammihohmjaaGreatDoor
open Pal
theorem wu (k:Nat) (l:List cG) (d:bu) (hl:l.length<1000000):∀ (n i:Nat),i≤l.length→l.length<n+i→∃ r:Int,z1G.l2 k n l (i:Int) d=some r∧(0≤r ↔ (bQ (l.drop i) d).isSome=true)
 | 0,i,h,h'=>by omega
 | n+1,i,h,h'=>by
  rw [z1G.l2_eq,aO]
  by_cases hi:i<l.length
  ·have e3:aH .i64 (i:Int) 1=((i+1:Nat):Int):=aB (by omega)
   rw [decide_eq_true hi,ac,aQ,decide_eq_true hi,ac,au,aT (e:=aJ) hi,e3,yc,List.drop_eq_getElem_cons hi,bQ]
   by_cases h1:l[i].1=d
   ·rw [decide_eq_true h1,ac,if_pos h1]
    exact ⟨_,rfl,⟨fun _=>rfl,fun _=>by omega⟩⟩
   ·rw [decide_eq_false h1,aa,if_neg h1]
    exact wu k l d hl n (i+1) (by omega) (by omega)
  ·rw [decide_eq_false hi,aa,List.drop_eq_nil_of_le (by omega)]
   exact ⟨-1,rfl,⟨fun h=>by omega,fun h=>by cases h⟩⟩
theorem sC (k:Nat) (l:List cG) (d:bu) (hl:l.length<k) (hk:k<1000000):∃ r:Int,z1G.f k l d=some r∧(0≤r ↔ (bQ l d).isSome=true):=by
 rw [z1G.f_eq]
 exact wu k l d (by omega) k 0 (by omega) (by omega)
def ye (t:cG):List cG→List cG
 | []=>[t]
 | x::r=>if aP t.1 x.1 then t::x::r else x::ye t r
theorem zi (t:cG):∀ l:List cG,(∀ x ∈ l,x.1 ≠ t.1)→ye t l=iW t l
 | [],_=>rfl
 | x::r,h=>by
  have ih:=zi t r fun y hy=>h y (List.mem_cons_of_mem _ hy)
  rw [ye,iW,ih]
  cases h1:aP t.1 x.1 with
  | true=>rw [gl h1];rfl
  | false =>
   cases h2:aP x.1 t.1 with
   | true=>rfl
   | false=>exact absurd (dM _ _ h2 h1) (h x (by simp))
theorem oT (k : Nat) (l : List cG) (t : cG) (hl : l.length < 1000000) : ∀ (n i : Nat) (x : List cG) (b : Bool), i ≤ l.length → l.length < n + i → x.length ≤ i + b.toNat →
    z2A.l6 k n l x b (i:Int) t=some (x++if b then l.drop i else ye t (l.drop i))
  | 0,i,_,_,h,h',_=>by omega
  | n + 1, i, x, b, h, h', hx => by
    rw [z2A.l6_eq,aO,aQ,au]
    by_cases hi:i<l.length
    · rw [List.drop_eq_getElem_cons hi,aT (e:=aJ) hi,aB (by omega),iQ]
      have hbn:b.toNat≤1:=by cases b <;> decide
      have hrm:∀ y:cG,bm x (y::[])=true:=fun y=>fX (by omega)
      have hrm2:∀ y z:cG,bm (app x (y::[])) (z::[])=true:=fun y z=>fX (by simp [app];omega)
      simp only [hi,decide_true,ac,ae,iP,hrm,hrm2]
      cases b with
      | true =>
        have hb:ai true=false:=rfl
        rw [hb]
        simp only [aa]
        rw [oT k l t hl n (i+1) _ true (by omega) (by omega) (by simp [app] at hx ⊢;omega)]
        simp [app]
      | false =>
        have hb:ai false=true:=rfl
        rw [hb]
        simp only [ac,Bool.false_eq_true,if_false]
        unfold ye
        cases hc:aP t.1 l[i].1 with
        | true =>
          simp only [ac,if_true]
          rw [oT k l t hl n (i+1) _ true (by omega) (by omega) (by simp [app] at hx ⊢;omega)]
          simp [app]
        | false =>
          simp only [aa,Bool.false_eq_true,if_false]
          rw [oT k l t hl n (i+1) _ false (by omega) (by omega) (by simp [app] at hx ⊢;omega)]
          simp [app]
    · rw [List.drop_of_length_le (by omega)]
      simp only [hi,decide_false,aa]
      cases b with
      | true => have hb : ai true = false := rfl
                rw [hb];simp [aa]
      | false => have hb : ai false = true := rfl
                 have hx':x.length≤i:=hx
                 rw [hb,fX (by omega)];simp [ac,ye,app]
theorem Br (k:Nat) (l:List cG) (t:cG) (hl:l.length<k) (hk:k<1000000):z2A.f k l t=some (if (bQ l t.1).isSome then l else iW t l):=by
 obtain ⟨r,h1,h2⟩:=sC k l t.1 hl hk
 rw [z2A.f_eq,h1,ae,show bM 0 r=decide (0≤r) from rfl]
 by_cases hf:(bQ l t.1).isSome=true
 ·rw [if_pos hf,decide_eq_true (h2.2 hf),ac]
 ·have hn:bQ l t.1=none:=by
   cases h:bQ l t.1 with
   | none=>rfl
   | some x=>rw [h] at hf;exact absurd rfl hf
  rw [if_neg hf,decide_eq_false (fun h=>hf (h2.1 h)),aa]
  have h:=oT k l t (by omega) k 0 [] false (by omega) (by omega) (by simp)
  rw [show ((0:Nat):Int)=0 from rfl] at h
  rw [h,List.drop_zero]
  show some (ye t l)=_
  rw [zi t l (jJ.1 hn)]
theorem w5 (k:Nat) (s:de) (t:cG) {n:Nat} (ls:LenS n s) (hl:n+1<k) (hk:k<1000000) (hs:CanS s):z2H.f k s t=some (eU s t):=by
 have l1:=ls.tx;have l2:=ls.kn
 obtain ⟨r,h1,h2⟩:=sC k s.1 t.1 (by omega) hk
 rw [z2H.f_eq,h1,ae,show bM 0 r=decide (0≤r) from rfl]
 unfold eU
 by_cases hf:(bQ s.1 t.1).isSome=true
 ·rw [if_pos hf,decide_eq_true (h2.2 hf),ac]
 ·rw [if_neg hf,decide_eq_false (fun h=>hf (h2.1 h)),aa,Br k s.1 t (by omega) hk,if_neg hf,ae,tT k s.2.2.1 t.1 (by omega) hk hs.kn,ae]
theorem qR (k:Nat) (s:de) (u:List (bu × Int)) {n m:Nat} (ls:LenS n s) (hm:u.length≤m) (hl:n+m<k) (hk:k<1000000) (hs:CanS s) (hu:CanU u):z1l.f k s u=some (fB s u):=by
 have l1:=ls.un
 rw [z1l.f_eq,A8 k s.2.1 u hs.un (by omega) hk,ae,Cm hs.un hu];rfl
theorem wt (k:Nat) (l:List bu) (hlb:l.length<1000000) (hk:k<1000000) (z1:List cG) (z2:List bq) (z3:iH) (z4:List bu) (z5:iH) (z6:List bu) (z7:List (List bu)):∀ (n i:Nat) (s:de),Can s.2.2.2.1→i≤l.length→l.length<n+i→s.2.2.2.1.2.length+(l.length - i)+1<k →
  z26.l2 k n l (i:Int) s z1 z2 z3 z4 z5 z6 z7=some (s.1,(s.2.1,(s.2.2.1,((l.drop i).foldl ee s.2.2.2.1,s.2.2.2.2))))
 | 0,i,s,_,h,h',_=>by omega
 | n+1,i,s,hc,h,h',hb=>by
  rw [z26.l2_eq,aO]
  by_cases hi:i<l.length
  ·have e3:aH .i64 (i:Int) 1=((i+1:Nat):Int):=aB (by omega)
   obtain ⟨c1,_,c3⟩:=kM hc l[i]
   rw [decide_eq_true hi,ac,aQ,decide_eq_true hi,ac,au,aT (e:=ah) hi,e3,tT k _ _ (by omega) hk hc,ae,List.drop_eq_getElem_cons hi,List.foldl_cons]
   exact wt k l hlb hk z1 z2 z3 z4 z5 z6 z7 n (i+1) (s.1,(s.2.1,(s.2.2.1,(ee s.2.2.2.1 l[i],s.2.2.2.2)))) c1 (by omega) (by omega) (by show (ee s.2.2.2.1 l[i]).2.length+_+1<k;omega)
  ·rw [decide_eq_false hi,aa,List.drop_eq_nil_of_le (by omega)];rfl
theorem AD (k:Nat) (s:de) (l:List bu) {n m:Nat} (ls:LenS n s) (hm:l.length≤m) (hl:n+m+1<k) (hk:k<1000000) (hs:CanS s):z26.f k s l=some (pe s l):=by
 have l1:=ls.se
 rw [z26.f_eq]
 have h:=wt k l (by omega) hk [] [] (aV 16 0) [] (aV 16 0) [] (aV 8 []) k 0 s hs.se (by omega) (by omega) (by omega)
 rw [show ((0:Nat):Int)=0 from rfl,List.drop_zero,xr hs.se] at h
 exact h
end Go.Proofs.YtfhcammihohmjaaGreatDoor
end
noncomputable section
/- The state behind a record: the program's is the document's, and may be. -/
namespace Go.Proofs.YtfhcammihohmjaaGreatDoor
open Pal
def wY (s:de) (u:Int) (l:List bu):de:=(s.1,(s.2.1,(s.2.2.1,(s.2.2.2.1,ja s.2.2.2.2 (aj u) l))))
theorem Cg {s:de} {u:Int} {l:List bu} (h:s.2.2.2.2.length=8):(wY s u l).2.2.2.2.length=8:=by
 show (ja s.2.2.2.2 (aj u) l).length=8
 simp [ja,h]
theorem vK {s:de} {u:Int} {l:List bu} {n:Nat} (ls:LenS n s) (hl:l.length≤n):LenS n (wY s u l):=⟨ls.tx,ls.un,ls.kn,ls.se,EB ls.re hl⟩
theorem qw {k:Nat} {s:de} {u:Int} {l:List bu} (h:RightS k s) (hl:l.length≤1000∧∀ d ∈ l,aK d=true):RightS k (wY s u l) :=
 ⟨h.many,h.ris,h.un,h.se,h.chk,fun l' hl'=>by
  rcases List.mem_or_eq_of_mem_set hl' with h1 | rfl
  ·exact h.redo _ h1
  ·exact hl,h.kn,h.know⟩
def gG (l:List bu) (d:bu):Nat→Int
 | 0=>-1
 | j+1=>if l[j]? = some d then (j:Int) else gG l d j
theorem uK (l:List bu) (d:bu):∀ j,-1≤gG l d j∧gG l d j<(j:Int)
 | 0=>⟨Int.le_refl _,by show (-1:Int)<((0:Nat):Int);omega⟩
 | j+1=>by
  have:=uK l d j
  unfold gG
  split <;> omega
def pJ (l:List bu) (d:bu) (j:Nat):List bu:=if 0≤gG l d j then l.take (gG l d j).toNat else l
def mK (l:List bu) (d:bu) (b:Int):List bu:=if b=1 then l++[d] else if b=2 then pJ l d l.length else l
theorem yK (k:Nat) (l:List bu) (x:jQ) (hl:l.length<1000000):∀ (n i:Nat),i≤l.length→i<n→z1z.l6 k n l ((i:Int) - 1) x=some (pJ l x.2.2.2.1.1 i)
 | 0,i,_,h=>by omega
 | n+1,0,_,_=>by
  rw [z1z.l6_eq,show bM 0 (((0:Nat):Int) - 1)=false from rfl,aa];rfl
 | n+1,i+1,h,h'=>by
  have e0:((i+1:Nat):Int) - 1=(i:Int):=by omega
  have hi:i<l.length:=by omega
  have e1:bw .i64 (i:Int) 1=(i:Int) - 1:=dx (by omega) (by omega) (by omega) (by omega)
  rw [z1z.l6_eq,e0,show bM 0 (i:Int)=true from decide_eq_true (by omega),ac,aQ,au,decide_eq_true hi,ac,aT (e:=ah) hi,y0,e1]
  by_cases he:l[i]=x.2.2.2.1.1
  ·have hg:l[i]? = some x.2.2.2.1.1:=by rw [List.getElem?_eq_getElem hi,he]
   have hc:pJ l x.2.2.2.1.1 (i+1)=l.take i:=by unfold pJ gG;rw [if_pos hg,if_pos (by omega),Int.toNat_natCast]
   have hin:eE 0 (i:Int) (af l)=true:=fw (a:=0) (by omega) (by omega)
   have hp:ba l 0 (i:Int)=l.take i:=by unfold ba;simp
   rw [decide_eq_true he,ac,hin,ac,hp,hc,show bm ([]:List Int) (l.take i)=true from by simp [bm];omega,ac]
  ·have hg:¬ l[i]? = some x.2.2.2.1.1:=by rw [List.getElem?_eq_getElem hi];intro h;injection h with h;exact he h
   have hc:pJ l x.2.2.2.1.1 (i+1)=pJ l x.2.2.2.1.1 i:=by unfold pJ gG;rw [if_neg hg];cases i <;> rfl
   rw [decide_eq_false he,aa,hc]
   exact yK k l x hl n i (by omega) (by omega)
theorem zY (k:Nat) (l:List bu) (x:jQ) (hl:l.length<k) (hk:k<1000000):z1z.f k l x=some (mK l x.2.2.2.1.1 x.2.2.2.2.1):=by
 rw [z1z.f_eq,aW,aW]
 unfold mK
 by_cases h1:x.2.2.2.2.1=1
 ·rw [decide_eq_true h1,ac,if_pos h1,show bm ([]:List Int) l=true from by simp [bm];omega,ac,fX (by omega),ac];rfl
 ·rw [decide_eq_false h1,aa,if_neg h1]
  by_cases h2:x.2.2.2.2.1=2
  ·have e:bw .i64 (af l) 1=(l.length:Int) - 1:=by unfold af;exact dx (by omega) (by omega) (by omega) (by omega)
   rw [decide_eq_true h2,ac,if_pos h2,e]
   exact yK k l x (by omega) k l.length (by omega) (by omega)
  ·rw [decide_eq_false h2,aa,if_neg h2]
theorem nD (k:Nat) (y:List bu) (m:de) (x:jQ) (z1:List cG) (z2:List bq) (z3:iH) (z4:List bu) (z5:iH) (z6:List bu) (z7:List (List bu)) (hy:y.length<1000000) (hu:gh x.2.2.1 8=true):∀ (n i:Nat),i≤y.length→y.length<n+i →
  z1U.l13 k n y (gG y x.2.2.2.1.1 i) (i:Int) m x z1 z2 z3 z4 z5 z6 z7=some (wY m x.2.2.1 (if x.2.2.2.2.1=2 then pJ y x.2.2.2.1.1 y.length else y))
 | 0,i,_,h=>by omega
 | n+1,i,h,h'=>by
  rw [z1U.l13_eq,aO]
  by_cases hi:i<y.length
  ·have e4:aH .i64 (i:Int) 1=((i+1:Nat):Int):=aB (by omega)
   rw [decide_eq_true hi,ac,aQ,decide_eq_true hi,ac,au,aT (e:=ah) hi,y0,e4]
   have ih:=nD k y m x z1 z2 z3 z4 z5 z6 z7 hy hu n (i+1) (by omega) (by omega)
   by_cases he:y[i]=x.2.2.2.1.1
   ·have hg:y[i]? = some x.2.2.2.1.1:=by rw [List.getElem?_eq_getElem hi,he]
    have hc:gG y x.2.2.2.1.1 (i+1)=(i:Int):=by show (if _ then _ else _)=_;rw [if_pos hg]
    rw [hc] at ih
    rw [decide_eq_true he,ac];exact ih
   ·have hg:¬ y[i]? = some x.2.2.2.1.1:=by rw [List.getElem?_eq_getElem hi];intro h;injection h with h;exact he h
    have hc:gG y x.2.2.2.1.1 (i+1)=gG y x.2.2.2.1.1 i:=by show (if _ then _ else _)=_;rw [if_neg hg]
    rw [hc] at ih
    rw [decide_eq_false he,aa];exact ih
  ·have hie:i=y.length:=by omega
   subst hie
   obtain ⟨hb1,hb2⟩:=uK y x.2.2.2.1.1 y.length
   rw [decide_eq_false (Nat.lt_irrefl _),aa,aW,hu]
   by_cases h2:x.2.2.2.2.1=2
   ·rw [decide_eq_true h2,ac,if_pos h2,show bM 0 (gG y x.2.2.2.1.1 y.length)=decide (0≤gG y x.2.2.2.1.1 y.length) from rfl]
    unfold pJ
    by_cases h0:0≤gG y x.2.2.2.1.1 y.length
    ·obtain ⟨q,hq⟩:∃ q:Nat,gG y x.2.2.2.1.1 y.length=(q:Int):=⟨(gG y x.2.2.2.1.1 y.length).toNat,by omega⟩
     have hin:eE 0 (q:Int) (af y)=true:=fw (a:=0) (by omega) (by omega)
     have hp:ba y 0 (q:Int)=y.take q:=by unfold ba;simp
     rw [decide_eq_true h0,ac,if_pos h0,hq,hin,ac,ac,hp,Int.toNat_natCast];rfl
    ·rw [decide_eq_false h0,aa,ac,if_neg h0];rfl
   ·rw [decide_eq_false h2,aa,ac,if_neg h2];rfl
theorem AJ (l:List bu) (d:bu) (b:Int):(mK l d b).length≤l.length+1:=by
 unfold mK pJ
 split
 ·simp
 ·split
  ·split
   ·rw [List.length_take];omega
   ·omega
  ·omega
theorem BN {l:List bu} {d:bu} {b:Int} (hl:∀ x ∈ l,aK x=true) (hd:aK d=true):∀ x ∈ mK l d b,aK x=true:=by
 unfold mK pJ
 split
 ·intro x hx
  simp only [List.mem_append,List.mem_singleton] at hx
  rcases hx with hx | rfl
  ·exact hl x hx
  ·exact hd
 ·split
  ·split
   ·exact fun x hx=>hl x (List.mem_of_mem_take hx)
   ·exact hl
  ·exact hl
theorem xD (k:Nat) (s:de) (d:nx) {n m:Nat} (hs:CanS s) (hd:CanDl d) (ls:LenS n s) (ld:LenD m d) (hnm:n+m+m+m+1<k) (hk:k<1000000):z13.f k s d=some (tf s d):=by
 have ld1:=ld.tx;have ld2:=ld.un;have ld3:=ld.se
 rw [z13.f_eq]
 have key:∀ n' i (x:de),i≤d.1.length→d.1.length<n'+i→CanS x→LenS (n+i) x→z13.l2 k n' (i:Int) x d [] [] (aV 16 0) [] (aV 16 0) [] (aV 8 [])=some (pe (fB ((d.1.drop i).foldl eU x) d.2.1) d.2.2):=by
  intro n'
  induction n' with
  | zero=>intro i x h h';omega
  | succ n' ih =>
   intro i x h h' hx hxl
   rw [z13.l2_eq,aO,aQ,au]
   by_cases hi:i<d.1.length
   ·have hrt:=hd.tx.rt _ (List.getElem_mem hi)
    have e3:aH .i64 (i:Int) 1=((i+1:Nat):Int):=aB (by omega)
    rw [aT (e:=aJ) hi,w5 k x _ hxl (by omega) hk hx,e3,List.drop_eq_getElem_cons hi]
    simp only [hi,decide_true,ac,ae,List.foldl_cons]
    exact ih (i+1) _ (by omega) (by omega) (gN hx hrt).1 (qy hx hxl hrt)
   ·rw [List.drop_of_length_le (by omega)]
    simp only [hi,decide_false,aa,List.foldl_nil]
    rw [qR k x d.2.1 (m:=m) hxl (by omega) (by omega) hk hx hd.un]
    simp only [ae]
    rw [AD k _ d.2.2 (n:=n+i+m) (m:=m) (lO hx hxl hd.un (by omega)) (by omega) (by omega) hk (jy hx hd.un)]
    rfl
 have:=key k 0 s (by omega) (by omega) hs (by simpa using ls)
 rw [show ((0:Nat):Int)=0 from rfl,List.drop_zero] at this
 exact this
theorem qj {k:Nat}:∀ (m:List cG) (s:de) (n:Nat),CanS s→LenS n s→n+m.length<1000→RightS k s→(∀ t ∈ m,aK t.1=true∧z17.f k t=some 0)→CanS (m.foldl eU s)∧LenS (n+m.length) (m.foldl eU s)∧RightS k (m.foldl eU s)∧(m.foldl eU s).2.2.2=s.2.2.2∧∀ x ∈ (m.foldl eU s).1,x ∈ s.1∨x ∈ m
 | [],s,n,hs,ls,hn,hr,_=>⟨hs,by simpa using ls,hr,rfl,fun x hx=>.inl hx⟩
 | t::m,s,n,hs,ls,hn,hr,ht=>by
  simp only [List.length_cons] at hn
  obtain ⟨h1,h2⟩:=ht t (by simp)
  obtain ⟨a1,_,_,a4,_⟩:=gN hs h1
  obtain ⟨q1,q2,q3,q4,q5⟩:=qj m (eU s t) (n+1) a1 (qy hs ls h1) (by omega) (sN hs ls (by omega) hr h1 h2) (fun x hx=>ht x (List.mem_cons_of_mem _ hx))
  refine ⟨q1,?_,q3,q4.trans a4,fun x hx=>?_⟩
  ·rw [List.length_cons,show n+(m.length+1)=n+1+m.length by omega];exact q2
  ·rcases q5 x hx with h | h
   ·rcases pn hs h1 x h with h | rfl
    ·exact .inl h
    ·exact .inr (by simp)
   ·exact .inr (List.mem_cons_of_mem _ h)
theorem vI (k:Nat) (s:de) {n:Nat} (ls:LenS n s) (h8:s.2.2.2.2.length=8) (hn:n<1000000) (hk:17<k):z1v.f k s=some s:=by
 have l1:=ls.tx;have l2:=ls.un;have l3:=ls.kn;have l4:=ls.se
 have r0 {α:Type} (l:List α) (h:l.length≤n):bm ([]:List Int) l=true:=by simp [bm];omega
 have q1:bm ([]:List Int) s.1=true:=r0 s.1 l1
 have q2:bm ([]:List Int) s.2.1=true:=r0 s.2.1 l2
 have q3:bm ([]:List Int) s.2.2.1.2=true:=r0 s.2.2.1.2 l3
 have q4:bm ([]:List Int) s.2.2.2.1.2=true:=r0 s.2.2.2.1.2 l4
 rw [z1v.f_eq,q1,ac,q2,ac,q3,ac,q4,ac]
 have key:∀ (n' i:Nat),i≤8→8<n'+i→z1v.l6 k n' s.2.2.2.2 (i:Int) s.1 s.2.1 s.2.2.1.1 s.2.2.1.2 s.2.2.2.1.1 s.2.2.2.1.2 s.2.2.2.2 [] [] (aV 16 0) [] (aV 16 0) [] (aV 8 [])=some s:=by
  intro n'
  induction n' with
  | zero=>intro i h h';omega
  | succ n' ih =>
   intro i h h'
   rw [z1v.l6_eq,show aq (i:Int) 8=decide (i<8) from bA i 8,dS,au]
   by_cases hi:i<8
   ·have hi':i<s.2.2.2.2.length:=by omega
    have e4:aH .i64 (i:Int) 1=((i+1:Nat):Int):=aB (by omega)
    have eu:ja s.2.2.2.2 i s.2.2.2.2[i]=s.2.2.2.2:=by unfold ja;exact List.set_getElem_self hi'
    rw [decide_eq_true hi,ac,ac,aT (e:=.slc ah) hi',r0 _ (ls.re _ (List.getElem_mem hi')),ac,ac,e4,eu]
    exact ih (i+1) (by omega) (by omega)
   ·rw [decide_eq_false hi,aa]
 exact key k 0 (by omega) (by omega)
end Go.Proofs.YtfhcammihohmjaaGreatDoor
end
noncomputable section
/- Chapter 23's example: it is as it is told. -/
namespace Go.Proofs.YtfhcammihohmjaaGreatDoor
open Pal
end Go.Proofs.YtfhcammihohmjaaGreatDoor
end
noncomputable section
/- The plain law: the run of RecordTells answers true for every state and record. -/
namespace Go.Proofs.YtfhcammihohmjaaGreatDoor
open Pal
theorem v6 (k:Nat) {y:de} {n:Nat} (hr:RightS k y) (ls:LenS n y) (hn:n<k) (h8:y.2.2.2.2.length=8) (hk:5000<k) (hk2:k<1000000):z1o.f k y=some true:=by
 have l1:=ls.un
 obtain ⟨b,h1,h2⟩:=gQ k y hr.kn.1.vok.len hr.se.1.vok.len h8 (fun t ht=>⟨0,hr.chk t ht,fun _=>xk k t (hr.chk t ht)⟩) (fun l hl=>by have:=ls.re l hl;omega) (by omega) hk hk2
 rw [h1,h2.2 hr]
theorem lP {u:Int} (h:0≤u∧u<8):gh u 8=true:=by
 obtain ⟨q,rfl⟩:∃ q:Nat,u=(q:Int):=⟨u.toNat,by omega⟩
 rw [dS];exact decide_eq_true (by omega)
theorem vh {u:Int} (h:0≤u∧u<8):aj u<8:=by
 obtain ⟨q,rfl⟩:∃ q:Nat,u=(q:Int):=⟨u.toNat,by omega⟩
 rw [au];omega
structure DoneOK (k:Nat) (s:de) (x:jQ) (y:de):Prop where
 p:z1p.f k s x=some y
 r:z1U.f k s x=some y
 right:RightS k y
 len:LenS 500 y
 red:y.2.2.2.2.length=8
 tx:∀ t ∈ y.1,LenT k t
section
variable (k:Nat) (hk:5000<k) (hk2:k<1000000) (s:de) (hs:CanS s) (sh:ShortS s) (hr:RightS k s) (h8:s.2.2.2.2.length=8)
include hk hk2 hs sh hr h8
theorem Fl (t:cG) (u:Int) (U:bq) (b:Int) (d:nx) (z:de) (ok:OkT k t) (st:ShortT t) (hc:z17.f k t=some 0):∃ y,DoneOK k s (1,(t,(u,(U,(b,(d,z)))))) y:=by
 have ls:=sh.len
 obtain ⟨a1,a2,a3,a4,a5,a6⟩:=gN hs ok.dot
 have la:=qy hs ls ok.dot
 refine ⟨wY (eU s t) t.2.1 [],?_,?_,qw (sN hs ls (by omega) hr ok.dot hc) ⟨by simp,fun d hd=>by simp at hd⟩,vK (la.mono (by omega)) (by simp),Cg (by rw [a4];exact h8),fun x hx=>?_⟩
 ·rw [z1p.f_eq]
  simp only [show az (1:Int) 1=true from rfl,ac]
  rw [zG k s t (n:=100) (by omega) ls (by omega) hk2 hs ok.dot,ae]
  rw [lP ok.user,ac];rfl
 ·rw [z1U.f_eq]
  simp only [show az (1:Int) 1=true from rfl,ac]
  rw [w5 k s t ls (by omega) hk2 hs,ae]
  rw [lP ok.user,ac];rfl
 ·rcases pn hs ok.dot x hx with h | rfl
  ·exact (sh.each x h).lenT (by omega)
  ·exact st.lenT (by omega)
theorem Fi (t:cG) (u:Int) (U:bq) (b:Int) (d:nx) (z:de) (hu:0≤u∧u<8) (hU:CanU (U::[])) (hb:0≤b∧b≤2):∃ y,DoneOK k s (2,(t,(u,(U,(b,(d,z)))))) y:=by
 have ls:=sh.len
 have rU:=hU.rt _ List.mem_cons_self
 obtain ⟨rD,_⟩:=(cD U).1 rU
 have lr:=lO hs ls hU (m:=1) (by simp)
 have hi:aj u<s.2.2.2.2.length:=by have:=vh hu;omega
 have hm:=List.getElem_mem hi
 have h40:=sh.redo _ hm
 have hrd:=(hr.redo _ hm).2
 have er:rd (.slc ah) (fB s (U::[])).2.2.2.2 (aj u)=s.2.2.2.2[aj u]:=aT (e:=.slc ah) hi
 have tl:=AJ s.2.2.2.2[aj u] U.1 b
 refine ⟨wY (fB s (U::[])) u (mK s.2.2.2.2[aj u] U.1 b),?_,?_,qw (og hs ls (by omega) hr hU) ⟨by omega,BN hrd rD⟩,vK (lr.mono (by omega)) (by omega),Cg h8,fun x hx=>(sh.each x hx).lenT (by omega)⟩
 ·rw [z1p.f_eq]
  simp only [show az (2:Int) 1=false from rfl,show az (2:Int) 2=true from rfl,ac,aa]
  rw [nN k s (U::[]) (n:=100) (m:=1) (by omega) ls (by simp) (by omega) hk2,ae]
  rw [lP hu,ac,er,zY k _ _ (by omega) hk2,ae];rfl
 ·rw [z1U.f_eq]
  simp only [show az (2:Int) 1=false from rfl,show az (2:Int) 2=true from rfl,ac,aa]
  rw [qR k s (U::[]) ls (m:=1) (by simp) (by omega) hk2 hs hU,ae]
  have r0:bm ([]:List Int) s.2.2.2.2[aj u]=true:=by simp [bm];omega
  have ea:app [] s.2.2.2.2[aj u]=s.2.2.2.2[aj u]:=rfl
  rw [lP hu,ac,er,r0,ac,aW,ea]
  unfold mK
  by_cases h1:b=1
  ·have e1:app s.2.2.2.2[aj u] (U.1::[])=s.2.2.2.2[aj u]++[U.1]:=rfl
   rw [decide_eq_true h1,ac,fX (by omega),ac,if_pos h1,e1]
   refine (nD k (s.2.2.2.2[aj u]++[U.1]) (fB s (U::[])) (2,(t,(u,(U,(b,(d,z)))))) [] [] (aV 16 0) [] (aV 16 0) [] (aV 8 []) (by simp;omega) (lP hu) k 0 (by omega) (by simp;omega)).trans ?_
   rw [if_neg (by show ¬ b=2;omega)]
  ·rw [decide_eq_false h1,aa,if_neg h1]
   exact nD k s.2.2.2.2[aj u] (fB s (U::[])) (2,(t,(u,(U,(b,(d,z)))))) [] [] (aV 16 0) [] (aV 16 0) [] (aV 8 []) (by omega) (lP hu) k 0 (by omega) (by omega)
theorem Fv (t:cG) (u:Int) (U:bq) (b:Int) (d:nx) (z:de) (sd:ShortD d) (rd:RightDl k d):∃ y,DoneOK k s (3,(t,(u,(U,(b,(d,z)))))) y:=by
 have ls:=sh.len
 have ld:=sd.len
 have cd:=rd.can sd.each (by omega) hk2
 have d1:=sd.tx;have d2:=sd.un;have d3:=sd.se
 obtain ⟨q1,q2,q3,q4,q5⟩:=qj d.1 s 100 hs ls (by omega) hr (fun x hx=>⟨xk k x (rd.chk x hx),rd.chk x hx⟩)
 have q2':LenS 120 (d.1.foldl eU s):=q2.mono (by omega)
 have r1:=jy q1 cd.un
 have r2:=og q1 q2' (by omega) q3 cd.un
 have r3:=lO q1 q2' cd.un (m:=100) d2
 have s1:=yj r1 r3 (by omega) r2 (l:=d.2.2) (by omega)
 have s2:=A1 r1 r3 (l:=d.2.2) (m:=100) d3
 refine ⟨tf s d,?_,?_,s1,s2.mono (by omega),by show (d.1.foldl eU s).2.2.2.2.length=8;rw [q4];exact h8,fun x hx=>?_⟩
 ·rw [z1p.f_eq]
  simp only [show az (3:Int) 1=false from rfl,show az (3:Int) 2=false from rfl,show az (3:Int) 3=true from rfl,ac,aa]
  rw [A6 k s d (n:=100) (m:=100) (by omega) hs cd ls ld (by omega) hk2,ae]
 ·rw [z1U.f_eq]
  simp only [show az (3:Int) 1=false from rfl,show az (3:Int) 2=false from rfl,show az (3:Int) 3=true from rfl,ac,aa]
  rw [xD k s d (n:=100) (m:=100) hs cd ls ld (by omega) hk2,ae]
 ·rcases q5 x hx with h | h
  ·exact (sh.each x h).lenT (by omega)
  ·exact (sd.each x h).lenT (by omega)
theorem Fu (t:cG) (u:Int) (U:bq) (b:Int) (d:nx) (z:de) (sz:ShortS z) (rz:RightS k z) (z8:z.2.2.2.2.length=8):∃ y,DoneOK k s (4,(t,(u,(U,(b,(d,z)))))) y:=by
 refine ⟨z,?_,?_,rz,sz.len.mono (by omega),z8,fun x hx=>(sz.each x hx).lenT (by omega)⟩
 ·rw [z1p.f_eq]
  simp only [show az (4:Int) 1=false from rfl,show az (4:Int) 2=false from rfl,show az (4:Int) 3=false from rfl,show az (4:Int) 4=true from rfl,ac,aa]
  rw [vI k z sz.len z8 (by omega) (by omega),ae]
 ·rw [z1U.f_eq]
  simp only [show az (4:Int) 1=false from rfl,show az (4:Int) 2=false from rfl,show az (4:Int) 3=false from rfl,show az (4:Int) 4=true from rfl,ac,aa]
end
theorem C8 (k:Nat) (hk:5000<k) (hk2:k<1000000) (s:de) (hs:CanS s) (sh:ShortS s) (hr:RightS k s) (h8:s.2.2.2.2.length=8) {x:jQ} (sx:ShortR x) (sz:SizR k 100 x) (h:z1k.f k x=some true):∃ y,DoneOK k s x y:=by
 have inv:=g8 k sz (by omega) hk hk2 h
 have s8:=sz.s8;have sz1:=sz.t
 obtain ⟨sT,sD,sS⟩:=sx
 clear h sz
 obtain ⟨K,t,u,U,b,d,z⟩:=x
 simp only at inv sT sD sS s8 sz1
 rcases inv with ⟨rfl,c⟩ | ⟨rfl,c1,c2,c3⟩ | ⟨rfl,c⟩ | ⟨rfl,c⟩
 ·exact Fl k hk hk2 s hs sh hr h8 t u U b d z (ua k sz1 (by omega) hk2 c) sT c
 ·exact Fi k hk hk2 s hs sh hr h8 t u U b d z c1 c2 c3
 ·exact Fv k hk hk2 s hs sh hr h8 t u U b d z sD c
 ·exact Fu k hk hk2 s hs sh hr h8 t u U b d z sS c s8
end Go.Proofs.YtfhcammihohmjaaGreatDoor
end
noncomputable section
/- A journal: what its calls come to. -/
namespace Go.Proofs.YtfhcammihohmjaaGreatDoor
open Pal
theorem wK {k:Nat} {s:de} (sh:ShortS s) (hr:RightS k s) (h8:s.2.2.2.2.length=8) (hk:5000<k) (hk2:k<1000000):(fA s).length≤796000:=by
 have ho:=hr.ok sh.each (by omega) hk2
 have a1:=sh.tx;have a2:=sh.un;have a3:=sh.se
 have p1:=uU (n:=s.1.length) (by omega)
 have l1:=dp bZ 39400 s.1 (fun t ht=>lN (ho t ht) (sh.each t ht))
 have l2:=ma (l:=s.2.1) (fun u hu=>by obtain ⟨a,b,c⟩:=(cD u).1 (hr.un.rt u hu);exact ⟨a,by omega,by omega⟩) a2 (by decide)
 have l3:=uD hr.se.1 a3 (by omega)
 have l4:=yL (sh.redoR hr) (by omega)
 unfold fA gr;simp only [List.length_append];omega
theorem Af (u:Int) (U:bq) (b:Int) (hu:0≤u∧u<8) (hU:CanU (U::[])) (hb:0≤b∧b≤2):(al u.toNat++(cj U.1++(al U.2.toNat++al b.toNat))).length≤20:=by
 have rU:=hU.rt _ List.mem_cons_self
 obtain ⟨rD,q1,q2⟩:=(cD U).1 rU
 have:=oJ rD
 have h1:=uU (n:=u.toNat) (by omega)
 have h2:=uU (n:=U.2.toNat) (by omega)
 have h3:=uU (n:=b.toNat) (by omega)
 simp only [List.length_append]
 omega
theorem xG (k:Nat) {x:jQ} (sh:ShortR x) (sz:SizR k 100 x) (hk:5000<k) (hk2:k<1000000) (h:z1k.f k x=some true):(fT x).length≤798000:=by
 have inv:=g8 k sz (by omega) hk hk2 h
 have s8:=sz.s8;have sz1:=sz.t
 obtain ⟨sT,sD,sS⟩:=sh
 clear h sz
 obtain ⟨K,t,u,U,b,d,z⟩:=x
 simp only at inv sT sD sS s8 sz1
 have hp:∀ n:Nat,n<100→(al n).length≤1:=fun n hn=>uU (by omega)
 unfold fT wW
 simp only
 rw [List.length_append]
 rcases inv with ⟨rfl,c⟩ | ⟨rfl,c1,c2,c3⟩ | ⟨rfl,c⟩ | ⟨rfl,c⟩
 ·have:=lN (ua k sz1 (by omega) hk2 c) sT
  have:=hp 1 (by decide)
  rw [if_pos rfl]
  show (al 1).length+_≤_
  omega
 ·have:=Af u U b c1 c2 c3
  have:=hp 2 (by decide)
  rw [if_neg (by decide),if_pos rfl]
  show (al 2).length+_≤_
  unfold xV
  simp only
  omega
 ·have:=vV sD c hk hk2
  have:=hp 3 (by decide)
  rw [if_neg (by decide),if_neg (by decide),if_pos rfl]
  show (al 3).length+_≤_
  omega
 ·have:=wK sS c s8 hk hk2
  have:=hp 4 (by decide)
  rw [if_neg (by decide),if_neg (by decide),if_neg (by decide)]
  show (al 4).length+_≤_
  omega
theorem gn (s:List UInt8) (h:s.length≤800000):(b9 s).length≤s.length+12:=by
 have:=ib s (by omega)
 unfold b9;rw [List.length_append,ik];omega
theorem sq (k:Nat) (s:de) (x:jQ):z1p.f k s (lI x)=z1p.f k s x∨x.1=2∨(x.1 ≠ 1∧x.1 ≠ 2∧x.1 ≠ 3∧x.1 ≠ 4):=by
 by_cases h1:x.1=1
 ·left
  unfold lI
  rw [if_pos h1,z1p.f_eq,z1p.f_eq]
  simp only [h1,show az (1:Int) 1=true from rfl,ac]
 ·by_cases h2:x.1=2
  ·exact .inr (.inl h2)
  ·by_cases h3:x.1=3
   ·left
    unfold lI
    rw [if_neg h1,if_neg h2,if_pos h3,z1p.f_eq,z1p.f_eq]
    simp only [h3,show az (3:Int) 1=false from rfl,show az (3:Int) 2=false from rfl,show az (3:Int) 3=true from rfl,ac,aa]
   ·by_cases h4:x.1=4
    ·left
     unfold lI
     rw [if_neg h1,if_neg h2,if_neg h3,z1p.f_eq,z1p.f_eq]
     simp only [h4,show az (4:Int) 1=false from rfl,show az (4:Int) 2=false from rfl,show az (4:Int) 3=false from rfl,show az (4:Int) 4=true from rfl,ac,aa]
    ·exact .inr (.inr ⟨h1,h2,h3,h4⟩)
section
variable (k:Nat) (K W:List UInt8) (c n:Int)
theorem js (d:List UInt8 × List UInt8 × Int):z0u.f k (some d,n)=some (false,(some d,n)):=by
 rw [z0u.f_eq];rfl
theorem jm {α:Type} (x:α):Cp (some x)=true:=rfl
theorem jl (e:Ty) (x:e.D):D4 e (some x)=x:=rfl
theorem xM (s:List UInt8) (h:K.length+W.length+s.length≤4194304):z0w.f k s (K,(W,c))=some (0,(K,(W++s,c))):=by
 rw [z0w.f_eq]
 have e1:aq (bw .i64 (bw .i64 4194304 (af K)) (af W)) (af s)=false:=by
  unfold af
  rw [dx (a:=4194304) (by omega) (by omega) (by omega) (by omega),dx (by omega) (by omega) (by omega) (by omega)]
  exact decide_eq_false (by omega)
 simp only
 rw [e1,aa,bk (by omega) (by omega),ac];rfl
theorem lf (x:jQ) (C:List UInt8) (h1:z0U.f k x=some true) (h2:z16.f k x=some C) (hC:C.length≤800000) (hl:K.length+W.length+(b9 C).length≤4194304) (hk:900000≤k) (hk2:k<1000000) :
  z0k.f k x (some (K,(W,c)),n)=some (0,(some (K,(W++b9 C,c)),aH .i64 n 1)):=by
 have e1:aq 1048576 (af C)=false:=by unfold aq af;exact decide_eq_false (by omega)
 rw [z0k.f_eq,js,ae]
 simp only []
 rw [aa,h1,ae,show ai true=false from rfl,aa,h2,ae,e1,aa,jm,ac,pi k C hC hk hk2,ae,jl,xM k K W c (b9 C) hl,ae]
 simp only []
 rw [show az (0:Int) 0=true from rfl,show ai true=false from rfl,aa]
theorem yN (h1:K.length+W.length<4200000):z0x.f k (some (K,(W,c)),n)=some ((),(some (K++W,([],aH .i64 c 1)),n)):=by
 rw [z0x.f_eq,js,ae]
 simp only []
 rw [show ai false=true from rfl,ac,jm,ac,jl,z0L.f_eq]
 simp only []
 rw [bk (by omega) (by omega),ac,ae];rfl
theorem BK:z0l.f k (some (K,(W,c)),n)=some (af W,(some (K,(W,c)),n)):=by
 rw [z0l.f_eq,js,ae]
 simp only []
 rw [aa,jm,ac,jl,z0C.f_eq,ae]
theorem lK:z0g.f k (some (K,(W,c)),n)=some (n,(some (K,(W,c)),n)):=by
 rw [z0g.f_eq,js,ae]
 simp only []
 rw [aa]
theorem wv (m:Int) (j:Nat) (hj:nI (jk m 0) (af W)=(j:Int)) (hW:j≤W.length) (h1:K.length+W.length<4200000):z0o.f k m (some (K,(W,c)),n)=some ((),(some (K++W.take j,([],c)),n)):=by
 have hin:eE 0 (j:Int) (af W)=true:=fw (a:=0) (c:=W.length) (by omega) (by omega)
 have hp:ba W 0 (j:Int)=W.take j:=by unfold ba;simp
 rw [z0o.f_eq,js,ae]
 simp only []
 rw [show ai false=true from rfl,ac,jm,ac,jl,z0E.f_eq]
 simp only []
 rw [hj,hin,ac,hp,bk (by omega) (by rw [List.length_take];omega),ac,ae];rfl
theorem sf (m:Int) (h1:K.length<4200000):z0o.f k m (some (K,([],c)),n)=some ((),(some (K,([],c)),n)):=by
 have h:=wv k K [] c n m 0 (by
  unfold nI jk af
  by_cases h:(0:Int) > m
  ·rw [if_pos h];simp
  ·rw [if_neg h]
   by_cases h2:((([]:List UInt8).length:Nat):Int)<m
   ·rw [if_pos h2];rfl
   ·rw [if_neg h2];have:m=0:=by simp at h2;omega
    subst this;rfl) (by simp) (by simpa using h1)
 simpa using h
theorem mq (st:de) (m:Int) (g:Nat) (hR:z0J.f k K=some (st,(m,(g:Int)))) (hg:g≤K.length) (h1:K.length+W.length<4200000) :
  z0h.f k (some (K,(W,c)),n)=some (st,(some (K.take g,([],c)),m)):=by
 have hin:eE 0 (0:Int) (af W)=true:=fw (a:=0) (b:=0) (c:=W.length) (by omega) (by omega)
 have hm:nI (jk 0 0) (af W)=0:=by
  unfold nI jk af
  rw [if_neg (by omega),if_neg (by omega)]
 have hp:ba W 0 (0:Int)=[]:=by unfold ba;simp
 have ha:app K []=K:=by unfold app;simp
 rw [z0h.f_eq,js,ae]
 simp only []
 rw [aa,jm,ac,jl,z0K.f_eq,ae]
 simp only []
 rw [hR,ae,z0E.f_eq]
 simp only []
 rw [hm,hin,ac,hp,bk (by omega) (by simp),ac,ae,ha,z0R.f_eq]
 simp only []
 rw [show bM 0 (g:Int)=true from decide_eq_true (by omega),ac]
 by_cases h:g<K.length
 ·rw [show aq (g:Int) (af K)=true from decide_eq_true (by unfold af;omega),ac,show eE 0 (g:Int) (af K)=true from fw (a:=0) (c:=K.length) (by omega) (by omega),ac,ae]
  have:ba K 0 (g:Int)=K.take g:=by unfold ba;simp
  rw [this]
 ·rw [show aq (g:Int) (af K)=false from decide_eq_false (by unfold af;omega),aa,ae,List.take_of_length_le (by omega)]
end
end Go.Proofs.YtfhcammihohmjaaGreatDoor
end
noncomputable section
/- What a journal's bytes come to: frames, records, the state behind them. -/
namespace Go.Proofs.YtfhcammihohmjaaGreatDoor
open Pal
def cg (ts:List (List UInt8)):List UInt8:=ts.flatMap b9
def oS (k:Nat) (S:List UInt8):Prop:=S=[]∨∃ e e':Int,e ≠ 0∧e' ≠ 0∧z2x.f k S=some ([],([],e))∧z2h.f k S=some ([],([],e'))
theorem Ab (s:List UInt8):0<(b9 s).length:=by unfold b9;rw [List.length_append,ik];omega
theorem rA (t:List UInt8) (ts:List (List UInt8)) (tail:List UInt8):cg (t::ts)++tail=b9 t++(cg ts++tail):=by
 unfold cg;rw [List.flatMap_cons,List.append_assoc]
theorem uz {S:List UInt8} (h:S ≠ []):ai (seq S [])=true:=by
 rw [mJ,decide_eq_false h];rfl
theorem CW (k:Nat) (hk:900000≤k) (hk2:k<1000000) (x0 tail:List UInt8) (hn:oS k tail):∀ (ts acc:List (List UInt8)) (m:Nat),ts.length<m→acc.length+ts.length<4000000000→(∀ t ∈ ts,List.length t≤800000)→(cg ts++tail).length<4000000 →
  ∃ c,z1N.l3 k m x0 acc (cg ts++tail)=some (acc++ts,c)
 | ts,acc,0,h,_,_,_=>by omega
 | [],acc,m+1,_,hr,_,hl=>by
  rw [z1N.l3_eq]
  show ∃ c,br (ai (seq tail [])) _ _=_
  rcases hn with rfl | ⟨e,e',h1,h2,h3,h4⟩
  ·refine ⟨bw .i64 (af x0) (af ([]:List UInt8)),?_⟩
   rw [show ai (seq ([]:List UInt8) [])=false from rfl,aa,List.append_nil,List.append_nil];rfl
  ·by_cases ht:tail=[]
   ·subst ht
    refine ⟨bw .i64 (af x0) (af ([]:List UInt8)),?_⟩
    rw [show ai (seq ([]:List UInt8) [])=false from rfl,aa,List.append_nil,List.append_nil];rfl
   ·refine ⟨bw .i64 (af x0) (af tail),?_⟩
    rw [uz ht,ac,show cg []++tail=tail from rfl,h3,ae]
    simp only []
    rw [aW,decide_eq_false h1,show ai false=true from rfl,ac,List.append_nil]
 | t::ts,acc,m+1,h,hr,ht,hl=>by
  rw [rA] at hl ⊢
  have hc:=DP k hk hk2 t (cg ts++tail) (ht t (by simp)) hl
  have hp:=Ab t
  have hne:b9 t++(cg ts++tail) ≠ []:=by
   intro e
   have:=congrArg List.length e
   rw [List.length_append,List.length_nil] at this
   omega
  have hcl:(t::ts).length=ts.length+1:=rfl
  have hrm:bm acc (t::[])=true:=by
   unfold bm;exact decide_eq_true (by simp only [List.length_cons,List.length_nil] at hr ⊢;omega)
  obtain ⟨c,ih⟩:=CW k hk hk2 x0 tail hn ts (acc++[t]) m (by omega) (by rw [List.length_append];simp only [List.length_cons,List.length_nil] at hr ⊢;omega) (fun t' h'=>ht t' (by simp [h'])) (by rw [List.length_append] at hl;omega)
  refine ⟨c,?_⟩
  rw [z1N.l3_eq,uz hne,ac,hc.1,ae]
  simp only []
  rw [show az (0:Int) 0=true from rfl,show ai true=false from rfl,aa,hrm,ac]
  refine ih.trans ?_
  rw [List.append_assoc];rfl
theorem DU (k:Nat) (hk:900000≤k) (hk2:k<1000000) (ts:List (List UInt8)) (tail:List UInt8) (hn:oS k tail) (ht:∀ t ∈ ts,List.length t≤800000) (hts:ts.length<900000) (hl:(cg ts++tail).length<4000000) :
  ∃ c,z1N.f k (cg ts++tail)=some (ts,c):=by
 obtain ⟨c,h⟩:=CW k hk hk2 (cg ts++tail) tail hn ts [] k (by omega) (by simp;omega) ht hl
 exact ⟨c,by rw [z1N.f_eq];exact h⟩
inductive Rp (P:List UInt8→Option (jQ × Int)) (D:de→jQ→Option de):de→List (List UInt8)→de→Nat→Nat→Prop
 | nil (s:de):Rp P D s [] s 0 0
 | stop {s:de} {t:List UInt8} {ts:List (List UInt8)} {x:jQ} {e:Int} (h:P t=some (x,e)) (he:e ≠ 0):Rp P D s (t::ts) s 0 0
 | step {s s1 s2:de} {t:List UInt8} {ts:List (List UInt8)} {x:jQ} {n g:Nat} (h:P t=some (x,0)) (hd:D s x=some s1) (hr:Rp P D s1 ts s2 n g):Rp P D s (t::ts) s2 (n+1) ((b9 t).length+g)
theorem Rp.le {P:List UInt8→Option (jQ × Int)} {D:de→jQ→Option de} {s s2:de} {ts:List (List UInt8)} {n g:Nat} (h:Rp P D s ts s2 n g):n≤ts.length∧g≤(cg ts).length:=by
 induction h with
 | nil s=>exact ⟨by simp,by simp⟩
 | stop h he=>exact ⟨by simp,by simp⟩
 | step h hd hr ih=>exact ⟨by simp;omega,by unfold cg at *;rw [List.flatMap_cons,List.length_append];omega⟩
theorem vF (k:Nat) (hk:900000≤k) (hk2:k<1000000) (ts:List (List UInt8)) (hts:ts.length<900000) (ht:∀ t ∈ ts,List.length t≤800000) (hl:(cg ts).length<4200000):∀ (m i n0 g0 n g:Nat) (s s2:de),i≤ts.length→ts.length<m+i→n0+n<2000000→g0+g<5000000 →
  Rp (z12.f k) (z1p.f k) s (ts.drop i) s2 n g →
  z0J.l5 k m (n0:Int) (g0:Int) ts (af ts) (i:Int) [] [] (aV 16 0) [] (aV 16 0) [] (aV 8 []) s=some (s2,(((n0+n:Nat):Int),((g0+g:Nat):Int)))
 | 0,i,_,_,_,_,_,_,h,h',_,_,_=>by omega
 | m+1,i,n0,g0,n,g,s,s2,h,h',hn,hg,hr=>by
  rw [z0J.l5_eq,show aq (i:Int) (af ts)=decide (i<ts.length) from aO i ts,aQ,au]
  by_cases hi:i<ts.length
  ·rw [decide_eq_true hi,ac,ac,aT (e:=.str) hi]
   rw [List.drop_eq_getElem_cons hi] at hr
   cases hr with
   | stop h1 he =>
    rw [h1,ae]
    simp only []
    rw [aW,decide_eq_false he,show ai false=true from rfl,ac];rfl
   | @step _ s1 _ _ _ x n' g' h1 hd hr =>
    have h8:=ht ts[i] (List.getElem_mem hi)
    have e1:aH .i64 (n0:Int) 1=((n0+1:Nat):Int):=aB (by omega)
    have e2:aH .i64 (i:Int) 1=((i+1:Nat):Int):=aB (by omega)
    have e3:aH .i64 (g0:Int) (af (b9 ts[i]))=((g0+(b9 ts[i]).length:Nat):Int):=by
     unfold af;rw [gu (by omega) (by omega) (by omega) (by omega)];omega
    rw [h1,ae]
    simp only []
    rw [show az (0:Int) 0=true from rfl,show ai true=false from rfl,aa,hd,ae,pi k _ h8 hk hk2,ae,e1,e2,e3]
    refine (vF k hk hk2 ts hts ht hl m (i+1) (n0+1) (g0+(b9 ts[i]).length) n' g' s1 s2 (by omega) (by omega) (by omega) (by omega) hr).trans ?_
    rw [show n0+1+n'=n0+(n'+1) by omega,show g0+(b9 ts[i]).length+g'=g0+((b9 ts[i]).length+g') by omega]
  ·rw [decide_eq_false hi,aa]
   rw [List.drop_eq_nil_of_le (by omega)] at hr
   cases hr;rfl
theorem o3 (k:Nat) (hk:900000≤k) (hk2:k<1000000) (ts:List (List UInt8)) (tail:List UInt8) (hn:oS k tail) (ht:∀ t ∈ ts,List.length t≤800000) (hts:ts.length<900000) (hl:(cg ts++tail).length<4000000) {s2:de} {n g:Nat}
  (hr:Rp (z12.f k) (z1p.f k) bE ts s2 n g):z0J.f k (cg ts++tail)=some (s2,((n:Int),(g:Int))):=by
 obtain ⟨c,hc⟩:=DU k hk hk2 ts tail hn ht hts hl
 rw [List.length_append] at hl
 have h2:=hr.le
 rw [z0J.f_eq,hc,ae]
 refine (vF k hk hk2 ts hts ht (by omega) k 0 0 0 n g bE s2 (by omega) (by omega) (by omega) (by omega) hr).trans ?_
 rw [Nat.zero_add,Nat.zero_add]
end Go.Proofs.YtfhcammihohmjaaGreatDoor
end
noncomputable section
/- Chapter 25's example; what is torn is no frame. -/
namespace Go.Proofs.YtfhcammihohmjaaGreatDoor
open Pal
theorem yt {s t:List UInt8} (h:s.length=t.length):(b9 s).length=(b9 t).length:=by
 rw [eH,eH,h]
 simp only [List.length_append,ik,h]
theorem DT (k:Nat) (hk:900000≤k) (hk2:k<1000000) (C:List UInt8) (hC:C.length≤799000) (j:Nat) (hj:j<(b9 C).length):oS k ((b9 C).take j):=by
 have hl:=gn C (by omega)
 have hP:((b9 C).take j).length=j:=by rw [List.length_take];omega
 rcases yM k hk hk2 ((b9 C).take j) (by omega) (fun n t' h h1 h2=>by
  have:=congrArg List.length h
  rw [List.length_append,hP] at this
  omega) with ⟨t,rest,ht,h,h1,h2⟩ | ⟨e,e',h1,h2,h3,h4,_⟩
 ·exfalso
  have h5:b9 C=b9 t++(rest++(b9 C).drop j):=by rw [← List.append_assoc,← h,List.take_append_drop]
  have h6:al C.length++(C++Crc.sumB (Crc.sumN (al C.length++C)))=al t.length++((t++Crc.sumB (Crc.sumN (al t.length++t)))++(rest++(b9 C).drop j)):=by
   rw [← eH,← List.append_assoc,← eH];exact h5
  have h7:=(kO (k:=k) (n:=C.length) (m:=t.length) (by omega) (by omega) (by omega) (by rw [← eH];omega) h6).1
  have h8:=yt h7
  have h9:=congrArg List.length h
  rw [hP,List.length_append] at h9
  omega
 ·exact .inr ⟨e,e',h1,h2,h3,h4⟩
def lz (n:Int):cG:=((0,n),(0,(n,(false,((3,(((97::[])::[]),((0,(0,[])),(1,[]))))::[])))))
def fx (n:Int):jQ:=(1,(lz n,(0,(vC,(0,(lG,bE))))))
set_option maxRecDepth 1000000 in
theorem xU (k:Nat):z1k.f (k+60) (fx 1)=some true:=by kernel_rfl
set_option maxRecDepth 1000000 in
theorem xN (k:Nat):z1k.f (k+60) (fx 2)=some true:=by kernel_rfl
set_option maxRecDepth 1000000 in
theorem B9 (k:Nat):z1p.f (k+60) bE (fx 1)=some ((lz 1::[]),([],(((1::aV 15 0),[]),((aV 16 0,[]),aV 8 [])))):=by kernel_rfl
theorem oZ (n:Int):ShortR (fx n):=by
 refine ⟨⟨by simp [fx,lz],fun o ho=>?_⟩,⟨by simp [fx,lG],by simp [fx,lG],by simp [fx,lG],fun t ht=>by simp [fx,lG] at ht⟩,⟨by simp [fx,bE],by simp [fx,bE],by simp [fx,bE],by simp [fx,bE],fun t ht=>by simp [fx,bE] at ht,fun l hl=>?_⟩⟩
 ·have:o=(3,(((97::[])::[]),((0,(0,[])),(1,[])))):=by simpa [fx,lz] using ho
  subst this
  exact ⟨⟨by simp,fun s hs=>by simp at hs;subst hs;simp⟩,by simp,by simp⟩
 ·have:=(m7 0).re l hl
  omega
theorem CA (n:Int):8≤(fT (fx n)).length:=by
 have h:=gy
 have e:fT (fx n)=al 1++bZ (lz n):=rfl
 rw [e]
 unfold bZ cj
 simp only [List.length_append,List.flatMap_cons]
 have a1:=h 1;have a2:=h (lz n).1.1.toNat;have a3:=h (lz n).1.2.toNat;have a4:=h (lz n).2.1.toNat;have a5:=h (lz n).2.2.1.toNat
 have a6:=h (eN (lz n).2.2.2.1);have a7:=h (lz n).2.2.2.2.length
 have a8:1≤((lz n).2.2.2.2.flatMap cQ).length:=by
  show 1≤(List.flatMap cQ ((3,(((97::[])::[]),((0,(0,[])),(1,[]))))::[])).length
  rw [List.flatMap_cons,List.length_append]
  have:1≤(cQ (3,(((97::[])::[]),((0,(0,[])),(1,[]))))).length:=by
   unfold cQ
   rw [if_neg (by decide),List.length_append]
   have:=h (3:Int).toNat
   show 1≤(al (3:Int).toNat).length+_
   omega
  omega
 omega
end Go.Proofs.YtfhcammihohmjaaGreatDoor
end
noncomputable section
/- Chapter 25's example: it is as it is told. -/
namespace Go.Proofs.YtfhcammihohmjaaGreatDoor
open Pal
theorem zK (k:Nat):z1b.f k=some ((),(some ([],([],0)),0)):=by
 rw [z1b.f_eq,z2L.f_eq,ae]
structure RecOK (k:Nat) (x:jQ):Prop where
 r:z0U.f k x=some true
 c:z16.f k x=some (fT x)
 b:z12.f k (fT x)=some (lI x,0)
 l:(fT x).length≤798000
theorem RecOK.of (k:Nat) (hk:900000≤k) (hk2:k<1000000) {x:jQ} (sh:ShortR x) (h8:x.2.2.2.2.2.2.2.2.2.2.length=8) (v1:x.2.2.2.2.2.2.2.2.1.1.length=16) (v2:x.2.2.2.2.2.2.2.2.2.1.1.length=16) (h:z1k.f k x=some true):RecOK k x :=
 ⟨gE k (by omega) hk2 x (sh.siz (by omega) h8 v1 v2) h,xf k sh (sh.siz (by omega) h8 v1 v2) (by omega) hk2 h,BE k sh (sh.siz (by omega) h8 v1 v2) (by omega) hk2 h,xG k sh (sh.siz (by omega) h8 v1 v2) (by omega) hk2 h⟩
theorem Cq (k:Nat) (n:Int):z2o.f k n=some (fx n):=by rw [z2o.f_eq];rfl
theorem D8 (n:Int):az (af (lz n::[])) 1=true:=rfl
theorem De (k:Nat) (hk:900000≤k) (hk2:k<1000000):z1i.f k=some true:=by
 have r1:z1k.f k (fx 1)=some true:=by
  obtain ⟨q,rfl⟩:∃ q,k=q+60:=⟨k - 60,by omega⟩
  exact xU q
 have r2:z1k.f k (fx 2)=some true:=by
  obtain ⟨q,rfl⟩:∃ q,k=q+60:=⟨k - 60,by omega⟩
  exact xN q
 have dn:z1p.f k bE (fx 1)=some ((lz 1::[]),([],(((1::aV 15 0),[]),((aV 16 0,[]),aV 8 [])))):=by
  obtain ⟨q,rfl⟩:∃ q,k=q+60:=⟨k - 60,by omega⟩
  exact B9 q
 have o1:=RecOK.of k hk hk2 (oZ 1) (by simp [fx,bE,aV]) rfl rfl r1
 have o2:=RecOK.of k hk hk2 (oZ 2) (by simp [fx,bE,aV]) rfl rfl r2
 obtain ⟨C1,hC1⟩:∃ C,C=fT (fx 1):=⟨_,rfl⟩
 obtain ⟨C2,hC2⟩:∃ C,C=fT (fx 2):=⟨_,rfl⟩
 have l1:C1.length≤798000:=by rw [hC1];exact o1.l
 have l2:C2.length≤798000:=by rw [hC2];exact o2.l
 have l28:8≤C2.length:=by rw [hC2];exact CA 2
 have f1:=gn C1 (by omega)
 have f2:=gn C2 (by omega)
 have f2p:10<(b9 C2).length:=by
  rw [eH];simp only [List.length_append,ik];have:=gy C2.length;omega
 have e0:aH .i64 (0:Int) 1=1:=rfl
 have e1:aH .i64 (1:Int) 1=2:=rfl
 have ez:az (0:Int) 0=true:=rfl
 have a1:z0k.f k (fx 1) (some ([],([],0)),0)=some (0,(some ([],(b9 C1,0)),1)):=by
  have:=lf k [] [] 0 0 (fx 1) C1 o1.r (by rw [hC1];exact o1.c) (by omega) (by simp;omega) hk hk2
  rw [e0] at this;exact this
 have a2:z0x.f k (some ([],(b9 C1,0)),1)=some ((),(some (b9 C1,([],1)),1)):=by
  have:=yN k [] (b9 C1) 0 1 (by simp;omega)
  rw [e0] at this;exact this
 have a3:z0k.f k (fx 2) (some (b9 C1,([],1)),1)=some (0,(some (b9 C1,(b9 C2,1)),2)):=by
  have:=lf k (b9 C1) [] 1 1 (fx 2) C2 o2.r (by rw [hC2];exact o2.c) (by omega) (by simp;omega) hk hk2
  rw [e1] at this;exact this
 have a4:=BK k (b9 C1) (b9 C2) 1 2
 have em:bw .i64 (af (b9 C2)) 1=(((b9 C2).length - 1:Nat):Int):=by
  unfold af;rw [dx (by omega) (by omega) (by omega) (by omega)];omega
 have a5:z0o.f k (((b9 C2).length - 1:Nat):Int) (some (b9 C1,(b9 C2,1)),2)=some ((),(some (b9 C1++(b9 C2).take ((b9 C2).length - 1),([],1)),2)) :=
  wv k (b9 C1) (b9 C2) 1 2 _ ((b9 C2).length - 1) (by
   unfold nI jk af
   rw [if_neg (by omega),if_neg (by omega)]) (by omega) (by omega)
 have tn:=DT k hk hk2 C2 (by omega) ((b9 C2).length - 1) (by omega)
 obtain ⟨P,hP⟩:∃ P,P=(b9 C2).take ((b9 C2).length - 1):=⟨_,rfl⟩
 have hPl:P.length≤(b9 C2).length:=by rw [hP,List.length_take];omega
 rw [← hP] at a5 tn
 have hb:z1p.f k bE (lI (fx 1))=some ((lz 1::[]),([],(((1::aV 15 0),[]),((aV 16 0,[]),aV 8 [])))):=by
  rcases sq k bE (fx 1) with h | h | h
  ·rw [h];exact dn
  ·cases h
  ·exact absurd rfl h.1
 have hrp:Rp (z12.f k) (z1p.f k) bE (C1::[]) ((lz 1::[]),([],(((1::aV 15 0),[]),((aV 16 0,[]),aV 8 [])))) 1 ((b9 C1).length+0) :=
  .step (by rw [hC1];exact o1.b) hb (.nil _)
 have efr:cg (C1::[])=b9 C1:=by unfold cg;simp
 have a6:=o3 k hk hk2 (C1::[]) P tn (fun t ht=>by simp at ht;subst ht;omega) (by simp) (by rw [efr,List.length_append];omega) hrp
 rw [efr] at a6
 have a7:=mq k (b9 C1++P) [] 1 2 _ _ _ a6 (by rw [List.length_append];omega) (by simp;omega)
 have a8:=lK k ((b9 C1++P).take ((b9 C1).length+0)) [] 1 ((1:Nat):Int)
 rw [z1i.f_eq,zK,ae,Cq k 1,ae]
 simp only []
 rw [a1,ae]
 simp only []
 rw [a2,ae,Cq k 2,ae]
 simp only []
 rw [a3,ae]
 simp only []
 rw [a4,ae]
 simp only []
 rw [em,a5,ae]
 simp only []
 rw [a7,ae]
 simp only []
 rw [ez,ac,ac,show aq 10 (af (b9 C2))=true from decide_eq_true (by unfold af;omega),ac,D8 1,ac,a8,ae]
 rfl
end Go.Proofs.YtfhcammihohmjaaGreatDoor
end
noncomputable section
/- The plain law: the run of JournalSnaps answers true for every state, records and cW. -/
namespace Go.Proofs.YtfhcammihohmjaaGreatDoor
open Pal
def g9 (s:de):jQ:=(4,(rj,(0,(vC,(0,(lG,s))))))
theorem zH (k:Nat) (hk:5000<k) (hk2:k<1000000) (s:de) (sh:ShortS s) (h8:s.2.2.2.2.length=8) (t:cG) (u:Int) (U:bq) (b:Int) (d:nx) (z:de) (hu:0≤u∧u<8) (hi:aj u<s.2.2.2.2.length) :
  z1p.f k s (2,(t,(u,(U,(b,(d,z))))))=some (wY (fB s (U::[])) u (mK s.2.2.2.2[aj u] U.1 b)):=by
 have ls:=sh.len
 have h40:=sh.redo _ (List.getElem_mem hi)
 have er:rd (.slc ah) (fB s (U::[])).2.2.2.2 (aj u)=s.2.2.2.2[aj u]:=aT (e:=.slc ah) hi
 rw [z1p.f_eq]
 simp only [show az (2:Int) 1=false from rfl,show az (2:Int) 2=true from rfl,ac,aa]
 rw [nN k s (U::[]) (n:=100) (m:=1) (by omega) ls (by simp) (by omega) hk2,ae]
 rw [lP hu,ac,er,zY k _ _ (by omega) hk2,ae];rfl
theorem xT (k:Nat) (hk:5000<k) (hk2:k<1000000) (s:de) (sh:ShortS s) (h8:s.2.2.2.2.length=8) {x:jQ} (sz:SizR k 100 x) (h:z1k.f k x=some true):z1p.f k s (lI x)=z1p.f k s x:=by
 have inv:=g8 k sz (by omega) hk hk2 h
 rcases sq k s x with h1 | h1 | h1
 ·exact h1
 ·clear h sz
  obtain ⟨K,t,u,U,b,d,z⟩:=x
  simp only at inv h1
  subst h1
  rcases inv with ⟨e,_⟩ | ⟨_,c1,c2,c3⟩ | ⟨e,_⟩ | ⟨e,_⟩
  ·cases e
  ·have hi:aj u<s.2.2.2.2.length:=by have:=vh c1;omega
   exact (zH k hk hk2 s sh h8 rj u U b lG bE c1 hi).trans (zH k hk hk2 s sh h8 t u U b d z c1 hi).symm
  ·cases e
  ·cases e
 ·exfalso
  rcases inv with ⟨e,_⟩ | ⟨e,_⟩ | ⟨e,_⟩ | ⟨e,_⟩
  ·exact h1.1 e
  ·exact h1.2.1 e
  ·exact h1.2.2.1 e
  ·exact h1.2.2.2 e
theorem wR {s:de} (sh:ShortS s):ShortR (g9 s) :=
 ⟨⟨by simp [g9,rj],fun o ho=>by simp [g9,rj] at ho⟩,⟨by simp [g9,lG],by simp [g9,lG],by simp [g9,lG],fun t ht=>by simp [g9,lG] at ht⟩,sh⟩
theorem AV (k:Nat) (hk:5000<k) (hk2:k<1000000) (s:de) (sh:ShortS s) (h8:s.2.2.2.2.length=8):z1p.f k bE (lI (g9 s))=some s:=by
 have hc:=vI k s sh.len h8 (by omega) (by omega)
 have e:lI (g9 s)=g9 s:=rfl
 rw [e,z1p.f_eq]
 show br (az (4:Int) 1) _ _=_
 rw [show az (4:Int) 1=false from rfl,aa]
 show br (az (4:Int) 2) _ _=_
 rw [show az (4:Int) 2=false from rfl,aa]
 show br (az (4:Int) 3) _ _=_
 rw [show az (4:Int) 3=false from rfl,aa]
 show br (az (4:Int) 4) _ _=_
 rw [show az (4:Int) 4=true from rfl,ac]
 show bnd (z1v.f k s) _=_
 rw [hc,ae]
theorem xe (k:Nat) (hk:5000<k) (hk2:k<1000000) (s:de) (sh:ShortS s) (hr:RightS k s) (h8:s.2.2.2.2.length=8):z1k.f k (g9 s)=some true:=by
 have h:=v6 k hr sh.len (by omega) h8 hk hk2
 rw [z1k.f_eq]
 unfold g9
 simp only [show az (4:Int) 1=false from rfl,show az (4:Int) 2=false from rfl,show az (4:Int) 3=false from rfl,show az (4:Int) 4=true from rfl,ac,aa]
 rw [h,ae]
theorem vD (k:Nat) (hk:900000≤k) (hk2:k<1000000) (K W:List UInt8) (c n:Int) (s:de) (ok:RecOK k (g9 s)) :
  z0f.f k s (some (K,(W,c)),n)=some (0,(some (b9 (fT (g9 s)),([],aH .i64 c 1)),1)):=by
 have hl:=ok.l
 have hf:=gn (fT (g9 s)) (by omega)
 have e1:aq 1048576 (af (fT (g9 s)))=false:=by unfold aq af;exact decide_eq_false (by omega)
 have e2:aq 4194304 (af (b9 (fT (g9 s))))=false:=by unfold aq af;exact decide_eq_false (by omega)
 have r:=ok.r
 have cd:=ok.c
 have er:((4,(((0,0),(0,(0,(false,[])))),(0,(((0,0),0),(0,(([],([],[])),s)))))):jQ)=g9 s:=rfl
 rw [z0f.f_eq,js,ae]
 simp only []
 rw [aa,er,r,ae,show ai true=false from rfl,aa,cd,ae,e1,aa,jm,ac,pi k _ (by omega) hk hk2,ae,jl,z0n.f_eq,e2,aa,ae]
 simp only []
 rw [show az (0:Int) 0=true from rfl,show ai true=false from rfl,aa]
theorem oC (k:Nat) (hk:900000≤k) (hk2:k<1000000) (s:Ty.D aI) (fs:gL aI s) (a:Ty.D b7) (fa:gL b7 a) (b:Ty.D b7) (fb:gL b7 b) (m:Int):z0j.f k s a b m=some true:=by
 have aw:=De k hk hk2
 have bt:ai true=false:=rfl
 have bf:ai false=true:=rfl
 have ez:az (0:Int) 0=true:=rfl
 have h8:s.2.2.2.2.length=8:=fs.2.2.2.2.1
 have fza:gL aI a.2.2.2.2.2.2:=fa.2.2.2.2.2.2
 have va1:a.2.2.2.2.2.2.2.2.1.1.length=16:=fza.2.2.1.1.1
 have va2:a.2.2.2.2.2.2.2.2.2.1.1.length=16:=fza.2.2.2.1.1.1
 have xa8:a.2.2.2.2.2.2.2.2.2.2.length=8:=fza.2.2.2.2.1
 have fzb:gL aI b.2.2.2.2.2.2:=fb.2.2.2.2.2.2
 have vb1:b.2.2.2.2.2.2.2.2.1.1.length=16:=fzb.2.2.1.1.1
 have vb2:b.2.2.2.2.2.2.2.2.2.1.1.length=16:=fzb.2.2.2.1.1.1
 have xb8:b.2.2.2.2.2.2.2.2.2.2.length=8:=fzb.2.2.2.2.1
 have vs1:s.2.2.1.1.length=16:=fs.2.2.1.1.1
 have vs2:s.2.2.2.1.1.length=16:=fs.2.2.2.1.1.1
 obtain ⟨c0,g0,i0⟩:=CI k s fs (by omega) hk2
 rw [z0j.f_eq,g0,aw,ae]
 cases c0 with
 | false=>rw [bf];rfl
 | true =>
 obtain ⟨hs,sh,hr⟩:=i0 rfl
 obtain ⟨c1,g1,i1⟩:=qS k a xa8 (by omega) hk2
 rw [bt,aa,g1,ae]
 cases c1 with
 | false=>rw [bf];rfl
 | true =>
 have sa:=i1 rfl
 obtain ⟨c2,g2,i2⟩:=qS k b xb8 (by omega) hk2
 rw [bt,aa,g2,ae]
 cases c2 with
 | false=>rw [bf];rfl
 | true =>
 have sb:=i2 rfl
 have za:=sa.siz (k:=k) (by omega) xa8 va1 va2
 have zb:=sb.siz (k:=k) (by omega) xb8 vb1 vb2
 obtain ⟨c3,_,q3⟩:=kz k a za (by omega) (by omega) hk2
 rw [bt,aa,q3,ae]
 cases c3 with
 | false=>rw [bf];rfl
 | true =>
 obtain ⟨c4,_,q4⟩:=kz k b zb (by omega) (by omega) hk2
 rw [bt,aa,q4,ae]
 cases c4 with
 | false=>rw [bf];rfl
 | true =>
 have oa:=RecOK.of k hk hk2 sa xa8 va1 va2 q3
 have ob:=RecOK.of k hk hk2 sb xb8 vb1 vb2 q4
 have os:=RecOK.of k hk hk2 (wR sh) h8 vs1 vs2 (xe k (by omega) hk2 s sh hr h8)
 have sd:=AV k (by omega) hk2 s sh h8
 obtain ⟨y,dn⟩:=C8 k (by omega) hk2 s hs sh hr h8 sb zb q4
 have db:=xT k (by omega) hk2 s sh h8 zb q4
 obtain ⟨Ca,hCa⟩:∃ C,C=fT a:=⟨_,rfl⟩
 obtain ⟨Cb,hCb⟩:∃ C,C=fT b:=⟨_,rfl⟩
 obtain ⟨Cs,hCs⟩:∃ C,C=fT (g9 s):=⟨_,rfl⟩
 have la:Ca.length≤798000:=by rw [hCa];exact oa.l
 have lb:Cb.length≤798000:=by rw [hCb];exact ob.l
 have lc:Cs.length≤798000:=by rw [hCs];exact os.l
 have fa':=gn Ca (by omega)
 have fb':=gn Cb (by omega)
 have fs':=gn Cs (by omega)
 have e0:aH .i64 (0:Int) 1=1:=rfl
 have e1:aH .i64 (1:Int) 1=2:=rfl
 have a1:z0k.f k a (some ([],([],0)),0)=some (0,(some ([],(b9 Ca,0)),1)):=by
  have:=lf k [] [] 0 0 a Ca oa.r (by rw [hCa];exact oa.c) (by omega) (by simp;omega) hk hk2
  rw [e0] at this;exact this
 have a2:z0f.f k s (some ([],(b9 Ca,0)),1)=some (0,(some (b9 Cs,([],1)),1)):=by
  have:=vD k hk hk2 [] (b9 Ca) 0 1 s os
  rw [e0,← hCs] at this;exact this
 have a3:=sf k (b9 Cs) 1 1 m (by omega)
 have rp1:Rp (z12.f k) (z1p.f k) bE (Cs::[]) s 1 ((b9 Cs).length+0):=.step (by rw [hCs];exact os.b) sd (.nil _)
 have ef1:cg (Cs::[])=b9 Cs:=by unfold cg;simp
 have a4:=o3 k hk hk2 (Cs::[]) [] (.inl rfl) (fun t ht=>by simp at ht;subst ht;omega) (by simp) (by rw [ef1,List.append_nil];omega) rp1
 rw [ef1,List.append_nil] at a4
 have a5:=mq k (b9 Cs) [] 1 1 _ _ _ a4 (by omega) (by simp;omega)
 rw [Nat.add_zero,List.take_length] at a5
 have a6:=lK k (b9 Cs) [] 1 ((1:Nat):Int)
 have a7:z0k.f k b (some (b9 Cs,([],1)),((1:Nat):Int))=some (0,(some (b9 Cs,(b9 Cb,1)),2)):=by
  have:=lf k (b9 Cs) [] 1 1 b Cb ob.r (by rw [hCb];exact ob.c) (by omega) (by simp;omega) hk hk2
  rw [e1] at this;exact this
 have a8:z0x.f k (some (b9 Cs,(b9 Cb,1)),2)=some ((),(some (b9 Cs++b9 Cb,([],2)),2)):=by
  have:=yN k (b9 Cs) (b9 Cb) 1 2 (by omega)
  rw [e1] at this;exact this
 have a9:=sf k (b9 Cs++b9 Cb) 2 2 m (by rw [List.length_append];omega)
 have rp2:Rp (z12.f k) (z1p.f k) bE (Cs::Cb::[]) y 2 ((b9 Cs).length+((b9 Cb).length+0)) :=
  .step (by rw [hCs];exact os.b) sd (.step (by rw [hCb];exact ob.b) (db.trans dn.p) (.nil _))
 have ef2:cg (Cs::Cb::[])=b9 Cs++b9 Cb:=by unfold cg;simp
 have b1:=o3 k hk hk2 (Cs::Cb::[]) [] (.inl rfl) (fun t ht=>by simp at ht;rcases ht with rfl | rfl <;> omega) (by simp) (by rw [ef2,List.append_nil,List.length_append];omega) rp2
 rw [ef2,List.append_nil] at b1
 have b2:=mq k (b9 Cs++b9 Cb) [] 2 2 _ _ _ b1 (by rw [List.length_append];omega) (by rw [List.length_append];simp;omega)
 have b3:=lK k ((b9 Cs++b9 Cb).take ((b9 Cs).length+((b9 Cb).length+0))) [] 2 ((2:Nat):Int)
 obtain ⟨v1,p1,p2⟩:=t7 k s s sh.len (fun t ht=>(sh.each t ht).lenT (by omega)) h8 h8 (by omega) (by omega) hk2
 have hv1:v1=true:=p2.2 rfl
 subst hv1
 obtain ⟨v2,p3,p4⟩:=t7 k y y dn.len dn.tx dn.red dn.red (by omega) (by omega) hk2
 have hv2:v2=true:=p4.2 rfl
 subst hv2
 rw [bt,aa,zK,ae]
 simp only []
 rw [a1,ae]
 simp only []
 rw [ez,bt,aa,a2,ae]
 simp only []
 rw [ez,bt,aa,a3,ae]
 simp only []
 rw [a5,ae]
 simp only []
 rw [p1,ae,bt,aa,a6,ae]
 simp only []
 rw [show az (((1:Nat):Int)) 1=true from rfl,bt,aa,a7,ae]
 simp only []
 rw [ez,bt,aa,a8,ae]
 simp only []
 rw [a9,ae]
 simp only []
 rw [b2,ae]
 simp only []
 rw [dn.p,ae,p3,ae,ac,b3,ae]
 simp only []
 rw [show az (((2:Nat):Int)) 2=true from rfl,ac,ae]
theorem mZ (s:Ty.D aI) (fs:gL aI s) (a:Ty.D b7) (fa:gL b7 a) (b:Ty.D b7) (fb:gL b7 b) (m:Ty.D (.int .i64)) (_:gL (.int .i64) m):∃ k,z0j.f k s a b m=some true :=
 ⟨900000,oC 900000 (by decide) (by decide) s fs a fa b fb m⟩
end Go.Proofs.YtfhcammihohmjaaGreatDoor
end
noncomputable section
/- The pinned tables of unicode/utf8, out of what a tied row lists. -/
namespace Go.Proofs.YtfhcammihohmjaaGreatDoor
open Go Go.Proofs Go.Lib
open Pal
theorem xI {W : World} (h3 : VarReads Tryz.prog W "unicode/utf8.first" firstData) (h4 : VarReads Tryz.prog W "unicode/utf8.acceptRanges" acceptData) : MonoC.tab (AT W) := by
 have h:=utf8Tabs_of_readsT (U8Types.of260 { B5 with }) Dh h3 h4
 exact ⟨h.1,h.2⟩
end Go.Proofs.YtfhcammihohmjaaGreatDoor
end
