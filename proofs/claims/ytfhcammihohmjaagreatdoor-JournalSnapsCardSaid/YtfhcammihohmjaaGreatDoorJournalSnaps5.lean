/- The functions that the statement reaches, and what they come to. Part 5. -/
import Derived.Test.YtfhcammihohmjaaGreatDoorFw1
import Derived.Test.YtfhcammihohmjaaGreatDoorFw2
import Derived.Test.YtfhcammihohmjaaGreatDoorFw3
import Derived.Test.YtfhcammihohmjaaGreatDoorJournalSnaps1
import Derived.Test.YtfhcammihohmjaaGreatDoorJournalSnaps2
import Derived.Test.YtfhcammihohmjaaGreatDoorJournalSnaps3
import Derived.Test.YtfhcammihohmjaaGreatDoorJournalSnaps4
set_option linter.unusedVariables false
set_option linter.unusedSimpArgs false
set_option linter.unusedSectionVars false
noncomputable section
/- Transactions: the program's test is the document's. -/
namespace Go.Proofs.YtfhcammihohmjaaGreatDoor
open Pal
theorem vg (k:Nat) (o:Op):∃ g,z35.f k o=some g∧z1I.f k o=some g:=by
 rw [← AK,z35.f_eq]
 cases az o.1 0 with
 | false=>exact ⟨_,rfl,rfl⟩
 | true =>
  cases az (af o.2.1) 0 with
  | false=>exact ⟨_,rfl,rfl⟩
  | true =>
   cases eQ cC o.2.2.1 (0,(0,[])) with
   | false=>exact ⟨_,rfl,rfl⟩
   | true=>cases az o.2.2.2.1 0 <;> exact ⟨_,rfl,rfl⟩
structure SizO (k:Nat) (o:Op):Prop where
 path:∀ s ∈ o.2.1,List.length s<k
 names:o.2.1.length<k
 val:o.2.2.1.2.2.length<k
 seen:o.2.2.2.2.length<k
theorem F4 (k:Nat) (t:cG) (ho:∀ o ∈ t.2.2.2.2,SizO k o) (hl:t.2.2.2.2.length<1000000) (hk:10<k) (hk2:k<1000000):∀ (n i:Nat),i≤t.2.2.2.2.length→t.2.2.2.2.length<n+i →
  ∃ e:Int,z2D.l10 k n t.2.2.2.2 (af t.2.2.2.2) (i:Int) t=some e∧z17.l8 k n (i:Int) t=some e
 | 0,i,_,h=>by omega
 | n+1,i,h,h'=>by
  rw [z2D.l10_eq,z17.l8_eq,aO,aQ,au]
  by_cases hi:i<t.2.2.2.2.length
  ·have ih:=F4 k t ho hl hk hk2 n (i+1) (by omega) (by omega)
   have so:=ho _ (List.getElem_mem hi)
   obtain ⟨e,p1,p2⟩:=F1 k t.2.2.2.2[i] so.path so.names so.val so.seen hk hk2
   obtain ⟨g,q1,q2⟩:=vg k t.2.2.2.2[i]
   rw [decide_eq_true hi,aT (e:=eJ) hi,p1,p2,q1,q2,aB (by omega)]
   simp only [ac,ae]
   have bt:ai true=false:=rfl
   have bf:ai false=true:=rfl
   cases t.2.2.2.1 with
   | true =>
    simp only [ac]
    cases g with
    | true =>
     simp only [ac,bt,aa]
     cases az e 0 <;> exact ih
    | false =>
     simp only [aa,bf,ac]
     cases az e 0 with
     | true=>exact ih
     | false=>exact ⟨e,rfl,rfl⟩
   | false =>
    simp only [aa,bf,ac]
    cases az e 0 with
    | true=>exact ih
    | false=>exact ⟨e,rfl,rfl⟩
  ·rw [decide_eq_false hi,aa,aa];exact ⟨0,rfl,rfl⟩
theorem jR (k:Nat) (t:cG) (ho:∀ o ∈ t.2.2.2.2,SizO k o) (hl:t.2.2.2.2.length<k) (hk:10<k) (hk2:k<1000000):∃ e:Int,z2D.f k t=some e∧z17.f k t=some e:=by
 obtain ⟨e,g1,g2⟩:=F4 k t ho (by omega) hk hk2 k 0 (by omega) (by omega)
 rw [show ((0:Nat):Int)=0 from rfl] at g1 g2
 have bt:ai true=false:=rfl
 have bf:ai false=true:=rfl
 rw [z2D.f_eq,z17.f_eq,dN,dK,g1,g2,show aq 7 t.2.1=bM 8 t.2.1 from decide_eq_decide.2 ⟨fun h=>by omega,fun h=>by omega⟩]
 simp only [ae]
 cases aK t.1 with
 | false=>exact ⟨2,rfl,rfl⟩
 | true =>
  simp only [bt,aa]
  cases aq t.2.1 0 <;> cases bM 8 t.2.1 <;> cases aq t.2.2.1 1 <;> cases aq 1099511627776 t.2.2.1 <;> cases az (af t.2.2.2.2) 0 <;> cases aq 16 (af t.2.2.2.2) <;> exact ⟨_,rfl,rfl⟩
end Go.Proofs.YtfhcammihohmjaaGreatDoor
end
noncomputable section
/- Dots, vectors, rows of dots and sets: the program and the document read the same. -/
namespace Go.Proofs.YtfhcammihohmjaaGreatDoor
open Pal
theorem EG {v:iH} {i:Nat} {x:Int}:(ja v i x).length=v.length:=by simp [ja]
end Go.Proofs.YtfhcammihohmjaaGreatDoor
end
noncomputable section
/- Texts, values, paths: the program and the document read the same. -/
namespace Go.Proofs.YtfhcammihohmjaaGreatDoor
open Pal
theorem fw {a b c:Nat} (h1:a≤b) (h2:b≤c):eE (a:Int) (b:Int) (c:Int)=true:=by
 show (decide ((0:Int)≤(a:Int)) && decide ((a:Int)≤(b:Int)) && decide ((b:Int)≤(c:Int)))=true
 rw [decide_eq_true (show (0:Int)≤(a:Int) by omega),decide_eq_true (show (a:Int)≤(b:Int) by omega),decide_eq_true (show (b:Int)≤(c:Int) by omega)];rfl
def Gg (n:Nat):Int:=if n % 2=0 then ((n / 2:Nat):Int) else -(((n+1) / 2:Nat):Int)
theorem FY (n:Nat):As (n:Int) 2=((n % 2:Nat):Int):=by
 rfl
theorem Bn (q:Nat):(q:Int).tdiv 2=((q / 2:Nat):Int):=rfl
theorem sV (k n:Nat) (hn:n<72057594037927936):z0Y.f k (n:Int)=some (Gg n)∧z11.f k (n:Int)=some (Gg n):=by
 rw [z0Y.f_eq,z11.f_eq,FY]
 unfold Gg
 by_cases h:n % 2=0
 ·have q:pG .i64 (n:Int) 2=((n / 2:Nat):Int):=by
   show IntKind.wrap .i64 ((n:Int).tdiv 2)=_
   rw [Bn,cU (by omega) (by omega)]
  rw [h,if_pos rfl,q];exact ⟨rfl,rfl⟩
 ·have h1:n % 2=1:=by omega
  have a1:aH .i64 (n:Int) 1=((n+1:Nat):Int):=aB (by omega)
  have a2:bw .i64 0 ((n+1:Nat):Int)=-((n+1:Nat):Int):=by
   show IntKind.wrap .i64 (0 - ((n+1:Nat):Int))=_
   rw [cU (by omega) (by omega)];omega
  have a3:pG .i64 (-((n+1:Nat):Int)) 2=-(((n+1) / 2:Nat):Int):=by
   show IntKind.wrap .i64 ((-((n+1:Nat):Int)).tdiv 2)=_
   rw [Int.neg_tdiv,Bn,cU (by omega) (by omega)]
  have a4:pG .i64 (n:Int) 2=((n / 2:Nat):Int):=by
   show IntKind.wrap .i64 ((n:Int).tdiv 2)=_
   rw [Bn,cU (by omega) (by omega)]
  have a5:bw .i64 0 ((n / 2:Nat):Int)=-((n / 2:Nat):Int):=by
   show IntKind.wrap .i64 (0 - ((n / 2:Nat):Int))=_
   rw [cU (by omega) (by omega)];omega
  have a6:bw .i64 (-((n / 2:Nat):Int)) 1=-(((n+1) / 2:Nat):Int):=by
   show IntKind.wrap .i64 (-((n / 2:Nat):Int) - 1)=_
   rw [cU (by omega) (by omega)];omega
  rw [h1,if_neg (by decide),a1,a2,a3,a4,a5,a6];exact ⟨rfl,rfl⟩
end Go.Proofs.YtfhcammihohmjaaGreatDoor
end
noncomputable section
/- Operations: the end of reading one is the same in the program and the document. -/
namespace Go.Proofs.YtfhcammihohmjaaGreatDoor
open Pal
end Go.Proofs.YtfhcammihohmjaaGreatDoor
end
noncomputable section
/- An operation is read: the program and the document do the same. -/
namespace Go.Proofs.YtfhcammihohmjaaGreatDoor
open Pal
end Go.Proofs.YtfhcammihohmjaaGreatDoor
end
noncomputable section
/- Counts: rows of dots with numbers, in order; joined, put, looked up. Plain facts. -/
namespace Go.Proofs.YtfhcammihohmjaaGreatDoor
open Pal
abbrev bq:=bu × Int
def cL (u:bq):Bool:=aK u.1 && decide (1≤u.2∧u.2≤64)
theorem cD (u:bq):cL u=true ↔ aK u.1=true∧1≤u.2∧u.2≤64:=by simp [cL]
structure CanU (l:List bq):Prop where
 rt:∀ u ∈ l,cL u=true
 srt:l.Pairwise (fun a b=>aP a.1 b.1=true)
def cH:List bq→bu→Int
 | [],_=>0
 | u::r,d=>if u.1=d then u.2 else cH r d
theorem CanU.nil:CanU []:=⟨fun u hu=>by simp at hu,List.Pairwise.nil⟩
theorem CanU.tail {u:bq} {l:List bq} (h:CanU (u::l)):CanU l:=⟨fun v hv=>h.rt v (List.mem_cons_of_mem _ hv),(List.pairwise_cons.1 h.srt).2⟩
theorem CanU.head {u:bq} {l:List bq} (h:CanU (u::l)):∀ v ∈ l,aP u.1 v.1=true:=(List.pairwise_cons.1 h.srt).1
theorem CanU.cons {u:bq} {l:List bq} (h:CanU l) (h1:cL u=true) (h2:∀ v ∈ l,aP u.1 v.1=true):CanU (u::l) :=
 ⟨fun v hv=>by rcases List.mem_cons.1 hv with rfl | hv;exact h1;exact h.rt v hv,List.pairwise_cons.2 ⟨h2,h.srt⟩⟩
theorem kx {a b:bu} (h:aP a b=true):a ≠ b:=fun e=>by subst e;rw [cE.irrefl] at h;cases h
theorem Aw {l:List bq} {d:bu} (h:∀ u ∈ l,u.1 ≠ d):cH l d=0:=by
 induction l with
 | nil=>rfl
 | cons u l ih =>
  rw [cH,if_neg (h u (by simp))]
  exact ih fun v hv=>h v (List.mem_cons_of_mem _ hv)
theorem lJ {l:List bq} {d:bu} (h:∀ u ∈ l,aP d u.1=true):cH l d=0:=Aw fun u hu e=>kx (h u hu) e.symm
theorem BU {l:List bq} {u:bq} (h:CanU l) (hu:u ∈ l):cH l u.1=u.2:=by
 induction l with
 | nil=>cases hu
 | cons v l ih =>
  rw [cH]
  rcases List.mem_cons.1 hu with e | hu
  ·subst e;rw [if_pos rfl]
  ·rw [if_neg (kx (h.head u hu))];exact ih h.tail hu
theorem v8 {l:List bq} {d:bu} (hp:cH l d ≠ 0):(d,cH l d) ∈ l:=by
 induction l with
 | nil=>exact absurd rfl hp
 | cons v l ih =>
  rw [cH] at hp ⊢
  by_cases e:v.1=d
  ·rw [if_pos e];subst e;simp
  ·rw [if_neg e] at hp ⊢;exact List.mem_cons_of_mem _ (ih hp)
theorem jq {l:List bq} (h:CanU l) (d:bu):0≤cH l d∧cH l d≤64:=by
 by_cases hp:cH l d=0
 ·omega
 ·have:=(cD _).1 (h.rt _ (v8 hp))
  simp only at this;omega
theorem uZ {l:List bq} (h:CanU l) (u:bq):u ∈ l ↔ cH l u.1=u.2∧1≤u.2:=by
 constructor
 ·intro hu;exact ⟨BU h hu,((cD u).1 (h.rt u hu)).2.1⟩
 ·rintro ⟨h1,h2⟩
  have:=v8 (l:=l) (d:=u.1) (by omega)
  rwa [h1] at this
def qC (a b:bq):Bool:=aP a.1 b.1 || (decide (a.1=b.1) && decide (a.2<b.2))
theorem sJ {a b:bq} (h:aP a.1 b.1=true):qC b a=false:=by
 unfold qC
 rw [gl h]
 have:¬ b.1=a.1:=fun e=>kx h e.symm
 simp [this]
theorem yz (x y:bq) (h1:qC x y=false) (h2:qC y x=false):x=y:=by
 unfold qC at h1 h2
 simp only [Bool.or_eq_false_iff,Bool.and_eq_false_iff,decide_eq_false_iff_not] at h1 h2
 have e:=dM x.1 y.1 h1.1 h2.1
 refine Prod.ext e ?_
 rcases h1.2 with h | h
 ·exact absurd e h
 ·rcases h2.2 with h' | h'
  ·exact absurd e.symm h'
  ·omega
theorem qk {l:List bq} (h:CanU l):l.Nodup:=h.srt.imp fun {a b} hab e=>by subst e;rw [cE.irrefl] at hab;cases hab
theorem we {l m:List bq} (h1:CanU l) (h2:CanU m) (h:∀ d,cH l d=cH m d):l=m:=by
 refine iU yz ((List.perm_ext_iff_of_nodup (qk h1) (qk h2)).2 fun u=>?_) (h1.srt.imp sJ) (h2.srt.imp sJ)
 rw [uZ h1,uZ h2,h]
def ei:List bq→List bq→List bq
 | [],b=>b
 | a,[]=>a
 | x::a,y::b=>if aP x.1 y.1 then x::ei a (y::b) else if aP y.1 x.1 then y::ei (x::a) b else (x.1,max x.2 y.2)::ei a b
termination_by a b=>a.length+b.length
theorem kX (b:List bq):ei [] b=b:=by rw [ei]
theorem lS (a:List bq):ei a []=a:=by cases a <;> simp [ei]
theorem qP (x:bq) (a:List bq) (y:bq) (b:List bq):ei (x::a) (y::b)=if aP x.1 y.1 then x::ei a (y::b) else if aP y.1 x.1 then y::ei (x::a) b else (x.1,max x.2 y.2)::ei a b:=by rw [ei]
theorem dP {a b c:bu} (h1:aP a b=true) (h2:aP b c=true):aP a c=true:=cE.trans _ _ _ h1 h2
theorem hZ:∀ (n:Nat) (a b:List bq),a.length+b.length≤n→CanU a→CanU b →
  CanU (ei a b)∧(∀ d,cH (ei a b) d=max (cH a d) (cH b d))∧(∀ e:bu,(∀ u ∈ a,aP e u.1=true)→(∀ u ∈ b,aP e u.1=true)→∀ u ∈ ei a b,aP e u.1=true)∧(ei a b).length≤a.length+b.length
 | n,[],b,_,ha,hb=>by
  rw [kX]
  exact ⟨hb,fun d=>by have:=(jq hb d).1;show _=max 0 (cH b d);omega,fun e _ h=>h,by simp⟩
 | n,x::a,[],_,ha,hb=>by
  rw [lS]
  exact ⟨ha,fun d=>by have:=(jq ha d).1;show _=max (cH (x::a) d) 0;omega,fun e h _=>h,by simp⟩
 | 0,x::a,y::b,h,_,_=>by simp at h
 | n+1,x::a,y::b,h,ha,hb=>by
  simp only [List.length_cons] at h
  rw [qP]
  have hx:=ha.rt x (by simp)
  have hy:=hb.rt y (by simp)
  by_cases h1:aP x.1 y.1=true
  ·obtain ⟨c1,c2,c3,c4⟩:=hZ n a (y::b) (by simp only [List.length_cons];omega) ha.tail hb
   have hb':∀ u ∈ y::b,aP x.1 u.1=true:=fun u hu=>by
    rcases List.mem_cons.1 hu with rfl | hu
    ·exact h1
    ·exact dP h1 (hb.head u hu)
   rw [if_pos h1]
   refine ⟨c1.cons hx (c3 x.1 ha.head hb'),fun d=>?_,fun e h2 h3 u hu=>?_,by simp only [List.length_cons] at c4 ⊢;omega⟩
   ·rw [cH,cH]
    by_cases e:x.1=d
    ·rw [if_pos e,if_pos e]
     subst e
     rw [lJ hb']
     have:=((cD x).1 hx).2.1;omega
    ·rw [if_neg e,if_neg e];exact c2 d
   ·rcases List.mem_cons.1 hu with rfl | hu
    ·exact h2 _ (by simp)
    ·exact c3 e (fun v hv=>h2 v (List.mem_cons_of_mem _ hv)) h3 u hu
  ·rw [if_neg h1]
   by_cases h2:aP y.1 x.1=true
   ·obtain ⟨c1,c2,c3,c4⟩:=hZ n (x::a) b (by simp only [List.length_cons];omega) ha hb.tail
    have ha':∀ u ∈ x::a,aP y.1 u.1=true:=fun u hu=>by
     rcases List.mem_cons.1 hu with rfl | hu
     ·exact h2
     ·exact dP h2 (ha.head u hu)
    rw [if_pos h2]
    refine ⟨c1.cons hy (c3 y.1 ha' hb.head),fun d=>?_,fun e h3 h4 u hu=>?_,by simp only [List.length_cons] at c4 ⊢;omega⟩
    ·rw [cH]
     by_cases e:y.1=d
     ·rw [if_pos e]
      subst e
      rw [lJ ha']
      rw [show cH (y::b) y.1=y.2 by rw [cH,if_pos rfl]]
      have:=((cD y).1 hy).2.1;omega
     ·rw [if_neg e,c2 d,show cH (y::b) d=cH b d by rw [cH,if_neg e]]
    ·rcases List.mem_cons.1 hu with rfl | hu
     ·exact h4 _ (by simp)
     ·exact c3 e h3 (fun v hv=>h4 v (List.mem_cons_of_mem _ hv)) u hu
   ·have hxy:x.1=y.1:=dM _ _ (by simpa using h1) (by simpa using h2)
    obtain ⟨c1,c2,c3,c4⟩:=hZ n a b (by omega) ha.tail hb.tail
    rw [if_neg h2]
    refine ⟨c1.cons ?_ (c3 x.1 ha.head (by rw [hxy];exact hb.head)),fun d=>?_,fun e h3 h4 u hu=>?_,by simp only [List.length_cons] at c4 ⊢;omega⟩
    ·rw [cD] at hx hy ⊢
     exact ⟨hx.1,by show 1≤max x.2 y.2;omega,by show max x.2 y.2≤64;omega⟩
    ·rw [cH,cH,cH,← hxy]
     by_cases e:x.1=d
     ·rw [if_pos e,if_pos e,if_pos e]
     ·rw [if_neg e,if_neg e,if_neg e];exact c2 d
    ·rcases List.mem_cons.1 hu with rfl | hu
     ·exact h3 x (by simp)
     ·exact c3 e (fun v hv=>h3 v (List.mem_cons_of_mem _ hv)) (fun v hv=>h4 v (List.mem_cons_of_mem _ hv)) u hu
theorem sY {a b:List bq} (ha:CanU a) (hb:CanU b):CanU (ei a b):=(hZ _ a b (Nat.le_refl _) ha hb).1
theorem AC {a b:List bq} (ha:CanU a) (hb:CanU b) (d:bu):cH (ei a b) d=max (cH a d) (cH b d):=(hZ _ a b (Nat.le_refl _) ha hb).2.1 d
theorem rI {a b:List bq} (ha:CanU a) (hb:CanU b):(ei a b).length≤a.length+b.length:=(hZ _ a b (Nat.le_refl _) ha hb).2.2.2
def oz (u:bq):List bq→List bq
 | []=>[u]
 | x::r=>if dw u.1 x.1≤0 then u::(x::r).filter (fun y=>decide (y.1 ≠ u.1)) else x::oz u r
theorem tc (a b:bu):dw a b≤0 ↔ aP b a=false:=by
 rw [← Bool.not_eq_true,fD]
 unfold dw
 by_cases h:a.1=b.1
 ·rw [if_pos ((eB _ _).2 h)]
  unfold gS;split <;> (try split) <;> omega
 ·rw [if_neg (fun e=>h ((eB _ _).1 e))]
  unfold gS;split <;> (try split) <;> omega
theorem tQ (a b:bu):dw a b=0 ↔ a=b:=by
 unfold dw
 by_cases h:a.1=b.1
 ·rw [if_pos ((eB _ _).2 h),eB]
  exact ⟨fun e=>Prod.ext h e,fun e=>by rw [e]⟩
 ·rw [if_neg (fun e=>h ((eB _ _).1 e)),eB]
  exact ⟨fun e=>absurd e h,fun e=>by rw [e]⟩
theorem xK {l:List bq} (h:CanU l) (p:bq→Bool):CanU (l.filter p):=⟨fun u hu=>h.rt u (List.mem_filter.1 hu).1,h.srt.filter _⟩
theorem xw {l:List bq} {d e:bu} (h:d ≠ e):cH (l.filter (fun y=>decide (y.1 ≠ e))) d=cH l d:=by
 induction l with
 | nil=>rfl
 | cons u l ih =>
  rw [cH]
  by_cases hu:u.1=e
  ·rw [List.filter_cons_of_neg (by simp [hu]),if_neg (by rw [hu];exact h.symm)];exact ih
  ·rw [List.filter_cons_of_pos (by simp [hu]),cH,ih]
theorem vZ {u:bq} (hu:cL u=true):∀ (l:List bq),CanU l→CanU (oz u l)∧(∀ d,cH (oz u l) d=if d=u.1 then u.2 else cH l d)∧(∀ e:bu,aP e u.1=true→(∀ v ∈ l,aP e v.1=true)→∀ v ∈ oz u l,aP e v.1=true)∧(oz u l).length≤l.length+1
 | [],_=>by
  refine ⟨CanU.nil.cons hu fun v hv=>by simp at hv,fun d=>?_,fun e h _ v hv=>?_,by simp [oz]⟩
  ·show (if u.1=d then u.2 else (0:Int))=if d=u.1 then u.2 else 0
   by_cases e:u.1=d
   ·rw [if_pos e,if_pos e.symm]
   ·rw [if_neg e,if_neg (fun h=>e h.symm)]
  ·simp [oz] at hv;subst hv;exact h
 | x::r,h=>by
  rw [oz]
  by_cases hc:dw u.1 x.1≤0
  ·rw [if_pos hc]
   have hf:∀ v ∈ (x::r).filter (fun y=>decide (y.1 ≠ u.1)),aP u.1 v.1=true:=fun v hv=>by
    obtain ⟨hv,hne⟩:=List.mem_filter.1 hv
    have hne:v.1 ≠ u.1:=by simpa using hne
    have hx:=(tc _ _).1 hc
    rcases List.mem_cons.1 hv with rfl | hv
    ·cases hl:aP u.1 v.1 with
     | true=>rfl
     | false=>exact absurd (dM _ _ hx hl) hne
    ·have h1:=h.head v hv
     cases hl:aP u.1 x.1 with
     | true=>exact dP hl h1
     | false=>rw [dM _ _ hl hx];exact h1
   refine ⟨(xK h _).cons hu hf,fun d=>?_,fun e h1 h2 v hv=>?_,by have:=List.length_filter_le (fun y:bq=>decide (y.1 ≠ u.1)) (x::r);simp only [List.length_cons] at this ⊢;omega⟩
   ·rw [cH]
    by_cases e:u.1=d
    ·rw [if_pos e,if_pos e.symm]
    ·rw [if_neg e,if_neg (fun h=>e h.symm),xw (Ne.symm e)]
   ·rcases List.mem_cons.1 hv with rfl | hv
    ·exact h1
    ·exact h2 v (List.mem_filter.1 hv).1
  ·rw [if_neg hc]
   have hx:aP x.1 u.1=true:=by
    cases hl:aP x.1 u.1 with
    | true=>rfl
    | false=>exact absurd ((tc _ _).2 hl) hc
   obtain ⟨c1,c2,c3,c4⟩:=vZ hu r h.tail
   refine ⟨c1.cons (h.rt x (by simp)) (c3 x.1 hx h.head),fun d=>?_,fun e h1 h2 v hv=>?_,by simp only [List.length_cons];omega⟩
   ·rw [cH,cH,c2]
    by_cases e:x.1=d
    ·rw [if_pos e,if_pos e,if_neg];rw [← e];exact kx hx
    ·rw [if_neg e,if_neg e]
   ·rcases List.mem_cons.1 hv with rfl | hv
    ·exact h2 _ (by simp)
    ·exact c3 e h1 (fun v hv=>h2 v (List.mem_cons_of_mem _ hv)) v hv
def nY (l:List bq) (u:bq):List bq:=if cL u=true∧cH l u.1<u.2 then oz u l else l
theorem wq {l:List bq} (h:CanU l) (u:bq):CanU (nY l u)∧(cL u=true→∀ d,cH (nY l u) d=if d=u.1 then max (cH l d) u.2 else cH l d)∧(nY l u).length≤l.length+1:=by
 unfold nY
 by_cases hu:cL u=true∧cH l u.1<u.2
 ·rw [if_pos hu]
  obtain ⟨c1,c2,_,c4⟩:=vZ hu.1 l h
  refine ⟨c1,fun _ d=>?_,c4⟩
  rw [c2]
  by_cases e:d=u.1
  ·rw [if_pos e,if_pos e,e];omega
  ·rw [if_neg e,if_neg e]
 ·rw [if_neg hu]
  refine ⟨h,fun hr d=>?_,by omega⟩
  by_cases e:d=u.1
  ·rw [if_pos e,e]
   have:¬ cH l u.1<u.2:=fun hh=>hu ⟨hr,hh⟩
   omega
  ·rw [if_neg e]
theorem sQ:∀ (m l:List bq),CanU l→(∀ u ∈ m,cL u=true)→m.Pairwise (fun a b=>aP a.1 b.1=true)→CanU (m.foldl nY l)∧(∀ d,cH (m.foldl nY l) d=max (cH l d) (cH m d))∧(m.foldl nY l).length≤l.length+m.length
 | [],l,h,_,_=>⟨h,fun d=>by have:=(jq h d).1;show cH l d=max (cH l d) 0;omega,by simp⟩
 | u::m,l,h,hr,hs=>by
  obtain ⟨a,b,c⟩:=wq h u
  have hu:=hr u (by simp)
  have hm:=List.pairwise_cons.1 hs
  obtain ⟨p,q,r⟩:=sQ m (nY l u) a (fun v hv=>hr v (List.mem_cons_of_mem _ hv)) hm.2
  simp only [List.foldl_cons,List.length_cons]
  refine ⟨p,fun d=>?_,by omega⟩
  rw [q,b hu,cH]
  by_cases e:u.1=d
  ·have h0:cH m d=0:=by rw [← e];exact lJ hm.1
   have h1:=((cD u).1 hu).2.1
   have h2:=(jq h d).1
   rw [if_pos e,if_pos e.symm,h0];omega
  ·rw [if_neg e,if_neg (fun h=>e h.symm)]
theorem Cm {a b:List bq} (ha:CanU a) (hb:CanU b):b.foldl nY a=ei a b:=by
 obtain ⟨p,q,_⟩:=sQ b a ha hb.rt hb.srt
 exact we p (sY ha hb) fun d=>by rw [q,AC ha hb]
end Go.Proofs.YtfhcammihohmjaaGreatDoor
end
noncomputable section
/- Transactions in order, and states: plain facts. -/
namespace Go.Proofs.YtfhcammihohmjaaGreatDoor
open Pal
abbrev de:=List cG × (List (bu × Int) × (dv × (dv × List (List bu))))
abbrev nx:=List cG × (List (bu × Int) × List bu)
def bQ:List cG→bu→Option cG
 | [],_=>none
 | t::r,d=>if t.1=d then some t else bQ r d
structure CanT (l:List cG):Prop where
 rt:∀ t ∈ l,aK t.1=true
 srt:l.Pairwise (fun a b=>aP a.1 b.1=true)
theorem CanT.nil:CanT []:=⟨fun u hu=>by simp at hu,List.Pairwise.nil⟩
theorem CanT.tail {u:cG} {l:List cG} (h:CanT (u::l)):CanT l:=⟨fun v hv=>h.rt v (List.mem_cons_of_mem _ hv),(List.pairwise_cons.1 h.srt).2⟩
theorem CanT.head {u:cG} {l:List cG} (h:CanT (u::l)):∀ v ∈ l,aP u.1 v.1=true:=(List.pairwise_cons.1 h.srt).1
theorem CanT.cons {u:cG} {l:List cG} (h:CanT l) (h1:aK u.1=true) (h2:∀ v ∈ l,aP u.1 v.1=true):CanT (u::l) :=
 ⟨fun v hv=>by rcases List.mem_cons.1 hv with rfl | hv;exact h1;exact h.rt v hv,List.pairwise_cons.2 ⟨h2,h.srt⟩⟩
theorem jJ {l:List cG} {d:bu}:bQ l d=none ↔ ∀ t ∈ l,t.1 ≠ d:=by
 induction l with
 | nil=>simp [bQ]
 | cons u l ih =>
  rw [bQ]
  by_cases e:u.1=d
  ·rw [if_pos e];simp [e]
  ·rw [if_neg e,ih];simp [e]
theorem ml {l:List cG} {d:bu} {t:cG} (h:bQ l d=some t):t ∈ l∧t.1=d:=by
 induction l with
 | nil=>cases h
 | cons u l ih =>
  rw [bQ] at h
  by_cases e:u.1=d
  ·rw [if_pos e] at h;injection h with h;subst h;exact ⟨by simp,e⟩
  ·rw [if_neg e] at h;exact ⟨List.mem_cons_of_mem _ (ih h).1,(ih h).2⟩
theorem Ai {l:List cG} {t:cG} (h:CanT l) (ht:t ∈ l):bQ l t.1=some t:=by
 induction l with
 | nil=>cases ht
 | cons v l ih =>
  rw [bQ]
  rcases List.mem_cons.1 ht with e | ht
  ·subst e;rw [if_pos rfl]
  ·rw [if_neg (kx (h.head t ht))];exact ih h.tail ht
theorem np {l:List cG} {d:bu}:(bQ l d).isSome=true ↔ ∃ t ∈ l,t.1=d:=by
 cases h:bQ l d with
 | none=>exact ⟨fun h=>(by cases h),fun ⟨t,ht,hd⟩=>absurd hd (jJ.1 h t ht)⟩
 | some t=>exact ⟨fun _=>⟨t,(ml h).1,(ml h).2⟩,fun _=>rfl⟩
def iW (t:cG):List cG→List cG
 | []=>[t]
 | x::r=>if aP x.1 t.1 then x::iW t r else t::x::r
theorem uY {t:cG} (ht:aK t.1=true):∀ (l:List cG),CanT l→(∀ x ∈ l,x.1 ≠ t.1)→CanT (iW t l)∧(∀ d,bQ (iW t l) d=if d=t.1 then some t else bQ l d)∧(∀ e:bu,aP e t.1=true→(∀ v ∈ l,aP e v.1=true)→∀ v ∈ iW t l,aP e v.1=true)∧(iW t l).length=l.length+1
 | [],_,_=>by
  refine ⟨CanT.nil.cons ht fun v hv=>by simp at hv,fun d=>?_,fun e h _ v hv=>?_,rfl⟩
  ·show (if t.1=d then some t else none)=if d=t.1 then some t else none
   by_cases e:t.1=d
   ·rw [if_pos e,if_pos e.symm]
   ·rw [if_neg e,if_neg (fun h=>e h.symm)]
  ·simp [iW] at hv;subst hv;exact h
 | x::r,h,hn=>by
  rw [iW]
  by_cases hc:aP x.1 t.1=true
  ·rw [if_pos hc]
   obtain ⟨c1,c2,c3,c4⟩:=uY ht r h.tail (fun y hy=>hn y (List.mem_cons_of_mem _ hy))
   refine ⟨c1.cons (h.rt x (by simp)) (c3 x.1 hc h.head),fun d=>?_,fun e h1 h2 v hv=>?_,by simp [c4]⟩
   ·rw [bQ,bQ,c2]
    by_cases e:x.1=d
    ·rw [if_pos e,if_pos e,if_neg (fun e2=>hn x (by simp) (e.trans e2))]
    ·rw [if_neg e,if_neg e]
   ·rcases List.mem_cons.1 hv with rfl | hv
    ·exact h2 _ (by simp)
    ·exact c3 e h1 (fun v hv=>h2 v (List.mem_cons_of_mem _ hv)) v hv
  ·rw [if_neg hc]
   have hx:aP t.1 x.1=true:=by
    cases hl:aP t.1 x.1 with
    | true=>rfl
    | false=>exact absurd (dM _ _ (by simpa using hc) hl) (hn x (by simp))
   refine ⟨h.cons ht fun v hv=>?_,fun d=>?_,fun e h1 h2 v hv=>?_,rfl⟩
   ·rcases List.mem_cons.1 hv with rfl | hv
    ·exact hx
    ·exact dP hx (h.head v hv)
   ·rw [bQ]
    by_cases e:t.1=d
    ·rw [if_pos e,if_pos e.symm]
    ·rw [if_neg e,if_neg (fun h=>e h.symm)]
   ·rcases List.mem_cons.1 hv with rfl | hv
    ·exact h1
    ·exact h2 v hv
theorem xL {l:List cG} {t:cG} {p:Nat} (hl:CanT l) (ht:aK t.1=true) (hn:∀ x ∈ l,x.1 ≠ t.1) (hp:p≤l.length) (h1:∀ i (h:i<l.length),i<p→aP l[i].1 t.1=true) (h2:∀ i (h:i<l.length),p≤i→aP l[i].1 t.1=false):eC l (p:Int) (t::[])=iW t l:=by
 show l.take p++(t::l.drop p)=iW t l
 have key:∀ (l:List cG) (p:Nat),p≤l.length→(∀ i (h:i<l.length),i<p→aP l[i].1 t.1=true)→(∀ i (h:i<l.length),p≤i→aP l[i].1 t.1=false)→l.take p++(t::l.drop p)=iW t l:=by
  intro l
  induction l with
  | nil=>intro p hp _ _;simp [iW]
  | cons x r ih =>
   intro p hp h1 h2
   cases p with
   | zero =>
    have:=h2 0 (by simp) (Nat.le_refl _)
    simp only [List.getElem_cons_zero] at this
    simp [iW,this]
   | succ p =>
    have:=h1 0 (by simp) (by omega)
    simp only [List.getElem_cons_zero] at this
    have ih':=ih p (by simpa using hp) (fun i hi hip=>by have:=h1 (i+1) (by simpa using hi) (by omega);simpa using this) (fun i hi hip=>by have:=h2 (i+1) (by simpa using hi) (by omega);simpa using this)
    simp only [List.take_succ_cons,List.drop_succ_cons,List.cons_append,iW,this,if_true]
    rw [ih']
 exact key l p hp h1 h2
structure CanS (s:de):Prop where
 tx:CanT s.1
 un:CanU s.2.1
 kn:Can s.2.2.1
 se:Can s.2.2.2.1
 know:∀ x,m9 s.2.2.1 x ↔ ∃ t ∈ s.1,t.1=x
structure LenS (n:Nat) (s:de):Prop where
 tx:s.1.length≤n
 un:s.2.1.length≤n
 kn:s.2.2.1.2.length≤n
 se:s.2.2.2.1.2.length≤n
 re:∀ l ∈ s.2.2.2.2,l.length≤n
theorem LenS.mono {n m:Nat} {s:de} (h:LenS n s) (hnm:n≤m):LenS m s :=
 ⟨Nat.le_trans h.tx hnm,Nat.le_trans h.un hnm,Nat.le_trans h.kn hnm,Nat.le_trans h.se hnm,fun l hl=>Nat.le_trans (h.re l hl) hnm⟩
def eU (s:de) (t:cG):de:=if (bQ s.1 t.1).isSome then s else (iW t s.1,(s.2.1,(ee s.2.2.1 t.1,s.2.2.2)))
theorem gN {s:de} {t:cG} (hs:CanS s) (ht:aK t.1=true):CanS (eU s t)∧(∀ d,bQ (eU s t).1 d=(bQ s.1 d).or (if d=t.1 then some t else none))∧(eU s t).2.1=s.2.1∧(eU s t).2.2.2=s.2.2.2∧(eU s t).1.length≤s.1.length+1∧(eU s t).2.2.1.2.length≤s.2.2.1.2.length+1:=by
 unfold eU
 by_cases hf:(bQ s.1 t.1).isSome=true
 ·rw [if_pos hf]
  refine ⟨hs,fun d=>?_,rfl,rfl,by omega,by omega⟩
  by_cases e:d=t.1
  ·rw [if_pos e];subst e
   cases h:bQ s.1 t.1 with
   | none=>rw [h] at hf;cases hf
   | some x=>rfl
  ·rw [if_neg e];cases bQ s.1 d <;> rfl
 ·rw [if_neg hf]
  have hn:bQ s.1 t.1=none:=by cases h:bQ s.1 t.1 with
   | none=>rfl
   | some x=>rw [h] at hf;exact absurd rfl hf
  obtain ⟨c1,c2,_,c4⟩:=uY ht s.1 hs.tx (jJ.1 hn)
  obtain ⟨d1,d2,d3⟩:=kM hs.kn t.1
  refine ⟨⟨c1,hs.un,d1,hs.se,fun x=>?_⟩,fun d=>?_,rfl,rfl,by show (iW t s.1).length≤_;omega,d3⟩
  ·show m9 (ee s.2.2.1 t.1) x ↔ ∃ y ∈ iW t s.1,y.1=x
   rw [d2,hs.know,← np,← np,c2]
   by_cases e:x=t.1
   ·rw [if_pos e];simp [e,ht]
   ·rw [if_neg e];simp [e]
  ·show bQ (iW t s.1) d=_
   rw [c2]
   by_cases e:d=t.1
   ·rw [if_pos e,if_pos e,e,hn];rfl
   ·rw [if_neg e,if_neg e];cases bQ s.1 d <;> rfl
theorem wF:∀ (m:List cG) (s:de),CanS s→(∀ t ∈ m,aK t.1=true)→CanS (m.foldl eU s)∧(∀ d,bQ (m.foldl eU s).1 d=(bQ s.1 d).or (bQ m d))∧(m.foldl eU s).2.1=s.2.1∧(m.foldl eU s).2.2.2=s.2.2.2∧(m.foldl eU s).1.length≤s.1.length+m.length∧(m.foldl eU s).2.2.1.2.length≤s.2.2.1.2.length+m.length
 | [],s,hs,_=>⟨hs,fun d=>by show bQ s.1 d=(bQ s.1 d).or none;cases bQ s.1 d <;> rfl,rfl,rfl,by simp,by simp⟩
 | t::m,s,hs,hr=>by
  obtain ⟨a1,a2,a3,a4,a5,a6⟩:=gN hs (hr t (by simp))
  obtain ⟨b1,b2,b3,b4,b5,b6⟩:=wF m (eU s t) a1 (fun x hx=>hr x (List.mem_cons_of_mem _ hx))
  simp only [List.foldl_cons,List.length_cons]
  refine ⟨b1,fun d=>?_,b3.trans a3,b4.trans a4,by omega,by omega⟩
  rw [b2,a2,bQ]
  by_cases e:t.1=d
  ·rw [if_pos e,if_pos e.symm];cases bQ s.1 d <;> rfl
  ·rw [if_neg e,if_neg (fun h=>e h.symm)];cases bQ s.1 d <;> rfl
structure CanDl (d:nx):Prop where
 tx:CanT d.1
 un:CanU d.2.1
 se:∀ x ∈ d.2.2,aK x=true
structure LenD (n:Nat) (d:nx):Prop where
 tx:d.1.length≤n
 un:d.2.1.length≤n
 se:d.2.2.length≤n
def fB (s:de) (l:List (bu × Int)):de:=(s.1,(ei s.2.1 l,s.2.2))
def pe (s:de) (l:List bu):de:=(s.1,(s.2.1,(s.2.2.1,(jo s.2.2.2.1 (gd l),s.2.2.2.2))))
def tf (s:de) (d:nx):de:=pe (fB (d.1.foldl eU s) d.2.1) d.2.2
theorem jy {s:de} {l:List (bu × Int)} (hs:CanS s) (hl:CanU l):CanS (fB s l):=⟨hs.tx,sY hs.un hl,hs.kn,hs.se,hs.know⟩
theorem AX {s:de} {l:List bu} (hs:CanS s):CanS (pe s l):=⟨hs.tx,hs.un,hs.kn,(jt hs.se (fh l).1).1,hs.know⟩
end Go.Proofs.YtfhcammihohmjaaGreatDoor
end
noncomputable section
/- What the program's tally, and the document's, come to. -/
namespace Go.Proofs.YtfhcammihohmjaaGreatDoor
open Pal
theorem EE (a b:bu):aq 0 (dw a b)=aP b a:=by
 rw [Bool.eq_iff_iff]
 show decide (0<dw a b)=true ↔ _
 rw [decide_eq_true_iff]
 have:=tc a b
 constructor
 ·intro h;cases hl:aP b a with
  | true=>rfl
  | false=>have:=this.2 hl;omega
 ·intro h
  by_cases h1:0<dw a b
  ·exact h1
  ·have:=this.1 (by omega);rw [h] at this;cases this
theorem zv (k:Nat) (u:bq):z2i.f k u=some (cL u):=by
 rw [z2i.f_eq,dK]
 simp only [ae]
 unfold cL
 cases aK u.1 with
 | false=>rfl
 | true =>
  simp only [ac,jK,cT,Bool.true_and]
  by_cases h:1≤u.2
  ·rw [if_pos h];simp [h]
  ·rw [if_neg h];simp [h]
theorem G8 (a b:bq):eQ ak a b=decide (a=b):=uj (τ:=ak) rfl a b
theorem vm {l:List bq}:CanU l ↔ ∀ j (h:j<l.length),cL l[j]=true∧∀ h0:0<j,aP (l[j - 1]'(by omega)).1 l[j].1=true:=by
 constructor
 ·intro h j hj
  exact ⟨h.rt _ (List.getElem_mem hj),fun h0=>List.pairwise_iff_getElem.1 h.srt (j - 1) j (by omega) hj (by omega)⟩
 ·intro h
  refine ⟨fun u hu=>?_,List.pairwise_iff_getElem.2 fun i j hi hj hij=>?_⟩
  ·obtain ⟨j,hj,rfl⟩:=List.mem_iff_getElem.1 hu
   exact (h j hj).1
  ·have key:∀ d j (hj:j<l.length) (hd:d+1≤j),aP (l[j - (d+1)]'(by omega)).1 l[j].1=true:=by
    intro d
    induction d with
    | zero=>intro j hj hd;exact (h j hj).2 (by omega)
    | succ d ih =>
     intro j hj hd
     have h1:=ih j hj (by omega)
     have h2:=(h (j - (d+1)) (by omega)).2 (by omega)
     have e:j - (d+1) - 1=j - (d+1+1):=by omega
     simp only [e] at h2
     exact dP h2 h1
   have:=key (j - i - 1) j hj (by omega)
   have e:j - (j - i - 1+1)=i:=by omega
   simpa only [e] using this
def GS (l:List bq) (j:Nat):Prop:=∀ h:j<l.length,cL l[j]=true∧∀ h0:0<j,aP (l[j - 1]'(by omega)).1 l[j].1=true
theorem ir (k:Nat) (l:List bq) (hl:l.length<k) (hk:k<1000000):∃ b,z1f.f k l=some b∧(b=true ↔ CanU l):=by
 obtain ⟨b,hb,hbi⟩:=ep l.length (fun n i=>z1f.l2 k n l (i:Int)) (GS l) (fun n i hi=>by
  simp only [z1f.l2_eq,aO,aQ,au,hi,decide_true,ac,aT (e:=ak) hi,zv,ae]
  cases hu:cL l[i] with
  | false=>exact .inr ⟨fun h=>(by have:=(h hi).1;rw [hu] at this;cases this),rfl⟩
  | true =>
   have e1:ai true=false:=rfl
   have e2:aq 0 (i:Int)=decide (0<i):=bA 0 i
   rw [e1,e2,aB (by omega)]
   simp only [aa]
   by_cases h0:0<i
   ·have hi1:i - 1<l.length:=by omega
    have e3:bw .i64 (i:Int) 1=((i - 1:Nat):Int):=by rw [dx (by omega) (by omega) (by omega) (by omega)];omega
    rw [e3,aQ,au,aT (e:=ak) hi1,iQ]
    simp only [h0,hi1,decide_true,ac,ae,y4]
    cases hd:aP l[i - 1].1 l[i].1 with
    | true=>exact .inl ⟨fun _=>⟨hu,fun _=>hd⟩,rfl⟩
    | false=>exact .inr ⟨fun h=>(by have:=(h hi).2 h0;rw [hd] at this;cases this),rfl⟩
   ·simp only [h0,decide_false,aa]
    exact .inl ⟨fun _=>⟨hu,fun h=>absurd h h0⟩,trivial⟩) (fun n=>by
  simp only [z1f.l2_eq,aO,Nat.lt_irrefl,decide_false,aa]) k 0 (by omega) (by omega)
 rw [z1f.f_eq]
 refine ⟨b,hb,hbi.trans ?_⟩
 rw [vm]
 exact ⟨fun h j hj=>h j (by omega) hj hj,fun h j _ _ hj=>h j hj⟩
theorem EF (k:Nat) (l:List bq) (d:bu) (hl:l.length<k) (hk:k<1000000):z2p.f k l d=some (cH l d):=by
 rw [z2p.f_eq]
 have key:∀ n i,i≤l.length→l.length<n+i→z2p.l2 k n l (i:Int) d=some (cH (l.drop i) d):=by
  intro n
  induction n with
  | zero=>intro i h h';omega
  | succ n ih =>
   intro i h h'
   rw [z2p.l2_eq,aO,aQ,au]
   by_cases hi:i<l.length
   ·rw [aT (e:=ak) hi,List.drop_eq_getElem_cons hi,cH,aB (by omega),yc]
    simp only [hi,decide_true,ac,cT]
    by_cases e:l[i].1=d
    ·rw [if_pos e,if_pos e]
    ·rw [if_neg e,if_neg e];exact ih (i+1) (by omega) (by omega)
   ·rw [List.drop_of_length_le (by omega)]
    simp only [hi,decide_false,aa];rfl
 exact key k 0 (by omega) (by omega)
theorem zD (k:Nat) (u v:bq) (h3:3≤k):z0O.f k u v=some (dw u.1 v.1):=by
 obtain ⟨q,rfl⟩:∃ q,k=q+3:=⟨k - 3,by omega⟩
 rw [z0O.f_eq,fJ];rfl
theorem kU (k:Nat) (h3:3≤k):∀ (n:Nat) (a b x:List bq),a.length+b.length<n→x.length+a.length+b.length<4000000→z1D.l2 k n a b x=some (x++ei a b)
 | 0,a,b,x,h,_=>by omega
 | n+1,[],[],x,h,hx=>by
  rw [z1D.l2_eq,kX]
  simp only [DE,List.length_nil,Nat.lt_irrefl,decide_false,aa,List.append_nil]
 | n+1,[],y::b,x,h,hx=>by
  simp only [List.length_nil,List.length_cons,Nat.zero_add] at h hx
  have hr:bm x (y::[])=true:=iR (by simp only [List.length_cons,List.length_nil];omega)
  rw [z1D.l2_eq]
  simp only [DE,uM,List.length_nil,Nat.lt_irrefl,decide_false,aa,List.length_cons,Nat.zero_lt_succ,decide_true,ac,Fs,GP (e:=ak),hr,pX,md]
  rw [kU k h3 n [] b _ (by simp only [List.length_nil];omega) (by simp only [app,List.length_append,List.length_cons,List.length_nil];omega),kX,kX]
  simp [app]
 | n+1,y::a,[],x,h,hx=>by
  simp only [List.length_nil,List.length_cons,Nat.add_zero] at h hx
  have hr:bm x (y::[])=true:=iR (by simp only [List.length_cons,List.length_nil];omega)
  have e0:(a.length+1=0)=False:=by simp
  rw [z1D.l2_eq]
  simp only [DE,uM,e0,List.length_nil,Nat.lt_irrefl,decide_false,aa,List.length_cons,Nat.zero_lt_succ,decide_true,ac,Fs,GP (e:=ak),hr,pX,md]
  rw [kU k h3 n a [] _ (by simp only [List.length_nil];omega) (by simp only [app,List.length_append,List.length_cons,List.length_nil];omega),lS,lS]
  simp [app]
 | n+1,u::a,v::b,x,h,hx=>by
  simp only [List.length_cons] at h hx
  have hr:∀ y:bq,bm x (y::[])=true:=fun y=>iR (by simp only [List.length_cons,List.length_nil];omega)
  have e0:(a.length+1=0)=False:=by simp
  have e1:(b.length+1=0)=False:=by simp
  rw [z1D.l2_eq,qP]
  simp only [DE,uM,e0,e1,decide_false,aa,List.length_cons,Nat.zero_lt_succ,decide_true,ac,Fs,GP (e:=ak),hr,pX,md,zD k _ _ h3,ae,iP,EE,zu]
  cases h1:aP u.1 v.1 with
  | true =>
   simp only [ac,if_true]
   rw [kU k h3 n a (v::b) _ (by simp only [List.length_cons];omega) (by simp only [app,List.length_append,List.length_cons,List.length_nil];omega)]
   simp [app]
  | false =>
   cases h2:aP v.1 u.1 with
   | true =>
    simp only [ac,aa,if_true]
    rw [kU k h3 n (u::a) b _ (by simp only [List.length_cons];omega) (by simp only [app,List.length_append,List.length_cons,List.length_nil];omega)]
    simp [app]
   | false =>
    simp only [aa]
    rw [kU k h3 n a b _ (by omega) (by simp only [app,List.length_append,List.length_cons,List.length_nil];omega)]
    simp [app]
theorem CR (k:Nat) (a b:List bq) (h3:3≤k) (hl:a.length+b.length<k) (hk:k<1000000):z1D.f k a b=some (ei a b):=by
 rw [z1D.f_eq,kU k h3 k a b [] hl (by simp only [List.length_nil];omega)];rfl
theorem kN (k : Nat) (l : List bq) (u : bq) (hl : l.length < 1000000) : ∀ (n i : Nat) (x : List bq) (b : Bool), i ≤ l.length → l.length < n + i → x.length ≤ i + b.toNat →
    z2r.l6 k n l x b (i:Int) u=some (x++if b then (l.drop i).filter (fun y=>decide (y.1 ≠ u.1)) else oz u (l.drop i))
  | 0,i,_,_,h,h',_=>by omega
  | n + 1, i, x, b, h, h', hx => by
    rw [z2r.l6_eq,aO,aQ,au]
    have hb:b.toNat≤1:=by cases b <;> decide
    have t1:true.toNat=1:=rfl
    have t0:false.toNat=0:=rfl
    have hr:∀ y:bq,bm x (y::[])=true:=fun y=>iR (by simp only [List.length_cons,List.length_nil];omega)
    have hr2:∀ y z:bq,bm (app x (y::[])) (z::[])=true:=fun y z=>iR (by simp only [app,List.length_append,List.length_cons,List.length_nil];omega)
    by_cases hi:i<l.length
    · rw [aT (e:=ak) hi,iQ,List.drop_eq_getElem_cons hi,aB (by omega)]
      simp only [hi,decide_true,ac,ae,hr,hr2,aW,tQ,bB,jK]
      have hlen:∀ y:bq,(app x (y::[])).length=x.length+1:=fun y=>by simp [app]
      cases b with
      | true =>
        have e:ai true=false:=rfl
        simp only [e,aa,if_true,cT]
        by_cases he:u.1=l[i].1
        · rw [if_neg (by simpa using he),kN k l u hl n (i+1) x true (by omega) (by omega) (by simp only [t1] at hx ⊢;omega),List.filter_cons_of_neg (by simp [he])]
          rfl
        · rw [if_pos he,kN k l u hl n (i+1) _ true (by omega) (by omega) (by rw [hlen];simp only [t0,t1] at hx ⊢;omega),List.filter_cons_of_pos (by simpa using fun h=>he h.symm)]
          simp [app]
      | false =>
        have e:ai false=true:=rfl
        simp only [e,ac,cT]
        rw [oz]
        by_cases hc:dw u.1 l[i].1≤0
        · rw [if_pos hc,if_pos hc]
          by_cases he:u.1=l[i].1
          · rw [if_neg (by simpa using he),kN k l u hl n (i+1) _ true (by omega) (by omega) (by rw [hlen];simp only [t0,t1] at hx ⊢;omega),List.filter_cons_of_neg (by simp [he])]
            simp [app]
          · rw [if_pos he,kN k l u hl n (i+1) _ true (by omega) (by omega) (by simp only [app,List.length_append,List.length_cons,List.length_nil,t0,t1] at hx ⊢;omega),List.filter_cons_of_pos (by simpa using fun h=>he h.symm)]
            simp [app]
        · have he:¬ u.1=l[i].1:=fun e=>hc (by rw [(tQ _ _).2 e];omega)
          rw [if_neg hc,if_neg hc,if_pos he,kN k l u hl n (i+1) _ false (by omega) (by omega) (by rw [hlen];simp only [t0,t1] at hx ⊢;omega)]
          simp [app]
    · rw [List.drop_of_length_le (by omega)]
      simp only [hi,decide_false,aa,hr]
      cases b with
      | true => have e : ai true = false := rfl
                simp [e,aa]
      | false => have e : ai false = true := rfl
                 simp [e,ac,app,oz]
theorem Cv (k:Nat) (l:List bq) (u:bq) (hl:l.length<k) (hk:k<1000000):z2r.f k l u=some (nY l u):=by
 rw [z2r.f_eq,zv]
 simp only [ae]
 unfold nY
 cases hu:cL u with
 | false=>simp [ai,ac]
 | true =>
  have e:ai true=false:=rfl
  rw [e,EF k l _ hl hk]
  simp only [aa,ae,jK,cT,true_and]
  by_cases h:u.2≤cH l u.1
  ·rw [if_pos h,if_neg (by omega)]
  ·rw [if_neg h,if_pos (by omega)]
   have:=kN k l u (by omega) k 0 [] false (by omega) (by omega) (by simp)
   simpa using this
theorem A8 (k:Nat) (a b:List bq) (ha:CanU a) (hl:a.length+b.length<k) (hk:k<1000000):z1T.f k a b=some (b.foldl nY a):=by
 rw [z1T.f_eq]
 have key:∀ n i (x:List bq),i≤b.length→b.length<n+i→CanU x→x.length+(b.length - i)<k→z1T.l3 k n b x (i:Int)=some ((b.drop i).foldl nY x):=by
  intro n
  induction n with
  | zero=>intro i x h h';omega
  | succ n ih =>
   intro i x h h' hx hxl
   rw [z1T.l3_eq,aO,aQ,au]
   by_cases hi:i<b.length
   ·rw [aT (e:=ak) hi,Cv k x _ (by omega) hk,List.drop_eq_getElem_cons hi,aB (by omega)]
    simp only [hi,decide_true,ac,ae,List.foldl_cons]
    obtain ⟨c1,_,c3⟩:=wq hx b[i]
    exact ih (i+1) _ (by omega) (by omega) c1 (by omega)
   ·rw [List.drop_of_length_le (by omega)]
    simp only [hi,decide_false,aa,List.foldl_nil]
 exact key k 0 a (by omega) (by omega) ha (by omega)
theorem AN (k:Nat) (a b:List bq) (hl:a.length<k) (hk:k<1000000):z1H.f k a b=some (decide (a=b)):=by
 rw [z1H.f_eq,mM,bB]
 by_cases h:a.length=b.length
 ·simp only [h,not_true,decide_false,aa]
  exact j6 a b h (fun n i=>z1H.l4 k n a b (i:Int)) (fun n i hi hi'=>by
   simp only [z1H.l4_eq,aO,aQ,au,hi,hi',decide_true,ac,aT (e:=ak) hi,aT (e:=ak) hi',G8,bB,cT,aB (show i<4611686018427387904 by omega)]
   by_cases e:a[i]=b[i] <;> simp [e]) (fun n=>by simp only [z1H.l4_eq,aO,Nat.lt_irrefl,decide_false,aa]) k (by omega)
 ·have:a ≠ b:=fun e=>h (by rw [e])
  simp only [h,this,not_false_eq_true,decide_true,decide_false,ac]
end Go.Proofs.YtfhcammihohmjaaGreatDoor
end
noncomputable section
/- States: what the program's functions, and the document's, come to. -/
namespace Go.Proofs.YtfhcammihohmjaaGreatDoor
open Pal
theorem uA (a b:bu):az (dw a b) 0=decide (a=b):=by
 rw [aW];exact decide_eq_decide.2 (tQ a b)
def Bm (l:List cG) (d:bu) (p:Nat) (b:Bool):Prop :=
 p≤l.length∧(∀ t (h:t<l.length),t<p→aP l[t].1 d=true)∧(∀ t (h:t<l.length),p≤t→aP l[t].1 d=false)∧b=(bQ l d).isSome
theorem B6 (k:Nat) (l:List cG) (d:bu) (h3:3≤k) (hl:l.length<k) (hk:k<1000000) (hs:CanT l):∃ p b,Bm l d p b∧z01.f k l d=some ((p:Int),b):=by
 obtain ⟨q,rfl⟩:∃ q,k=q+3:=⟨k - 3,by omega⟩
 rw [z01.f_eq]
 obtain ⟨p,h1,h2,h4,h5⟩:=u9 l (fun t=>aP t.1 d) (hs.srt.imp fun {a b} hab hb=>dP hab hb) (fun n i j=>z01.l3 (q+3) n l (af l) (i:Int) (j:Int) d) (fun p=>some ((p:Int),match l[p]? with | some t=>decide (t.1=d) | none=>false)) (fun n i j hij hj hm=>by
  have e1:aq (i:Int) (j:Int)=decide (i<j):=bA i j
  have e3:aH .i64 (((i+j) / 2:Nat):Int) 1=(((i+j) / 2+1:Nat):Int):=aB (by omega)
  simp only [z01.l3_eq,e1,xg (show i+j<1000000000 by omega),hij,decide_true,ac,aQ,au,hm,aT (e:=aJ) hm,z1J.f_eq,fJ,ae,iP,e3]
  cases aP l[(i+j) / 2].1 d <;> rfl) (fun n i hi=>by
  have e1:aq (i:Int) (i:Int)=false:=decide_eq_false (by omega)
  simp only [z01.l3_eq,e1,aa,aO,aQ,au]
  by_cases h:i<l.length
  ·simp only [h,decide_true,ac,aT (e:=aJ) h,z1J.f_eq,fJ,ae,uA,List.getElem?_eq_getElem h]
  ·simp only [h,decide_false,aa,List.getElem?_eq_none (show l.length≤i by omega)]) (q+3) 0 l.length (by omega) (Nat.le_refl _) (by omega) (fun t _ h=>by omega) (fun t h h'=>by omega)
 refine ⟨p,_,⟨h1,h2,h4,?_⟩,h5⟩
 rw [Bool.eq_iff_iff,np]
 constructor
 ·intro h
  split at h
  ·rename_i t ht
   exact ⟨t,List.mem_of_getElem? ht,of_decide_eq_true h⟩
  ·cases h
 ·rintro ⟨t,ht,hd⟩
  obtain ⟨j,hj,rfl⟩:=List.mem_iff_getElem.1 ht
  have hpj:¬ j<p:=fun hh=>by have:=h2 j hj hh;rw [hd,cE.irrefl] at this;cases this
  have hjp:¬ p<j:=fun hh=>by
   have hlt:=List.pairwise_iff_getElem.1 hs.srt p j (by omega) hj hh
   rw [hd] at hlt
   have:=h4 p (by omega) (Nat.le_refl _)
   rw [hlt] at this;cases this
  have:j=p:=by omega
  subst this
  rw [List.getElem?_eq_getElem hj];exact decide_eq_true hd
theorem DF (k:Nat) (l:List cG) (d:bu) (h3:3≤k) (hl:l.length<k) (hk:k<1000000) (hs:CanT l):∃ p b,Bm l d p b∧z02.f k l d=some ((p:Int),b):=by
 obtain ⟨q,rfl⟩:∃ q,k=q+3:=⟨k - 3,by omega⟩
 rw [z02.f_eq]
 obtain ⟨p,h1,h2,h4,h5⟩:=u9 l (fun t=>aP t.1 d) (hs.srt.imp fun {a b} hab hb=>dP hab hb) (fun n i j=>z02.l3 (q+3) n l (af l) (i:Int) (j:Int) d) (fun p=>some ((p:Int),match l[p]? with | some t=>decide (t.1=d) | none=>false)) (fun n i j hij hj hm=>by
  have e1:aq (i:Int) (j:Int)=decide (i<j):=bA i j
  have e3:aH .i64 (((i+j) / 2:Nat):Int) 1=(((i+j) / 2+1:Nat):Int):=aB (by omega)
  simp only [z02.l3_eq,e1,xg (show i+j<1000000000 by omega),hij,decide_true,ac,aQ,au,hm,aT (e:=aJ) hm,z2q.f_eq,fJ,ae,iP,e3]
  cases aP l[(i+j) / 2].1 d <;> rfl) (fun n i hi=>by
  have e1:aq (i:Int) (i:Int)=false:=decide_eq_false (by omega)
  simp only [z02.l3_eq,e1,aa,aO,aQ,au]
  by_cases h:i<l.length
  ·simp only [h,decide_true,ac,aT (e:=aJ) h,z2q.f_eq,fJ,ae,uA,List.getElem?_eq_getElem h]
  ·simp only [h,decide_false,aa,List.getElem?_eq_none (show l.length≤i by omega)]) (q+3) 0 l.length (by omega) (Nat.le_refl _) (by omega) (fun t _ h=>by omega) (fun t h h'=>by omega)
 refine ⟨p,_,⟨h1,h2,h4,?_⟩,h5⟩
 rw [Bool.eq_iff_iff,np]
 constructor
 ·intro h
  split at h
  ·rename_i t ht
   exact ⟨t,List.mem_of_getElem? ht,of_decide_eq_true h⟩
  ·cases h
 ·rintro ⟨t,ht,hd⟩
  obtain ⟨j,hj,rfl⟩:=List.mem_iff_getElem.1 ht
  have hpj:¬ j<p:=fun hh=>by have:=h2 j hj hh;rw [hd,cE.irrefl] at this;cases this
  have hjp:¬ p<j:=fun hh=>by
   have hlt:=List.pairwise_iff_getElem.1 hs.srt p j (by omega) hj hh
   rw [hd] at hlt
   have:=h4 p (by omega) (Nat.le_refl _)
   rw [hlt] at this;cases this
  have:j=p:=by omega
  subst this
  rw [List.getElem?_eq_getElem hj];exact decide_eq_true hd
theorem Em (k:Nat) (l:List cG) (d:bu) (h3:3≤k) (hl:l.length<k) (hk:k<1000000) (hs:CanT l):∃ r:Int,z2S.f k l d=some r∧(0≤r ↔ (bQ l d).isSome=true):=by
 obtain ⟨p,b,hf,h⟩:=B6 k l d h3 hl hk hs
 rw [z2S.f_eq,h]
 simp only [ae]
 have hb:=hf.2.2.2
 cases b with
 | true=>exact ⟨(p:Int),rfl,⟨fun _=>hb.symm,fun _=>by omega⟩⟩
 | false=>exact ⟨-1,rfl,⟨fun h=>by omega,fun h=>by rw [← hb] at h;cases h⟩⟩
theorem DV (k:Nat) (l:List cG) (t:cG) (h3:3≤k) (hl:l.length+1<k) (hk:k<1000000) (hs:CanT l) (ht:aK t.1=true):z38.f k l t=some (if (bQ l t.1).isSome then l else iW t l):=by
 obtain ⟨p,b,hf,h⟩:=DF k l t.1 h3 (by omega) hk hs
 rw [z38.f_eq,h]
 simp only [ae]
 have hb:=hf.2.2.2
 rw [← hb]
 cases b with
 | true=>rfl
 | false =>
  have hn:∀ x ∈ l,x.1 ≠ t.1:=jJ.1 (by cases hq:bQ l t.1 with
   | none=>rfl
   | some x=>rw [hq] at hb;cases hb)
  have r1:bm ([]:List Int) l=true:=iR (by simp only [List.length_nil];omega)
  have r2:bm l (t::[])=true:=iR (by simp only [List.length_cons,List.length_nil];omega)
  have hin:eE 0 (p:Int) (af l)=true:=by
   have h1:(p:Int)≤(l.length:Int):=by have:=hf.1;omega
   show (decide ((0:Int)≤0) && decide ((0:Int)≤(p:Int)) && decide ((p:Int)≤(l.length:Int)))=true
   rw [decide_eq_true h1,decide_eq_true (show (0:Int)≤(p:Int) by omega)];rfl
  rw [r1,r2,hin]
  simp only [ac,aa]
  rw [xL hs ht hn hf.1 hf.2.1 hf.2.2.1];rfl
theorem zG (k:Nat) (s:de) (t:cG) {n:Nat} (h3:3≤k) (ls:LenS n s) (hl:n+1<k) (hk:k<1000000) (hs:CanS s) (ht:aK t.1=true):z2f.f k s t=some (eU s t):=by
 have:=ls.tx;have:=ls.kn
 obtain ⟨r,hr,hri⟩:=Em k s.1 t.1 h3 (by omega) hk hs.tx
 rw [z2f.f_eq,hr]
 simp only [ae]
 unfold eU
 by_cases hf:(bQ s.1 t.1).isSome=true
 ·rw [if_pos hf]
  have e:bM 0 r=true:=decide_eq_true (hri.2 hf)
  rw [e];rfl
 ·rw [if_neg hf]
  have e:bM 0 r=false:=decide_eq_false (fun h=>hf (hri.1 h))
  rw [e,DV k s.1 t h3 (by omega) hk hs.tx ht,Fb k s.2.2.1 t.1 h3 (by omega) hk hs.kn,if_neg hf]
  rfl
theorem nN (k:Nat) (s:de) (l:List (bu × Int)) {n m:Nat} (h3:3≤k) (ls:LenS n s) (hl:l.length≤m) (hnm:n+m<k) (hk:k<1000000):z19.f k s l=some (fB s l):=by
 have:=ls.un
 rw [z19.f_eq,CR k s.2.1 l h3 (by omega) hk];rfl
theorem CD {s:de} {n:Nat}:∀ (m:List cG),CanS s→LenS n s→(∀ t ∈ m,aK t.1=true)→LenS (n+m.length) (m.foldl eU s):=by
 intro m hs ls hr
 obtain ⟨b1,b2,b3,b4,b5,b6⟩:=wF m s hs hr
 refine ⟨?_,?_,?_,?_,?_⟩
 ·have:=ls.tx;omega
 ·rw [b3];have:=ls.un;omega
 ·have:=ls.kn;omega
 ·rw [b4];have:=ls.se;omega
 ·rw [b4];intro l hl;have:=ls.re l hl;omega
theorem A6 (k:Nat) (s:de) (d:nx) {n m:Nat} (h17:17<k) (hs:CanS s) (hd:CanDl d) (ls:LenS n s) (ld:LenD m d) (hnm:n+m+m<k) (hk:k<1000000):z0T.f k s d=some (tf s d):=by
 have:=ld.tx;have:=ld.un;have:=ld.se
 rw [z0T.f_eq]
 have key:∀ n' i (x:de),i≤d.1.length→d.1.length<n'+i→CanS x→LenS (n+i) x→z0T.l2 k n' d.1 (af d.1) (i:Int) x d [] [] (aV 16 0) [] (aV 16 0) [] (aV 8 [])=some (pe (fB ((d.1.drop i).foldl eU x) d.2.1) d.2.2):=by
  intro n'
  induction n' with
  | zero=>intro i x h h';omega
  | succ n' ih =>
   intro i x h h' hx hxl
   rw [z0T.l2_eq,aO,aQ,au]
   by_cases hi:i<d.1.length
   ·have hrt:=hd.tx.rt _ (List.getElem_mem hi)
    have e3:aH .i64 (i:Int) 1=((i+1:Nat):Int):=aB (by omega)
    rw [aT (e:=aJ) hi,zG k x _ (by omega) hxl (by omega) hk hx hrt,e3,List.drop_eq_getElem_cons hi]
    simp only [hi,decide_true,ac,ae,List.foldl_cons]
    refine ih (i+1) _ (by omega) (by omega) (gN hx hrt).1 ?_
    have:=CD (s:=x) (n:=n+i) [d.1[i]] hx hxl (fun t ht=>by simp at ht;subst ht;exact hrt)
    simpa [Nat.add_assoc] using this
   ·rw [List.drop_of_length_le (by omega)]
    simp only [hi,decide_false,aa,List.foldl_nil]
    rw [nN k x d.2.1 (m:=m) (by omega) hxl (by omega) (by omega) hk]
    simp only [ae]
    have hr:=jy hx hd.un
    have hrl:LenS (n+i+m) (fB x d.2.1):=⟨by show x.1.length≤_;have:=hxl.tx;omega,by show (ei x.2.1 d.2.1).length≤_;have:=rI hx.un hd.un;have:=hxl.un;omega,by show x.2.2.1.2.length≤_;have:=hxl.kn;omega,by show x.2.2.2.1.2.length≤_;have:=hxl.se;omega,fun l hl=>by have:=hxl.re l hl;omega⟩
    obtain ⟨c1,_,c3⟩:=fh d.2.2
    have:=hxl.se
    rw [z2d.f_eq,Bk k d.2.2 (by omega) hk]
    simp only [ae]
    rw [Bg k _ (gd d.2.2) hr.se c1 (by show x.2.2.2.1.2.length+(gd d.2.2).2.length<k;omega) h17 hk];rfl
 exact key k 0 s (by omega) (by omega) hs (by simpa using ls)
theorem td (a b:xX):eQ cC a b=decide (a=b):=uj (τ:=cC) rfl a b
theorem vT (k:Nat) (a b:List iG) (hl:a.length<k) (hk:k<1000000):z1P.f k a b=some (decide (a=b)):=by
 rw [z1P.f_eq,mM,bB]
 by_cases h:a.length=b.length
 ·simp only [h,not_true,decide_false,aa]
  exact j6 a b h (fun n i=>z1P.l4 k n a b (i:Int)) (fun n i hi hi'=>by
   simp only [z1P.l4_eq,aO,aQ,au,hi,hi',decide_true,ac,aT (e:=.str) hi,aT (e:=.str) hi',mJ,bB,cT,aB (show i<4611686018427387904 by omega)]
   by_cases e:a[i]=b[i] <;> simp [e]) (fun n=>by simp only [z1P.l4_eq,aO,Nat.lt_irrefl,decide_false,aa]) k (by omega)
 ·have:a ≠ b:=fun e=>h (by rw [e])
  simp only [h,this,not_false_eq_true,decide_true,decide_false,ac]
theorem Gb (a b:Op):a=b ↔ a.1=b.1∧a.2.2.1=b.2.2.1∧a.2.2.2.1=b.2.2.2.1∧a.2.1=b.2.1∧a.2.2.2.2=b.2.2.2.2:=by
 obtain ⟨a1,a2,a3,a4,a5⟩:=a;obtain ⟨b1,b2,b3,b4,b5⟩:=b
 simp only [Prod.mk.injEq]
 exact ⟨fun ⟨h1,h2,h3,h4,h5⟩=>⟨h1,h3,h4,h2,h5⟩,fun ⟨h1,h3,h4,h2,h5⟩=>⟨h1,h2,h3,h4,h5⟩⟩
structure LenO (n:Nat) (o:Op):Prop where
 path:o.2.1.length<n
 seen:o.2.2.2.2.length<n
theorem xW (k:Nat) (a b:Op) (hl:LenO k a) (hk:k<1000000):z1M.f k a b=some (decide (a=b)):=by
 have:=hl.seen
 rw [z1M.f_eq,vT k a.2.1 b.2.1 hl.path hk]
 simp only [aW,td,bB,ae,cT,af,Int.natCast_inj]
 rw [show decide (a=b)=decide (a.1=b.1∧a.2.2.1=b.2.2.1∧a.2.2.2.1=b.2.2.2.1∧a.2.1=b.2.1∧a.2.2.2.2=b.2.2.2.2) from decide_eq_decide.2 (Gb a b)]
 by_cases h1:a.1=b.1
 ·by_cases h2:a.2.2.1=b.2.2.1
  ·by_cases h3:a.2.2.2.1=b.2.2.2.1
   ·by_cases h4:a.2.1=b.2.1
    ·by_cases h5:a.2.2.2.2.length=b.2.2.2.2.length
     ·simp only [h1,h2,h3,h4,h5,not_true,if_false,true_and]
      exact j6 a.2.2.2.2 b.2.2.2.2 h5 (fun n i=>z1M.l4 k n (i:Int) a b) (fun n i hi hi'=>by
       simp only [z1M.l4_eq,aO,aQ,au,hi,hi',decide_true,ac,aT (e:=ak) hi,aT (e:=ak) hi',G8,bB,cT,aB (show i<4611686018427387904 by omega)]
       by_cases e:a.2.2.2.2[i]=b.2.2.2.2[i] <;> simp [e]) (fun n=>by simp only [z1M.l4_eq,aO,Nat.lt_irrefl,decide_false,aa]) k (by omega)
     ·have:a.2.2.2.2 ≠ b.2.2.2.2:=fun e=>h5 (by rw [e])
      simp [h1,h2,h3,h4,h5,this]
    ·simp [h1,h2,h3,h4]
   ·simp [h1,h2,h3]
  ·simp [h1,h2]
 ·simp [h1]
theorem y0 (a b:bu):eQ ah a b=decide (a=b):=yc a b
theorem Ed (a b:Bool):eQ .bool a b=decide (a=b):=by cases a <;> cases b <;> rfl
theorem FB (a b:cG):a=b ↔ a.1=b.1∧a.2.1=b.2.1∧a.2.2.1=b.2.2.1∧a.2.2.2.1=b.2.2.2.1∧a.2.2.2.2=b.2.2.2.2:=by
 obtain ⟨a1,a2,a3,a4,a5⟩:=a;obtain ⟨b1,b2,b3,b4,b5⟩:=b
 simp only [Prod.mk.injEq]
structure LenT (n:Nat) (t:cG):Prop where
 ops:t.2.2.2.2.length<n
 each:∀ o ∈ t.2.2.2.2,LenO n o
theorem wa (k:Nat) (a b:cG) (hl:LenT k a) (hk:k<1000000):z2a.f k a b=some (decide (a=b)):=by
 have:=hl.ops
 rw [z2a.f_eq]
 simp only [aW,y0,Ed,bB,ae,cT,af,Int.natCast_inj]
 rw [show decide (a=b)=decide (a.1=b.1∧a.2.1=b.2.1∧a.2.2.1=b.2.2.1∧a.2.2.2.1=b.2.2.2.1∧a.2.2.2.2=b.2.2.2.2) from decide_eq_decide.2 (FB a b)]
 by_cases h1:a.1=b.1
 ·by_cases h2:a.2.1=b.2.1
  ·by_cases h3:a.2.2.1=b.2.2.1
   ·by_cases h4:a.2.2.2.1=b.2.2.2.1
    ·by_cases h5:a.2.2.2.2.length=b.2.2.2.2.length
     ·simp only [h1,h2,h3,h4,h5,not_true,if_false,true_and]
      exact j6 a.2.2.2.2 b.2.2.2.2 h5 (fun n i=>z2a.l4 k n (i:Int) a b) (fun n i hi hi'=>by
       simp only [z2a.l4_eq,aO,aQ,au,hi,hi',decide_true,ac,aT (e:=eJ) hi,aT (e:=eJ) hi',xW k _ _ (hl.each _ (List.getElem_mem hi)) hk,ae,bB,cT,aB (show i<4611686018427387904 by omega)]
       by_cases e:a.2.2.2.2[i]=b.2.2.2.2[i] <;> simp [e]) (fun n=>by simp only [z2a.l4_eq,aO,Nat.lt_irrefl,decide_false,aa]) k (by omega)
     ·have:a.2.2.2.2 ≠ b.2.2.2.2:=fun e=>h5 (by rw [e])
      simp [h1,h2,h3,h4,h5,this]
    ·simp [h1,h2,h3,h4]
   ·simp [h1,h2,h3]
  ·simp [h1,h2]
 ·simp [h1]
theorem xC (k:Nat) (a b:List cG) (hl:a.length<k) (he:∀ t ∈ a,LenT k t) (hk:k<1000000):z2n.f k a b=some (decide (a=b)):=by
 rw [z2n.f_eq,mM,bB]
 by_cases h:a.length=b.length
 ·simp only [h,not_true,decide_false,aa]
  exact j6 a b h (fun n i=>z2n.l4 k n a b (i:Int)) (fun n i hi hi'=>by
   simp only [z2n.l4_eq,aO,aQ,au,hi,hi',decide_true,ac,aT (e:=aJ) hi,aT (e:=aJ) hi',wa k _ _ (he _ (List.getElem_mem hi)) hk,ae,bB,cT,aB (show i<4611686018427387904 by omega)]
   by_cases e:a[i]=b[i] <;> simp [e]) (fun n=>by simp only [z2n.l4_eq,aO,Nat.lt_irrefl,decide_false,aa]) k (by omega)
 ·have:a ≠ b:=fun e=>h (by rw [e])
  simp only [h,this,not_false_eq_true,decide_true,decide_false,ac]
theorem DQ (s u:de) (hs:s.2.2.2.2.length=8) (hu:u.2.2.2.2.length=8):s=u ↔ (∀ i,0≤i→i<8→s.2.2.2.2[i]? = u.2.2.2.2[i]?)∧s.1=u.1∧s.2.1=u.2.1∧s.2.2.1=u.2.2.1∧s.2.2.2.1=u.2.2.2.1:=by
 obtain ⟨a1,a2,a3,a4,a5⟩:=s;obtain ⟨b1,b2,b3,b4,b5⟩:=u
 simp only at hs hu ⊢
 constructor
 ·intro h;injection h with h1 h;injection h with h2 h;injection h with h3 h;injection h with h4 h5
  exact ⟨fun i _ _=>by rw [h5],h1,h2,h3,h4⟩
 ·rintro ⟨h5,h1,h2,h3,h4⟩
  have:a5=b5:=List.ext_getElem? fun i=>by
   by_cases hi:i<8
   ·exact h5 i (by omega) hi
   ·rw [List.getElem?_eq_none (by omega),List.getElem?_eq_none (by omega)]
  rw [h1,h2,h3,h4,this]
theorem t7 (k:Nat) (s u:de) {n:Nat} (ls:LenS n s) (he:∀ t ∈ s.1,LenT k t) (hs:s.2.2.2.2.length=8) (hu:u.2.2.2.2.length=8) (hn:n<k) (h17:17<k) (hk:k<1000000):∃ b,z1W.f k s u=some b∧(b=true ↔ s=u):=by
 have:=ls.tx;have:=ls.un;have:=ls.kn;have:=ls.se
 rw [z1W.f_eq]
 obtain ⟨b,hb,hbi⟩:=iz 8 (fun n i=>z1W.l2 k n (i:Int) s u) (fun i=>s.2.2.2.2[i]? = u.2.2.2.2[i]?) (fun n' i hi=>by
  have e1:aq (i:Int) 8=decide (i<8):=bA i 8
  have e2:gh (i:Int) 8=decide (i<8):=dS i 8
  have hi1:i<s.2.2.2.2.length:=by omega
  have hi2:i<u.2.2.2.2.length:=by omega
  have hlen:=ls.re _ (List.getElem_mem hi1)
  have e3:aH .i64 (i:Int) 1=((i+1:Nat):Int):=aB (by omega)
  simp only [z1W.l2_eq,e1,e2,hi,decide_true,ac,au,aT (e:=.slc ah) hi1,aT (e:=.slc ah) hi2,GB k _ _ (show (s.2.2.2.2[i]).length<k by omega) hk,ae,bB,cT,e3]
  by_cases h:s.2.2.2.2[i]=u.2.2.2.2[i]
  ·exact .inl ⟨by rw [List.getElem?_eq_getElem hi1,List.getElem?_eq_getElem hi2,h],if_neg (by simpa using h)⟩
  ·exact .inr ⟨fun hh=>by rw [List.getElem?_eq_getElem hi1,List.getElem?_eq_getElem hi2] at hh;exact h (Option.some.inj hh),if_pos h⟩)
  (some (decide (s.1=u.1∧s.2.1=u.2.1∧s.2.2.1=u.2.2.1∧s.2.2.2.1=u.2.2.2.1))) (s.1=u.1∧s.2.1=u.2.1∧s.2.2.1=u.2.2.1∧s.2.2.2.1=u.2.2.2.1) ⟨_,rfl,by simp⟩ (fun n'=>by
  have e1:aq ((8:Nat):Int) 8=false:=rfl
  simp only [z1W.l2_eq,e1,aa,xC k s.1 u.1 (by omega) he hk,AN k s.2.1 u.2.1 (by omega) hk,pE k s.2.2.1 u.2.2.1 (by omega) hk,pE k s.2.2.2.1 u.2.2.2.1 (by omega) hk,ae,cT]
  by_cases h1:s.1=u.1 <;> by_cases h2:s.2.1=u.2.1 <;> by_cases h3:s.2.2.1=u.2.2.1 <;> simp [h1,h2,h3]) k 0 (by omega) (by omega)
 exact ⟨b,hb,hbi.trans (DQ s u hs hu).symm⟩
end Go.Proofs.YtfhcammihohmjaaGreatDoor
end
noncomputable section
/- Which states and deltas the document calls good: what is known of them. -/
namespace Go.Proofs.YtfhcammihohmjaaGreatDoor
open Pal
def F0 (l:List cG) (j:Nat):Prop:=∀ h:j+1<l.length,aP (l[j]'(by omega)).1 l[j+1].1=true
theorem yG {l:List cG}:l.Pairwise (fun a b=>aP a.1 b.1=true) ↔ ∀ j,0≤j→j<l.length - 1→F0 l j:=by
 constructor
 ·intro h j h1 h2 hj
  exact List.pairwise_iff_getElem.1 h j (j+1) (by omega) hj (by omega)
 ·intro h
  refine List.pairwise_iff_getElem.2 fun i j hi hj hij=>?_
  have key:∀ d i (hd:i+d+1<l.length),aP (l[i]'(by omega)).1 l[i+d+1].1=true:=by
   intro d
   induction d with
   | zero=>intro i hd;exact h i (by omega) (by omega) hd
   | succ d ih =>
    intro i hd
    exact dP (ih i (by omega)) (h (i+d+1) (by omega) (by omega) (by omega))
  have:=key (j - i - 1) i (by omega)
  have e:i+(j - i - 1)+1=j:=by omega
  simpa only [e] using this
theorem sK (k:Nat) (l:List cG) (hl:l.length<k) (hk:k<1000000):∃ b,z1y.f k l=some b∧(b=true ↔ l.Pairwise (fun a b=>aP a.1 b.1=true)):=by
 rw [z1y.f_eq]
 obtain ⟨b,hb,hbi⟩:=ep (l.length - 1) (fun n i=>z1y.l2 k n l ((i+1:Nat):Int)) (F0 l) (fun n i hi=>by
  have hi0:i<l.length:=by omega
  have hi1:i+1<l.length:=by omega
  have e3:bw .i64 ((i+1:Nat):Int) 1=(i:Int):=by rw [dx (by omega) (by omega) (by omega) (by omega)];omega
  have e4:aH .i64 ((i+1:Nat):Int) 1=((i+1+1:Nat):Int):=aB (by omega)
  simp only [z1y.l2_eq,aO,e3,aQ,au,hi0,hi1,decide_true,ac,aT (e:=aJ) hi0,aT (e:=aJ) hi1,iQ,ae,y4,e4]
  cases hd:aP l[i].1 l[i+1].1 with
  | true=>exact .inl ⟨fun _=>hd,rfl⟩
  | false=>exact .inr ⟨fun h=>(by have:=h hi1;rw [hd] at this;cases this),rfl⟩) (fun n=>by
  simp only [z1y.l2_eq,aO,show ¬ l.length - 1+1<l.length by omega,decide_false,aa]) k 0 (by omega) (by omega)
 exact ⟨b,hb,hbi.trans yG.symm⟩
def eA:dv:=(aV 16 0,[])
theorem nW:Can eA:=(fh []).1
theorem sr (x:bu):¬ m9 eA x:=fun h=>by
 have:=((fh []).2.1 x).1 h
 simp at this
def cY (l:List cG):List bu:=l.map (·.1)
theorem Ae (k:Nat) (l:List cG) (hl:l.length+1<k) (hk:k<1000000):z1a.f k l=some ((cY l).foldl ee eA):=by
 rw [z1a.f_eq]
 have key:∀ n i (s:dv),i≤l.length→l.length<n+i→Can s→s.2.length≤i→z1a.l3 k n l (i:Int) (aV 16 0) [] s=some ((cY (l.drop i)).foldl ee s):=by
  intro n
  induction n with
  | zero=>intro i s h h';omega
  | succ n ih =>
   intro i s h h' hs hsl
   rw [z1a.l3_eq,aO,aQ,au]
   by_cases hi:i<l.length
   ·have e3:aH .i64 (i:Int) 1=((i+1:Nat):Int):=aB (by omega)
    rw [aT (e:=aJ) hi,tT k s l[i].1 (by omega) hk hs,e3,List.drop_eq_getElem_cons hi]
    simp only [hi,decide_true,ac,ae,cY,List.map_cons,List.foldl_cons]
    obtain ⟨a,_,c⟩:=kM hs l[i].1
    exact ih (i+1) _ (by omega) (by omega) a (by omega)
   ·rw [List.drop_of_length_le (by omega)]
    simp only [hi,decide_false,aa,cY,List.map_nil,List.foldl_nil]
 exact key k 0 eA (by omega) (by omega) nW (by simp [eA])
theorem CE (k:Nat) (l:List cG) (hl:l.length+1<k) (hk:k<1000000) (hr:∀ t ∈ l,aK t.1=true):z1a.f k l=some ((cY l).foldl ee eA):=Ae k l hl hk
theorem rO {l:List cG} (hr:∀ t ∈ l,aK t.1=true):Can ((cY l).foldl ee eA)∧(∀ x,m9 ((cY l).foldl ee eA) x ↔ ∃ t ∈ l,t.1=x)∧((cY l).foldl ee eA).2.length≤l.length:=by
 obtain ⟨p,q,r⟩:=wb (cY l) eA nW (fun d hd=>by
  obtain ⟨t,ht,rfl⟩:=List.mem_map.1 hd;exact hr t ht)
 refine ⟨p,fun x=>?_,?_⟩
 ·rw [q]
  constructor
  ·rintro (h | h)
   ·exact absurd h (sr x)
   ·obtain ⟨t,ht,rfl⟩:=List.mem_map.1 h;exact ⟨t,ht,rfl⟩
  ·rintro ⟨t,ht,rfl⟩;exact .inr (List.mem_map.2 ⟨t,ht,rfl⟩)
 ·have:(cY l).length=l.length:=by simp [cY]
  have e0:eA.2.length=0:=rfl
  omega
structure RightS (k:Nat) (s:de):Prop where
 many:s.1.length≤1000
 ris:s.1.Pairwise (fun a b=>aP a.1 b.1=true)
 un:CanU s.2.1
 se:Can s.2.2.2.1∧s.2.2.2.1.2.length≤4096
 chk:∀ t ∈ s.1,z17.f k t=some 0
 redo:∀ l ∈ s.2.2.2.2,l.length≤1000∧∀ d ∈ l,aK d=true
 kn:Can s.2.2.1∧s.2.2.1.2.length≤4096
 know:s.2.2.1=(cY s.1).foldl ee eA
def rS (k:Nat) (l:List cG) (j:Nat):Prop:=∀ h:j<l.length,z17.f k l[j]=some 0
def xJ (r:List (List bu)) (j:Nat):Prop:=∀ h:j<r.length,r[j].length≤1000∧∀ d ∈ r[j],aK d=true
def Cd (l:List bu) (j:Nat):Prop:=∀ h:j<l.length,aK l[j]=true
theorem mU {l:List bu}:(∀ j,0≤j→j<l.length→Cd l j) ↔ ∀ d ∈ l,aK d=true:=by
 constructor
 ·intro h d hd
  obtain ⟨j,hj,rfl⟩:=List.mem_iff_getElem.1 hd
  exact h j (by omega) hj hj
 ·intro h j _ hj _;exact h _ (List.getElem_mem hj)
theorem gQ (k:Nat) (s:de) (hv1:s.2.2.1.1.length=16) (hv2:s.2.2.2.1.1.length=16) (hr8:s.2.2.2.2.length=8) (hsh:∀ t ∈ s.1,∃ e:Int,z17.f k t=some e∧(e=0→aK t.1=true)) (hrl:∀ l ∈ s.2.2.2.2,l.length<k) (hul:s.2.1.length<k) (hk:5000<k) (hk2:k<1000000) :
  ∃ b,z1o.f k s=some b∧(b=true ↔ RightS k s):=by
 rw [z1o.f_eq,show aq 1000 (af s.1)=decide (1000<s.1.length) from cq 1000 s.1]
 by_cases hm:1000<s.1.length
 ·rw [decide_eq_true hm];exact ⟨false,rfl,⟨fun h=>(by cases h),fun h=>by have:=h.many;omega⟩⟩
 rw [decide_eq_false hm]
 obtain ⟨b1,g1,i1⟩:=sK k s.1 (by omega) hk2
 obtain ⟨b2,g2,i2⟩:=ir k s.2.1 hul hk2
 obtain ⟨b3,g3,i3⟩:=F3 k s.2.2.2.1 hv2 hk hk2
 obtain ⟨b4,g4,i4⟩:=F3 k s.2.2.1 hv1 hk hk2
 rw [g1]
 simp only [aa,ae]
 cases b1 with
 | false=>exact ⟨false,rfl,⟨fun h=>(by cases h),fun h=>i1.2 h.ris⟩⟩
 | true =>
 have bt:ai true=false:=rfl
 have bf:ai false=true:=rfl
 rw [bt,g2]
 simp only [aa,ae]
 cases b2 with
 | false=>exact ⟨false,rfl,⟨fun h=>(by cases h),fun h=>i2.2 h.un⟩⟩
 | true =>
 rw [bt,g3]
 simp only [aa,ae]
 cases b3 with
 | false=>exact ⟨false,rfl,⟨fun h=>(by cases h),fun h=>i3.2 h.se⟩⟩
 | true =>
 rw [bt]
 simp only [aa]
 have tail:(∀ t ∈ s.1,aK t.1=true)→∃ b,(bnd (z1e.f k s.2.2.1) fun r0=>br r0 (bnd (z1a.f k s.1) fun r1=>bnd (z1Z.f k s.2.2.1 r1) fun r2=>some r2) (some false))=some b∧(b=true ↔ (Can s.2.2.1∧s.2.2.1.2.length≤4096)∧s.2.2.1=(cY s.1).foldl ee eA):=by
  intro hrt
  rw [g4]
  simp only [ae]
  cases b4 with
  | false=>exact ⟨false,rfl,⟨fun h=>(by cases h),fun h=>i4.2 h.1⟩⟩
  | true =>
   have h4:=i4.1 rfl
   simp only [ac]
   rw [CE k s.1 (by omega) hk2 hrt]
   simp only [ae]
   rw [pE k _ _ (by omega) hk2]
   exact ⟨_,rfl,by rw [decide_eq_true_iff];exact ⟨fun h=>⟨h4,h⟩,fun h=>h.2⟩⟩
 have rows:(∀ t ∈ s.1,aK t.1=true)→∃ b,z1o.l9 k k 0 s=some b∧(b=true ↔ (∀ j,0≤j→j<8→xJ s.2.2.2.2 j)∧((Can s.2.2.1∧s.2.2.1.2.length≤4096)∧s.2.2.1=(cY s.1).foldl ee eA)):=by
  intro hrt
  refine iz 8 (fun n i=>z1o.l9 k n (i:Int) s) (xJ s.2.2.2.2) (fun n i hi=>?_) _ _ (tail hrt) (fun n=>?_) k 0 (by omega) (by omega)
  ·have e1:aq (i:Int) 8=decide (i<8):=bA i 8
   have e2:gh (i:Int) 8=decide (i<8):=dS i 8
   have hi1:i<s.2.2.2.2.length:=by omega
   have hll:=hrl _ (List.getElem_mem hi1)
   have e4:aq 1000 (af s.2.2.2.2[i])=decide (1000<s.2.2.2.2[i].length):=cq 1000 s.2.2.2.2[i]
   simp only [z1o.l9_eq,e1,e2,hi,decide_true,ac,au,aT (e:=.slc ah) hi1,e4]
   by_cases hl:1000<s.2.2.2.2[i].length
   ·rw [decide_eq_true hl]
    exact .inr ⟨fun h=>by have:=(h hi1).1;omega,rfl⟩
   ·rw [decide_eq_false hl]
    simp only [aa]
    have inner:∀ q j,j≤s.2.2.2.2[i].length→s.2.2.2.2[i].length<q+j→((∀ p,j≤p→p<s.2.2.2.2[i].length→Cd s.2.2.2.2[i] p)∧z1o.l14 k n q (i:Int) (j:Int) s=z1o.l9 k n ((i+1:Nat):Int) s)∨(¬ (∀ p,j≤p→p<s.2.2.2.2[i].length→Cd s.2.2.2.2[i] p)∧z1o.l14 k n q (i:Int) (j:Int) s=some false):=by
     intro q
     induction q with
     | zero=>intro j h1 h2;omega
     | succ q ih =>
      intro j h1 h2
      have e3:aH .i64 (j:Int) 1=((j+1:Nat):Int):=aB (by omega)
      have e5:aH .i64 (i:Int) 1=((i+1:Nat):Int):=aB (by omega)
      by_cases hj:j<s.2.2.2.2[i].length
      ·simp only [z1o.l14_eq,e2,hi,decide_true,ac,au,aT (e:=.slc ah) hi1,aO,aQ,hj,aT (e:=ah) hj,dK,ae,e3]
       cases hd:aK s.2.2.2.2[i][j] with
       | false=>exact .inr ⟨fun h=>(by have:=h j (Nat.le_refl _) hj hj;rw [hd] at this;cases this),rfl⟩
       | true =>
        rcases ih (j+1) (by omega) (by omega) with ⟨h3,h4⟩ | ⟨h3,h4⟩
        ·refine .inl ⟨fun p hp1 hp2=>?_,h4⟩
         by_cases e:p=j
         ·subst e;exact fun _=>hd
         ·exact h3 p (by omega) hp2
        ·exact .inr ⟨fun h=>h3 fun p hp1 hp2=>h p (by omega) hp2,h4⟩
      ·refine .inl ⟨fun p hp1 hp2=>by omega,?_⟩
       simp only [z1o.l14_eq,e2,hi,decide_true,ac,au,aT (e:=.slc ah) hi1,aO,hj,decide_false,aa,e5]
    rcases inner k 0 (by omega) (by omega) with ⟨h3,h4⟩ | ⟨h3,h4⟩
    ·exact .inl ⟨fun _=>⟨by omega,mU.1 h3⟩,h4⟩
    ·exact .inr ⟨fun h=>h3 (mU.2 (h hi1).2),h4⟩
  ·have e1:aq ((8:Nat):Int) 8=false:=rfl
   simp only [z1o.l9_eq,e1,aa]
 have hdot:(∀ j,0≤j→j<s.1.length→rS k s.1 j)→∀ t ∈ s.1,aK t.1=true:=by
  intro h t ht
  obtain ⟨j,hj,rfl⟩:=List.mem_iff_getElem.1 ht
  obtain ⟨e,he,hei⟩:=hsh _ ht
  rw [h j (by omega) hj hj] at he
  injection he with he
  exact hei he.symm
 have txs:∃ b,z1o.l4 k k 0 s=some b∧(b=true ↔ (∀ j,0≤j→j<s.1.length→rS k s.1 j)∧((∀ j,0≤j→j<8→xJ s.2.2.2.2 j)∧((Can s.2.2.1∧s.2.2.1.2.length≤4096)∧s.2.2.1=(cY s.1).foldl ee eA))):=by
  by_cases hall:∀ j,0≤j→j<s.1.length→rS k s.1 j
  ·refine iz s.1.length (fun n i=>z1o.l4 k n (i:Int) s) (rS k s.1) (fun n i hi=>?_) _ _ (rows (hdot hall)) (fun n=>?_) k 0 (by omega) (by omega)
   ·have e3:aH .i64 (i:Int) 1=((i+1:Nat):Int):=aB (by omega)
    have hc:=hall i (by omega) hi hi
    have ez:az (0:Int) 0=true:=rfl
    simp only [z1o.l4_eq,aO,aQ,au,hi,decide_true,ac,aT (e:=aJ) hi,hc,ae,e3,ez,bt,aa]
    exact .inl ⟨hall i (by omega) hi,trivial⟩
   ·simp only [z1o.l4_eq,aO,Nat.lt_irrefl,decide_false,aa]
  ·-- it falls at the first that is wrong
   have fall:∀ n i,i≤s.1.length→s.1.length<n+i→(¬ ∀ j,i≤j→j<s.1.length→rS k s.1 j)→z1o.l4 k n (i:Int) s=some false:=by
    intro n
    induction n with
    | zero=>intro i h1 h2;omega
    | succ n ih =>
     intro i h1 h2 hne
     have hi:i<s.1.length:=Nat.lt_of_not_le fun hle=>hne fun j hj1 hj2=>by omega
     have e3:aH .i64 (i:Int) 1=((i+1:Nat):Int):=aB (by omega)
     obtain ⟨e,he,_⟩:=hsh _ (List.getElem_mem hi)
     rw [z1o.l4_eq,aO,aQ,au,aT (e:=aJ) hi,he,e3]
     simp only [hi,decide_true,ac,ae,aW,bB,cT]
     by_cases hz:e=0
     ·rw [if_neg (by simpa using hz)]
      refine ih (i+1) (by omega) (by omega) fun hh=>hne fun j hj1 hj2=>?_
      by_cases ej:j=i
      ·subst ej;exact fun _=>by rw [he,hz]
      ·exact hh j (by omega) hj2
     ·rw [if_pos hz]
   exact ⟨false,fall k 0 (by omega) (by omega) hall,⟨fun h=>(by cases h),fun h=>absurd h.1 hall⟩⟩
 obtain ⟨b,hb,hbi⟩:=txs
 refine ⟨b,hb,hbi.trans ⟨fun ⟨h1,h2,h3,h4⟩=>?_,fun h=>⟨fun j _ hj _=>h.chk _ (List.getElem_mem hj),fun j _ hj hj8=>h.redo _ (List.getElem_mem hj8),h.kn,h.know⟩⟩⟩
 refine ⟨by omega,i1.1 rfl,i2.1 rfl,i3.1 rfl,fun t ht=>?_,fun l hl=>?_,h3,h4⟩
 ·obtain ⟨j,hj,rfl⟩:=List.mem_iff_getElem.1 ht
  exact h1 j (by omega) hj hj
 ·obtain ⟨j,hj,rfl⟩:=List.mem_iff_getElem.1 hl
  exact h2 j (by omega) (by omega) hj
theorem y7 (k:Nat) (s:de) (hv1:s.2.2.1.1.length=16) (hv2:s.2.2.2.1.1.length=16) (hr8:s.2.2.2.2.length=8) (hsh:∀ t ∈ s.1,ShortT t) (hrl:∀ l ∈ s.2.2.2.2,l.length<k) (hul:s.2.1.length<k) (hk:5000<k) (hk2:k<1000000) :
  ∃ b,z1o.f k s=some b∧(b=true ↔ RightS k s) :=
 gQ k s hv1 hv2 hr8 (fun t ht=>tF k t (hsh t ht) (by omega) hk2) hrl hul hk hk2
theorem RightS.can {k:Nat} {s:de} (h:RightS k s) (hsh:∀ t ∈ s.1,ShortT t) (hk:1000<k) (hk2:k<1000000):CanS s:=by
 have hrt:∀ t ∈ s.1,aK t.1=true:=fun t ht=>by
  obtain ⟨e,he,hei⟩:=tF k t (hsh t ht) hk hk2
  rw [h.chk t ht] at he;injection he with he;exact hei he.symm
 exact ⟨⟨hrt,h.ris⟩,h.un,h.kn.1,h.se.1,fun x=>by rw [h.know];exact (rO hrt).2.1 x⟩
structure ShortS (s:de):Prop where
 tx:s.1.length≤20
 un:s.2.1.length≤100
 kn:s.2.2.1.2.length≤100
 se:s.2.2.2.1.2.length≤100
 each:∀ t ∈ s.1,ShortT t
 redo:∀ l ∈ s.2.2.2.2,l.length≤40
theorem ShortS.len {s:de} (h:ShortS s):LenS 100 s:=⟨Nat.le_trans h.tx (by decide),h.un,h.kn,h.se,fun l hl=>Nat.le_trans (h.redo l hl) (by decide)⟩
def D0 (k:Nat) (l:List cG) (j:Nat):Prop:=∀ h:j<l.length,z1q.f k l[j]=some true
def F8 (r:List (List bu)) (j:Nat):Prop:=∀ h:j<r.length,r[j].length≤40
theorem sv {k:Nat} {l:List cG} (hk:1000<k) (hk2:k<1000000) (h:∀ j,0≤j→j<l.length→D0 k l j):∀ t ∈ l,ShortT t:=by
 intro t ht
 obtain ⟨j,hj,rfl⟩:=List.mem_iff_getElem.1 ht
 obtain ⟨b,hb,hbi⟩:=jE k l[j] hk hk2
 rw [h j (by omega) hj hj] at hb
 injection hb with hb;exact hbi hb.symm
theorem uH (k:Nat) (t:cG) (hk:1000<k) (hk2:k<1000000):∃ b,z1q.f k t=some b:=by
 obtain ⟨b,hb,_⟩:=jE k t hk hk2
 exact ⟨b,hb⟩
theorem qg (k:Nat) (s:de) (hr8:s.2.2.2.2.length=8) (hk:1000<k) (hk2:k<1000000):∃ b,z1m.f k s=some b∧(b=true→ShortS s):=by
 rw [z1m.f_eq,show aq 20 (af s.1)=decide (20<s.1.length) from cq 20 _,show aq 100 (af s.2.1)=decide (100<s.2.1.length) from cq 100 _,show aq 100 (af s.2.2.1.2)=decide (100<s.2.2.1.2.length) from cq 100 _,show aq 100 (af s.2.2.2.1.2)=decide (100<s.2.2.2.1.2.length) from cq 100 _]
 simp only [cT]
 by_cases h1:20<s.1.length
 ·rw [if_pos h1];exact ⟨false,rfl,fun h=>by cases h⟩
 by_cases h2:100<s.2.1.length
 ·rw [if_neg h1,if_pos h2];exact ⟨false,rfl,fun h=>by cases h⟩
 by_cases h3:100<s.2.2.1.2.length
 ·rw [if_neg h1,if_neg h2,if_pos h3];exact ⟨false,rfl,fun h=>by cases h⟩
 by_cases h4:100<s.2.2.2.1.2.length
 ·rw [if_neg h1,if_neg h2,if_neg h3,if_pos h4];exact ⟨false,rfl,fun h=>by cases h⟩
 rw [if_neg h1,if_neg h2,if_neg h3,if_neg h4]
 have rows:∃ b,z1m.l9 k k 0 s=some b∧(b=true ↔ ∀ j,0≤j→j<8→F8 s.2.2.2.2 j):=by
  refine ep 8 (fun n i=>z1m.l9 k n (i:Int) s) (F8 s.2.2.2.2) (fun n i hi=>?_) (fun n=>?_) k 0 (by omega) (by omega)
  ·have e1:aq (i:Int) 8=decide (i<8):=bA i 8
   have e2:gh (i:Int) 8=decide (i<8):=dS i 8
   have hi1:i<s.2.2.2.2.length:=by omega
   have e3:aH .i64 (i:Int) 1=((i+1:Nat):Int):=aB (by omega)
   have e4:aq 40 (af s.2.2.2.2[i])=decide (40<s.2.2.2.2[i].length):=cq 40 s.2.2.2.2[i]
   simp only [z1m.l9_eq,e1,e2,hi,decide_true,ac,au,aT (e:=.slc ah) hi1,e4,e3,cT]
   by_cases hl:40<s.2.2.2.2[i].length
   ·exact .inr ⟨fun h=>by have:=h hi1;omega,if_pos hl⟩
   ·exact .inl ⟨fun _=>by omega,if_neg hl⟩
  ·have e1:aq ((8:Nat):Int) 8=false:=rfl
   simp only [z1m.l9_eq,e1,aa]
 obtain ⟨b,hb,hbi⟩:=iz s.1.length (fun n i=>z1m.l4 k n (i:Int) s) (D0 k s.1) (fun n i hi=>by
  have e3:aH .i64 (i:Int) 1=((i+1:Nat):Int):=aB (by omega)
  obtain ⟨c,hc⟩:=uH k s.1[i] hk hk2
  simp only [z1m.l4_eq,aO,aQ,au,hi,decide_true,ac,aT (e:=aJ) hi,hc,ae,e3]
  cases c with
  | false=>exact .inr ⟨fun h=>(by have:=h hi;rw [hc] at this;cases this),rfl⟩
  | true=>exact .inl ⟨fun _=>hc,rfl⟩) _ _ rows (fun n=>by simp only [z1m.l4_eq,aO,Nat.lt_irrefl,decide_false,aa]) k 0 (by omega) (by omega)
 refine ⟨b,hb,fun h=>?_⟩
 obtain ⟨q1,q2⟩:=hbi.1 h
 refine ⟨by omega,by omega,by omega,by omega,sv hk hk2 q1,fun l hl=>?_⟩
 obtain ⟨j,hj,rfl⟩:=List.mem_iff_getElem.1 hl
 exact q2 j (by omega) (by omega) hj
theorem CI (k:Nat) (s:Ty.D aI) (fs:gL aI s) (hk:5000<k) (hk2:k<1000000):∃ b,z24.f k s=some b∧(b=true→CanS s∧ShortS s∧RightS k s):=by
 have f1:s.2.2.1.1.length=16:=fs.2.2.1.1.1
 have f2:s.2.2.2.1.1.length=16:=fs.2.2.2.1.1.1
 have f3:s.2.2.2.2.length=8:=fs.2.2.2.2.1
 obtain ⟨b,hb,hbi⟩:=qg k s f3 (by omega) hk2
 rw [z24.f_eq,hb]
 simp only [ae]
 cases b with
 | false=>exact ⟨false,rfl,fun h=>by cases h⟩
 | true =>
  have sh:=hbi rfl
  have:=sh.un
  obtain ⟨c,hc,hci⟩:=y7 k s f1 f2 f3 sh.each (fun l hl=>by have:=sh.redo l hl;omega) (by omega) hk hk2
  simp only [ac,hc,ae]
  exact ⟨c,rfl,fun h=>⟨(hci.1 h).can sh.each (by omega) hk2,sh,hci.1 h⟩⟩
theorem ShortT.lenT {t:cG} (h:ShortT t) {k:Nat} (hk:1000<k):LenT k t:=⟨by have:=h.len;omega,fun o ho=>⟨by have:=(h.ops o ho).path.1;omega,by have:=(h.ops o ho).seen;omega⟩⟩
structure ShortD (d:nx):Prop where
 tx:d.1.length≤20
 un:d.2.1.length≤100
 se:d.2.2.length≤100
 each:∀ t ∈ d.1,ShortT t
theorem ShortD.len {d:nx} (h:ShortD d):LenD 100 d:=⟨Nat.le_trans h.tx (by decide),h.un,h.se⟩
theorem v7 (k:Nat) (d:nx) (hk:1000<k) (hk2:k<1000000):∃ b,z0A.f k d=some b∧(b=true→ShortD d):=by
 rw [z0A.f_eq,show aq 20 (af d.1)=decide (20<d.1.length) from cq 20 _,show aq 100 (af d.2.1)=decide (100<d.2.1.length) from cq 100 _,show aq 100 (af d.2.2)=decide (100<d.2.2.length) from cq 100 _]
 simp only [cT]
 by_cases h1:20<d.1.length
 ·rw [if_pos h1];exact ⟨false,rfl,fun h=>by cases h⟩
 by_cases h2:100<d.2.1.length
 ·rw [if_neg h1,if_pos h2];exact ⟨false,rfl,fun h=>by cases h⟩
 by_cases h3:100<d.2.2.length
 ·rw [if_neg h1,if_neg h2,if_pos h3];exact ⟨false,rfl,fun h=>by cases h⟩
 rw [if_neg h1,if_neg h2,if_neg h3]
 obtain ⟨b,hb,hbi⟩:=ep d.1.length (fun n i=>z0A.l4 k n (i:Int) d) (D0 k d.1) (fun n i hi=>by
  have e3:aH .i64 (i:Int) 1=((i+1:Nat):Int):=aB (by omega)
  obtain ⟨c,hc⟩:=uH k d.1[i] hk hk2
  simp only [z0A.l4_eq,aO,aQ,au,hi,decide_true,ac,aT (e:=aJ) hi,hc,ae,e3]
  cases c with
  | false=>exact .inr ⟨fun h=>(by have:=h hi;rw [hc] at this;cases this),rfl⟩
  | true=>exact .inl ⟨fun _=>hc,rfl⟩) (fun n=>by simp only [z0A.l4_eq,aO,Nat.lt_irrefl,decide_false,aa]) k 0 (by omega) (by omega)
 exact ⟨b,hb,fun h=>⟨by omega,by omega,by omega,sv hk hk2 (hbi.1 h)⟩⟩
structure RightDl (k:Nat) (d:nx):Prop where
 many:d.1.length≤1000
 ris:d.1.Pairwise (fun a b=>aP a.1 b.1=true)
 un:CanU d.2.1
 chk:∀ t ∈ d.1,z17.f k t=some 0
 se:∀ x ∈ d.2.2,aK x=true
theorem jA (k:Nat) (d:nx) (hsh:∀ t ∈ d.1,∃ e:Int,z17.f k t=some e∧(e=0→aK t.1=true)) (hul:d.2.1.length<k) (hsl:d.2.2.length<k) (hk:5000<k) (hk2:k<1000000):∃ b,z0s.f k d=some b∧(b=true ↔ RightDl k d):=by
 rw [z0s.f_eq,show aq 1000 (af d.1)=decide (1000<d.1.length) from cq 1000 d.1]
 by_cases hm:1000<d.1.length
 ·rw [decide_eq_true hm];exact ⟨false,rfl,⟨fun h=>(by cases h),fun h=>by have:=h.many;omega⟩⟩
 rw [decide_eq_false hm]
 obtain ⟨b1,g1,i1⟩:=sK k d.1 (by omega) hk2
 obtain ⟨b2,g2,i2⟩:=ir k d.2.1 hul hk2
 rw [g1]
 simp only [aa,ae]
 cases b1 with
 | false=>exact ⟨false,rfl,⟨fun h=>(by cases h),fun h=>i1.2 h.ris⟩⟩
 | true =>
 have bt:ai true=false:=rfl
 rw [bt,g2]
 simp only [aa,ae]
 cases b2 with
 | false=>exact ⟨false,rfl,⟨fun h=>(by cases h),fun h=>i2.2 h.un⟩⟩
 | true =>
 rw [bt]
 simp only [aa]
 have seals:∃ b,z0s.l9 k k 0 d=some b∧(b=true ↔ ∀ j,0≤j→j<d.2.2.length→Cd d.2.2 j):=by
  refine ep d.2.2.length (fun n i=>z0s.l9 k n (i:Int) d) (Cd d.2.2) (fun n i hi=>?_) (fun n=>?_) k 0 (by omega) (by omega)
  ·have e3:aH .i64 (i:Int) 1=((i+1:Nat):Int):=aB (by omega)
   simp only [z0s.l9_eq,aO,aQ,au,hi,decide_true,ac,aT (e:=ah) hi,dK,ae,e3]
   cases hd:aK d.2.2[i] with
   | false=>exact .inr ⟨fun h=>(by have:=h hi;rw [hd] at this;cases this),rfl⟩
   | true=>exact .inl ⟨fun _=>hd,rfl⟩
  ·simp only [z0s.l9_eq,aO,Nat.lt_irrefl,decide_false,aa]
 obtain ⟨b,hb,hbi⟩:=iz d.1.length (fun n i=>z0s.l4 k n (i:Int) d) (rS k d.1) (fun n i hi=>by
  have e3:aH .i64 (i:Int) 1=((i+1:Nat):Int):=aB (by omega)
  obtain ⟨e,he,_⟩:=hsh _ (List.getElem_mem hi)
  simp only [z0s.l4_eq,aO,aQ,au,hi,decide_true,ac,aT (e:=aJ) hi,he,ae,e3,aW,bB,cT]
  by_cases hz:e=0
  ·exact .inl ⟨fun _=>by rw [he,hz],if_neg (by simpa using hz)⟩
  ·exact .inr ⟨fun h=>by rw [h hi] at he;injection he with he;exact hz he.symm,if_pos hz⟩) _ _ seals (fun n=>by simp only [z0s.l4_eq,aO,Nat.lt_irrefl,decide_false,aa]) k 0 (by omega) (by omega)
 refine ⟨b,hb,hbi.trans ⟨fun ⟨h1,h2⟩=>⟨by omega,i1.1 rfl,i2.1 rfl,fun t ht=>?_,mU.1 h2⟩,fun h=>⟨fun j _ hj _=>h.chk _ (List.getElem_mem hj),mU.2 h.se⟩⟩⟩
 obtain ⟨j,hj,rfl⟩:=List.mem_iff_getElem.1 ht
 exact h1 j (by omega) hj hj
theorem RightDl.can {k:Nat} {d:nx} (h:RightDl k d) (hsh:∀ t ∈ d.1,ShortT t) (hk:1000<k) (hk2:k<1000000):CanDl d :=
 ⟨⟨fun t ht=>by
  obtain ⟨e,he,hei⟩:=tF k t (hsh t ht) hk hk2
  rw [h.chk t ht] at he;injection he with he;exact hei he.symm,h.ris⟩,h.un,h.se⟩
end Go.Proofs.YtfhcammihohmjaaGreatDoor
end
noncomputable section
/- States with more of each: they may be, and the order does not matter. -/
namespace Go.Proofs.YtfhcammihohmjaaGreatDoor
open Pal
theorem nJ:∀ (l:List bu) (s:dv),Can s→Can (l.foldl ee s)∧(∀ x,m9 (l.foldl ee s) x ↔ m9 s x∨(aK x=true∧x ∈ l))∧(l.foldl ee s).2.length≤s.2.length+l.length
 | [],s,h=>⟨h,fun x=>by simp,by simp⟩
 | d::l,s,h=>by
  obtain ⟨a,b,c⟩:=kM h d
  obtain ⟨p,q,r⟩:=nJ l _ a
  refine ⟨p,fun x=>?_,by simp only [List.foldl_cons,List.length_cons];omega⟩
  show m9 (l.foldl ee (ee s d)) x ↔ _
  rw [q,b]
  constructor
  ·rintro ((h1 | ⟨h1,rfl⟩) | ⟨h1,h2⟩)
   ·exact .inl h1
   ·exact .inr ⟨h1,by simp⟩
   ·exact .inr ⟨h1,List.mem_cons_of_mem _ h2⟩
  ·rintro (h1 | ⟨h1,h2⟩)
   ·exact .inl (.inl h1)
   ·rcases List.mem_cons.1 h2 with rfl | h2
    ·exact .inl (.inr ⟨h1,rfl⟩)
    ·exact .inr ⟨h1,h2⟩
theorem xr {s:dv} (hs:Can s) (l:List bu):l.foldl ee s=jo s (gd l):=by
 obtain ⟨p,q,_⟩:=nJ l s hs
 obtain ⟨u,v,_⟩:=jt hs (fh l).1
 exact lT p u fun x=>by rw [q,v,(fh l).2.1]
theorem pn {s:de} {t:cG} (hs:CanS s) (ht:aK t.1=true):∀ x ∈ (eU s t).1,x ∈ s.1∨x=t:=by
 intro x hx
 obtain ⟨a1,a2,_⟩:=gN hs ht
 have h:=Ai a1.tx hx
 rw [a2] at h
 cases hf:bQ s.1 x.1 with
 | some y =>
  rw [hf] at h
  have h:some y=some x:=h
  injection h with h;subst h
  exact .inl (ml hf).1
 | none =>
  rw [hf] at h
  have h:(if x.1=t.1 then some t else none)=some x:=h
  by_cases e:x.1=t.1
  ·rw [if_pos e] at h;injection h with h;exact .inr h.symm
  ·rw [if_neg e] at h;cases h
theorem py {k:Nat} {s:de} (hs:CanS s) (h1:s.1.length≤1000) (h2:s.2.2.2.1.2.length≤4096) (h3:s.2.2.1.2.length≤4096) (hc:∀ t ∈ s.1,z17.f k t=some 0) (hr:∀ l ∈ s.2.2.2.2,l.length≤1000∧∀ d ∈ l,aK d=true):RightS k s :=
 ⟨h1,hs.tx.srt,hs.un,⟨hs.se,h2⟩,hc,hr,⟨hs.kn,h3⟩,by
  obtain ⟨p,q,_⟩:=rO hs.tx.rt
  exact lT hs.kn p fun x=>by rw [hs.know,q]⟩
theorem sN {k:Nat} {s:de} {t:cG} {n:Nat} (hs:CanS s) (ls:LenS n s) (hn:n<1000) (hr:RightS k s) (ht:aK t.1=true) (hc:z17.f k t=some 0):RightS k (eU s t):=by
 obtain ⟨a1,a2,a3,a4,a5,a6⟩:=gN hs ht
 have l1:=ls.tx;have l2:=ls.kn;have l3:=ls.se
 refine py a1 (by omega) (by rw [a4];omega) (by omega) (fun x hx=>?_) (by rw [a4];exact hr.redo)
 rcases pn hs ht x hx with h | rfl
 ·exact hr.chk x h
 ·exact hc
theorem og {k:Nat} {s:de} {u:List (bu × Int)} {n:Nat} (hs:CanS s) (ls:LenS n s) (hn:n<1000) (hr:RightS k s) (hu:CanU u):RightS k (fB s u):=by
 have l1:=ls.tx;have l2:=ls.kn;have l3:=ls.se
 exact py (jy hs hu) (by show s.1.length≤1000;omega) (by show s.2.2.2.1.2.length≤4096;omega) (by show s.2.2.1.2.length≤4096;omega) hr.chk hr.redo
theorem yj {k:Nat} {s:de} {l:List bu} {n:Nat} (hs:CanS s) (ls:LenS n s) (hn:n<1000) (hr:RightS k s) (hl:l.length≤1000):RightS k (pe s l):=by
 have l1:=ls.tx;have l2:=ls.kn;have l3:=ls.se
 refine py (AX hs) (by show s.1.length≤1000;omega) ?_ (by show s.2.2.1.2.length≤4096;omega) hr.chk hr.redo
 show (jo s.2.2.2.1 (gd l)).2.length≤4096
 have:=(jt hs.se (fh l).1).2.2
 have:=(fh l).2.2
 omega
theorem qy {s:de} {t:cG} {n:Nat} (hs:CanS s) (ls:LenS n s) (ht:aK t.1=true):LenS (n+1) (eU s t):=by
 obtain ⟨a1,a2,a3,a4,a5,a6⟩:=gN hs ht
 have l1:=ls.tx;have l2:=ls.kn;have l3:=ls.se;have l4:=ls.un
 exact ⟨by omega,by rw [a3];omega,by omega,by rw [a4];omega,fun l hl=>by rw [a4] at hl;have:=ls.re l hl;omega⟩
theorem lO {s:de} {u:List (bu × Int)} {n m:Nat} (hs:CanS s) (ls:LenS n s) (hu:CanU u) (hm:u.length≤m):LenS (n+m) (fB s u):=by
 have l1:=ls.tx;have l2:=ls.kn;have l3:=ls.se;have l4:=ls.un
 refine ⟨by show s.1.length≤_;omega,?_,by show s.2.2.1.2.length≤_;omega,by show s.2.2.2.1.2.length≤_;omega,fun l hl=>by have:=ls.re l hl;omega⟩
 show (ei s.2.1 u).length≤_
 have:=rI hs.un hu;omega
theorem A1 {s:de} {l:List bu} {n m:Nat} (hs:CanS s) (ls:LenS n s) (hm:l.length≤m):LenS (n+m) (pe s l):=by
 have l1:=ls.tx;have l2:=ls.kn;have l3:=ls.se;have l4:=ls.un
 refine ⟨by show s.1.length≤_;omega,by show s.2.1.length≤_;omega,by show s.2.2.1.2.length≤_;omega,?_,fun l hl=>by have:=ls.re l hl;omega⟩
 show (jo s.2.2.2.1 (gd l)).2.length≤_
 have:=(jt hs.se (fh l).1).2.2
 have:=(fh l).2.2
 omega
end Go.Proofs.YtfhcammihohmjaaGreatDoor
end
noncomputable section
/- What is known: joined, the same, within. -/
namespace Go.Proofs.YtfhcammihohmjaaGreatDoor
open Pal
end Go.Proofs.YtfhcammihohmjaaGreatDoor
end
noncomputable section
/- Counts that may be: the program's test. -/
namespace Go.Proofs.YtfhcammihohmjaaGreatDoor
open Pal
theorem iK (k:Nat) (l:List bq) (h3:3≤k) (hl:l.length<k) (hk:k<1000000):∃ b,z1s.f k l=some b∧(b=true ↔ CanU l):=by
 obtain ⟨b,hb,hbi⟩:=ep l.length (fun n i=>z1s.l2 k n l l (af l) (i:Int)) (GS l) (fun n i hi=>by
  have e4:aH .i64 (i:Int) 1=((i+1:Nat):Int):=aB (by omega)
  simp only [z1s.l2_eq,aO,aQ,au,hi,decide_true,ac,aT (e:=ak) hi,dN,ae,e4]
  have key:∀ hr:cL l[i]=false,¬ GS l i:=fun hr h=>by have:=(h hi).1;rw [hr] at this;cases this
  have bt:ai true=false:=rfl
  have bf:ai false=true:=rfl
  cases hd:aK l[i].1 with
  | false=>exact .inr ⟨key (by unfold cL;rw [hd];rfl),by rw [bf];rfl⟩
  | true =>
   rw [bt]
   simp only [aa,kW,cT]
   by_cases h1:l[i].2<1
   ·exact .inr ⟨key (by unfold cL;rw [hd,decide_eq_false (by omega)];rfl),if_pos h1⟩
   ·rw [if_neg h1]
    by_cases h2:64<l[i].2
    ·exact .inr ⟨key (by unfold cL;rw [hd,decide_eq_false (by omega)];rfl),if_pos h2⟩
    ·rw [if_neg h2]
     have hu:cL l[i]=true:=by unfold cL;rw [hd,decide_eq_true (by omega)];rfl
     by_cases h0:0<i
     ·have hi1:i - 1<l.length:=by omega
      have e3:bw .i64 (i:Int) 1=((i - 1:Nat):Int):=by rw [dx (by omega) (by omega) (by omega) (by omega)];omega
      have e5:(0:Int)<(i:Int):=by omega
      rw [if_pos e5,e3,aQ,au,aT (e:=ak) hi1,zD k _ _ h3]
      simp only [hi1,decide_true,ac,ae,jK,cT]
      have hcc:dw l[i - 1].1 l[i].1<0 ↔ aP l[i - 1].1 l[i].1=true:=by rw [← iP];exact decide_eq_true_iff.symm
      by_cases hc:0≤dw l[i - 1].1 l[i].1
      ·exact .inr ⟨fun h=>by have:=hcc.2 ((h hi).2 h0);omega,if_pos hc⟩
      ·exact .inl ⟨fun _=>⟨hu,fun _=>hcc.1 (by omega)⟩,if_neg hc⟩
     ·have e5:¬ (0:Int)<(i:Int):=by omega
      exact .inl ⟨fun _=>⟨hu,fun h=>absurd h h0⟩,if_neg e5⟩) (fun n=>by
  simp only [z1s.l2_eq,aO,Nat.lt_irrefl,decide_false,aa]) k 0 (by omega) (by omega)
 rw [z1s.f_eq]
 refine ⟨b,hb,hbi.trans ?_⟩
 rw [vm]
 exact ⟨fun h j hj=>h j (by omega) hj hj,fun h j _ _ hj=>h j hj⟩
end Go.Proofs.YtfhcammihohmjaaGreatDoor
end
noncomputable section
/- Whether a state may be: the program's word is the document's. -/
namespace Go.Proofs.YtfhcammihohmjaaGreatDoor
open Pal
def Gy (l:List cG) (j:Nat):Prop:=∀ h:j<l.length,∀ h0:0<j,aP (l[j - 1]'(by omega)).1 l[j].1=true
theorem CQ {l:List cG}:l.Pairwise (fun a b=>aP a.1 b.1=true) ↔ ∀ j,0≤j→j<l.length→Gy l j:=by
 rw [yG]
 constructor
 ·intro h j _ hj hj' h0
  have:=h (j - 1) (by omega) (by omega) (by omega)
  have e:j - 1+1=j:=by omega
  simpa only [e] using this
 ·intro h j _ hj hj'
  have:=h (j+1) (by omega) (by omega) hj' (by omega)
  simpa using this
theorem nB (k:Nat) (l:List cG) (h3:3≤k) (hl:l.length<k) (hk:k<1000000):∃ b,z2G.f k l=some b∧(b=true ↔ l.Pairwise (fun a b=>aP a.1 b.1=true)):=by
 rw [z2G.f_eq]
 obtain ⟨b,hb,hbi⟩:=ep l.length (fun n i=>z2G.l2 k n l l (af l) (i:Int)) (Gy l) (fun n i hi=>by
  have e4:aH .i64 (i:Int) 1=((i+1:Nat):Int):=aB (by omega)
  simp only [z2G.l2_eq,aO,aQ,au,hi,decide_true,ac,aT (e:=aJ) hi,e4]
  rw [show aq 0 (i:Int)=decide (0<i) from bA 0 i]
  by_cases h0:0<i
  ·have hi1:i - 1<l.length:=by omega
   have e3:bw .i64 (i:Int) 1=((i - 1:Nat):Int):=by rw [dx (by omega) (by omega) (by omega) (by omega)];omega
   obtain ⟨q,rfl⟩:∃ q,k=q+3:=⟨k - 3,by omega⟩
   rw [decide_eq_true h0,ac,e3,aQ,au,aT (e:=aJ) hi1,decide_eq_true hi1,ac,fJ,ae,show bM 0 (dw l[i - 1].1 l[i].1)=decide (0≤dw l[i - 1].1 l[i].1) from rfl]
   have hcc:dw l[i - 1].1 l[i].1<0 ↔ aP l[i - 1].1 l[i].1=true:=by rw [← iP];exact decide_eq_true_iff.symm
   by_cases hc:0≤dw l[i - 1].1 l[i].1
   ·exact .inr ⟨fun h=>by have:=hcc.2 (h hi h0);omega,by rw [decide_eq_true hc,ac]⟩
   ·exact .inl ⟨fun _ _=>hcc.1 (by omega),by rw [decide_eq_false hc,aa]⟩
  ·exact .inl ⟨fun _ h=>absurd h h0,by rw [decide_eq_false h0,aa]⟩) (fun n=>by
  simp only [z2G.l2_eq,aO,Nat.lt_irrefl,decide_false,aa]) k 0 (by omega) (by omega)
 exact ⟨b,hb,hbi.trans CQ.symm⟩
theorem zy (k:Nat) (l:List cG) (hl:l.length<1000000):∀ (n i:Nat) (x:List bu),i≤l.length→l.length<n+i→x.length=i→z1c.l3 k n x l (af l) (i:Int)=some (x++cY (l.drop i))
 | 0,i,_,h,h',_=>by omega
 | n+1,i,x,h,h',hx=>by
  rw [z1c.l3_eq,aO,aQ,au]
  by_cases hi:i<l.length
  ·rw [decide_eq_true hi,ac,ac,aT (e:=aJ) hi,fX (by omega),ac,aB (by omega),zy k l hl n (i+1) _ (by omega) (by omega) (by simp [app,hx])]
   unfold app cY
   rw [List.drop_eq_getElem_cons hi,List.map_cons,List.append_assoc];rfl
  ·rw [decide_eq_false hi,aa,List.drop_eq_nil_of_le (by omega)];simp [cY]
theorem wl (k:Nat) (l:List cG) (hl:l.length<k) (hk:k<1000000):z1c.f k l=some (cY l):=by
 rw [z1c.f_eq]
 have h:=zy k l (by omega) k 0 [] (by omega) (by omega) rfl
 rw [show ((0:Nat):Int)=0 from rfl,List.drop_zero,List.nil_append] at h
 exact h
theorem CH (k:Nat) (l:List cG) (ho:∀ t ∈ l,t.2.2.2.2.length<k∧∀ o ∈ t.2.2.2.2,SizO k o) (hl:l.length<1000000) (hk:10<k) (hk2:k<1000000):∀ (n i:Nat),i≤l.length→l.length<n+i →
  ∃ r:Int,z0a.l2 k n l (af l) (i:Int)=some r∧(0≤r ↔ ¬ ∀ t ∈ l.drop i,z17.f k t=some 0)
 | 0,i,_,h=>by omega
 | n+1,i,h,h'=>by
  rw [z0a.l2_eq,aO,aQ,au]
  by_cases hi:i<l.length
  ·obtain ⟨o1,o2⟩:=ho _ (List.getElem_mem hi)
   obtain ⟨e,g1,g2⟩:=jR k l[i] o2 o1 hk hk2
   rw [decide_eq_true hi,ac,ac,aT (e:=aJ) hi,z0P.f_eq,g1,ae,ae,aB (by omega),aW,bB,List.drop_eq_getElem_cons hi]
   by_cases h0:e=0
   ·subst h0
    rw [decide_eq_false (by simp),aa]
    obtain ⟨r,q1,q2⟩:=CH k l ho hl hk hk2 n (i+1) (by omega) (by omega)
    refine ⟨r,q1,q2.trans (not_congr ⟨fun h t ht=>?_,fun h t ht=>h t (List.mem_cons_of_mem _ ht)⟩)⟩
    rcases List.mem_cons.1 ht with rfl | ht
    ·exact g2
    ·exact h t ht
   ·rw [decide_eq_true h0,ac]
    refine ⟨(i:Int),rfl,⟨fun _ h=>h0 ?_,fun _=>by omega⟩⟩
    have:=h l[i] List.mem_cons_self
    rw [g2] at this;injection this
  ·rw [decide_eq_false hi,aa,List.drop_eq_nil_of_le (by omega)]
   exact ⟨-1,rfl,⟨fun h=>by omega,fun h=>absurd (fun t ht=>by simp at ht) h⟩⟩
theorem EX (k:Nat) (l:List bu) (hl:l.length<1000000):∀ (n i:Nat),i≤l.length→l.length<n+i →
  ∃ r:Int,z0b.l2 k n l (af l) (i:Int)=some r∧(0≤r ↔ ¬ ∀ d ∈ l.drop i,aK d=true)
 | 0,i,_,h=>by omega
 | n+1,i,h,h'=>by
  rw [z0b.l2_eq,aO,aQ,au]
  by_cases hi:i<l.length
  ·rw [decide_eq_true hi,ac,ac,aT (e:=ah) hi,z0S.f_eq,dN,ae,ae,aB (by omega),List.drop_eq_getElem_cons hi]
   cases hr:aK l[i] with
   | true =>
    obtain ⟨r,q1,q2⟩:=EX k l hl n (i+1) (by omega) (by omega)
    refine ⟨r,q1,q2.trans (not_congr ⟨fun h t ht=>?_,fun h t ht=>h t (List.mem_cons_of_mem _ ht)⟩)⟩
    rcases List.mem_cons.1 ht with rfl | ht
    ·exact hr
    ·exact h t ht
   | false =>
    refine ⟨(i:Int),rfl,⟨fun _ h=>?_,fun _=>by omega⟩⟩
    have:=h l[i] List.mem_cons_self
    rw [hr] at this;cases this
  ·rw [decide_eq_false hi,aa,List.drop_eq_nil_of_le (by omega)]
   exact ⟨-1,rfl,⟨fun h=>by omega,fun h=>absurd (fun t ht=>by simp at ht) h⟩⟩
theorem rL (l:List bu):l.foldl ee eA=gd l:=by
 obtain ⟨p,q,_⟩:=nJ l eA nW
 refine lT p (fh l).1 fun x=>?_
 rw [q,(fh l).2.1]
 constructor
 ·rintro (h | h)
  ·exact absurd h (sr x)
  ·exact h
 ·exact .inr
def Fp (l:List bu):Prop:=l.length≤1000∧∀ d ∈ l,aK d=true
theorem w7 (k:Nat) (s:de) (h8:s.2.2.2.2.length=8) (hl:∀ l ∈ s.2.2.2.2,l.length<k) (b1 b2:Bool) (g1:z2e.f k s.2.2.1=some b1) (g2:z2e.f k s.2.2.2.1=some b2) (hk2:k<1000000):∀ (n i:Nat),i≤8→8<n+i →
  ∃ b,z1x.l6 k n s.2.2.2.2 (i:Int) s=some b∧(b=true ↔ (∀ l ∈ s.2.2.2.2.drop i,Fp l)∧b1=true∧b2=true)
 | 0,i,_,h=>by omega
 | n+1,i,h,h'=>by
  rw [z1x.l6_eq,show aq (i:Int) 8=decide (i<8) from bA i 8,dS,au]
  by_cases hi:i<8
  ·have hi':i<s.2.2.2.2.length:=by omega
   have hm:=List.getElem_mem hi'
   rw [decide_eq_true hi,ac,ac,aT (e:=.slc ah) hi',show aq 1000 (af s.2.2.2.2[i])=decide (1000<s.2.2.2.2[i].length) from cq 1000 _,List.drop_eq_getElem_cons hi',aB (by omega)]
   by_cases hb:1000<s.2.2.2.2[i].length
   ·rw [decide_eq_true hb,ac]
    exact ⟨false,rfl,⟨fun h=>(by cases h),fun h=>by have:=(h.1 _ (List.mem_cons_self)).1;omega⟩⟩
   ·obtain ⟨r,q1,q2⟩:=EX k s.2.2.2.2[i] (by have:=hl _ hm;omega) k 0 (by omega) (by have:=hl _ hm;omega)
    rw [show ((0:Nat):Int)=0 from rfl] at q1
    rw [List.drop_zero] at q2
    rw [decide_eq_false hb,aa,z05.f_eq,z0b.f_eq,q1,ae,ae,show bM 0 r=decide (0≤r) from rfl]
    by_cases hr:0≤r
    ·rw [decide_eq_true hr,ac]
     exact ⟨false,rfl,⟨fun h=>(by cases h),fun h=>absurd (h.1 _ (List.mem_cons_self)).2 (q2.1 hr)⟩⟩
    ·rw [decide_eq_false hr,aa]
     obtain ⟨b,z1,z2⟩:=w7 k s h8 hl b1 b2 g1 g2 hk2 n (i+1) (by omega) (by omega)
     have hall:∀ d ∈ s.2.2.2.2[i],aK d=true:=Classical.byContradiction fun h=>hr (q2.2 h)
     refine ⟨b,z1,z2.trans ⟨fun h=>⟨fun l hl=>?_,h.2⟩,fun h=>⟨fun l hl=>h.1 l (List.mem_cons_of_mem _ hl),h.2⟩⟩⟩
     rcases List.mem_cons.1 hl with rfl | hl
     ·exact ⟨by omega,hall⟩
     ·exact h.1 l hl
  ·rw [decide_eq_false hi,aa,g1,g2,ae,ae,List.drop_eq_nil_of_le (by omega)]
   cases b1 <;> cases b2 <;> exact ⟨_,rfl,by simp⟩
theorem uG (k:Nat) (s:de) (hv1:s.2.2.1.1.length=16) (hv2:s.2.2.2.1.1.length=16) (h8:s.2.2.2.2.length=8) (ho:∀ t ∈ s.1,t.2.2.2.2.length<k∧∀ o ∈ t.2.2.2.2,SizO k o) (hrl:∀ l ∈ s.2.2.2.2,l.length<k) (hul:s.2.1.length<k) (hkl:s.2.2.1.2.length<k) (hk:5000<k) (hk2:k<1000000) :
  ∃ b,z1x.f k s=some b∧(b=true ↔ RightS k s):=by
 rw [z1x.f_eq,show aq 1000 (af s.1)=decide (1000<s.1.length) from cq 1000 s.1]
 by_cases hm:1000<s.1.length
 ·rw [decide_eq_true hm];exact ⟨false,rfl,⟨fun h=>(by cases h),fun h=>by have:=h.many;omega⟩⟩
 rw [decide_eq_false hm,aa]
 obtain ⟨b1,g1,i1⟩:=nB k s.1 (by omega) (by omega) hk2
 obtain ⟨b2,g2,i2⟩:=iK k s.2.1 (by omega) hul hk2
 obtain ⟨r,g3,i3⟩:=CH k s.1 ho (by omega) (by omega) hk2 k 0 (by omega) (by omega)
 obtain ⟨b4,g4,i4⟩:=Cn k s.2.2.1 hv1 hk hk2
 obtain ⟨b5,g5,i5⟩:=Cn k s.2.2.2.1 hv2 hk hk2
 obtain ⟨b6,g6,i6⟩:=w7 k s h8 hrl b4 b5 g4 g5 hk2 k 0 (by omega) (by omega)
 rw [show ((0:Nat):Int)=0 from rfl] at g3 g6
 rw [List.drop_zero] at i3 i6
 have bt:ai true=false:=rfl
 have bf:ai false=true:=rfl
 rw [g1,ae]
 cases b1 with
 | false=>rw [bf,ac];exact ⟨false,rfl,⟨fun h=>(by cases h),fun h=>i1.2 h.ris⟩⟩
 | true =>
 rw [bt,aa,g2,ae]
 cases b2 with
 | false=>rw [bf,ac];exact ⟨false,rfl,⟨fun h=>(by cases h),fun h=>i2.2 h.un⟩⟩
 | true =>
 rw [bt,aa,wl k s.1 (by omega) hk2,ae,Bk k _ (by unfold cY;rw [List.length_map];omega) hk2,ae,ED k _ _ hkl hk2,ae,← rL]
 by_cases hkn:s.2.2.1=(cY s.1).foldl ee eA
 case neg=>rw [decide_eq_false hkn,bf,ac];exact ⟨false,rfl,⟨fun h=>(by cases h),fun h=>absurd h.know hkn⟩⟩
 rw [decide_eq_true hkn,bt,aa,z06.f_eq,z0a.f_eq,g3,ae,ae,show bM 0 r=decide (0≤r) from rfl]
 by_cases hr:0≤r
 ·rw [decide_eq_true hr,ac];exact ⟨false,rfl,⟨fun h=>(by cases h),fun h=>absurd h.chk (i3.1 hr)⟩⟩
 ·have hc:∀ t ∈ s.1,z17.f k t=some 0:=Classical.byContradiction fun h=>hr (i3.2 h)
  rw [decide_eq_false hr,aa]
  refine ⟨b6,g6,i6.trans ⟨fun h=>⟨by omega,i1.1 rfl,i2.1 rfl,i5.1 h.2.2,hc,h.1,i4.1 h.2.1,hkn⟩,fun h=>⟨h.redo,i4.2 h.kn,i5.2 h.se⟩⟩⟩
end Go.Proofs.YtfhcammihohmjaaGreatDoor
end
noncomputable section
/- What is told as bytes is read again: numbers. -/
namespace Go.Proofs.YtfhcammihohmjaaGreatDoor
open Pal
theorem yY {s r:List UInt8} {i:Nat} {b:UInt8} (h:s.drop i=b::r):i<s.length∧bd s (i:Int)=((b.toNat:Nat):Int)∧s.drop (i+1)=r:=by
 have hl:i<s.length:=by
  rcases Nat.lt_or_ge i s.length with h1 | h1
  ·exact h1
  ·rw [List.drop_eq_nil_of_le h1] at h;cases h
 rw [List.drop_eq_getElem_cons hl] at h
 injection h with h1 h2
 refine ⟨hl,?_,h2⟩
 unfold bd
 rw [Int.toNat_natCast,List.getD_eq_getElem?_getD,List.getElem?_eq_getElem hl,h1];rfl
theorem Bi (k:Nat) (s t:List UInt8) (hS:s.length<4000000):∀ (j i v n m:Nat),i+j=8→j+1≤m→n<2 ^ (7 * j)→(0<i→0<n)→v<2 ^ (7 * i)→s.drop i=al n++t →
  z0G.l3 k m (v:Int) (i:Int) (s,0)=some (((2 ^ (7 * i) * n+v:Nat):Int),(t,0))
 | 0,i,v,n,m,hj,_,hn,hp,_,_=>by
  have h0:n<1:=hn
  have:=hp (by omega);omega
 | j+1,i,v,n,0,hj,hm,_,_,_,_=>by omega
 | j+1,i,v,n,m+1,hj,hm,hn,hp,hv,hd=>by
  have hi8:i<8:=by omega
  have e1:az (i:Int) 8=false:=by rw [aW];exact decide_eq_false (by omega)
  have e7:aq (gB .i64 7 (i:Int)) 0=false:=by
   show decide (IntKind.wrap .i64 (7 * (i:Int))<0)=false
   rw [cU (by omega) (by omega)];exact decide_eq_false (by omega)
  have e12:aH .i64 (i:Int) 1=((i+1:Nat):Int):=aB (by omega)
  obtain ⟨c,b,r,hb,hc,hcb,hc256⟩:∃ (c:Nat) (b:UInt8) (r:List UInt8),al n++t=b::r∧b.toNat=c∧(if n<128 then c=n∧r=t else c=n % 128+128∧r=al (n / 128)++t)∧c<256:=by
   by_cases h:n<128
   ·refine ⟨n,UInt8.ofNat n,t,by rw [jc h];rfl,?_,by rw [if_pos h];exact ⟨rfl,rfl⟩,by omega⟩
    rw [UInt8.toNat_ofNat'];omega
   ·refine ⟨n % 128+128,UInt8.ofNat (n % 128+128),al (n / 128)++t,by rw [kK h];rfl,?_,by rw [if_neg h];exact ⟨rfl,rfl⟩,by omega⟩
    rw [UInt8.toNat_ofNat'];omega
  rw [hb] at hd
  obtain ⟨hl,hby,hdr⟩:=yY hd
  rw [hc] at hby
  have e4:bM (af s) (i:Int)=false:=by unfold bM af;exact decide_eq_false (by omega)
  have e6:bO (i:Int) s=true:=by rw [aQ];exact decide_eq_true hl
  have hw:bj .i64 (c:Int)=(c:Int):=cU (by omega) (by omega)
  obtain ⟨g1,g2⟩:=qL (c:=c) hi8 hc256 hv
  have e8:bM 128 (c:Int)=decide (128≤c):=by unfold bM;exact decide_eq_decide.2 ⟨fun h=>by omega,fun h=>by omega⟩
  have e10:az (c:Int) 0=decide (c=0):=by rw [aW];exact decide_eq_decide.2 ⟨fun h=>by omega,fun h=>by omega⟩
  have e11:aq 0 (i:Int)=decide (0<i):=bA 0 i
  rw [z0G.l3_eq,fl]
  simp only [ae,decide_true,ac,e1,aa,e4,e6,e7,hby,hw,e8,e10,e11,g1,e12]
  by_cases h:n<128
  ·rw [if_pos h] at hcb
   obtain ⟨hcn,hr⟩:=hcb
   have hcm:c % 128=n:=by omega
   have hc2:¬ 128≤c:=by omega
   rw [decide_eq_false hc2,aa,hcm]
   have hin:eE ((i+1:Nat):Int) (af s) (af s)=true:=by
    have q1:((i+1:Nat):Int)≤(s.length:Int):=by omega
    show (decide ((0:Int)≤((i+1:Nat):Int)) && decide (((i+1:Nat):Int)≤(s.length:Int)) && decide ((s.length:Int)≤(s.length:Int)))=true
    rw [decide_eq_true q1,decide_eq_true (show (0:Int)≤((i+1:Nat):Int) by omega),decide_eq_true (Int.le_refl _)];rfl
   have hpc:ba s ((i+1:Nat):Int) (af s)=t:=by
    unfold ba af
    rw [Int.toNat_natCast,Int.toNat_natCast,List.take_length,hdr,hr]
   rw [hin,hpc,ac]
   by_cases hc0:c=0
   ·have h0:¬ 0<i:=fun h=>by have:=hp h;omega
    rw [decide_eq_true hc0,decide_eq_false h0];rfl
   ·rw [decide_eq_false hc0];rfl
  ·rw [if_neg h] at hcb
   obtain ⟨hcn,hr⟩:=hcb
   have hcm:c % 128=n % 128:=by omega
   have hc2:128≤c:=by omega
   rw [decide_eq_true hc2,ac,hcm]
   rw [hcm] at g2
   have e2:2 ^ (7 * (j+1))=2 ^ (7 * j) * 128:=by rw [show 7 * (j+1)=7 * j+7 by omega,Nat.pow_add]
   have e3:2 ^ (7 * (i+1))=2 ^ (7 * i) * 128:=by rw [show 7 * (i+1)=7 * i+7 by omega,Nat.pow_add]
   rw [Bi k s t hS j (i+1) _ (n / 128) m (by omega) (by omega) (by rw [e2] at hn;omega) (fun _=>by omega) g2 (by rw [hdr,hr])]
   have e5:2 ^ (7 * (i+1)) * (n / 128)+(2 ^ (7 * i) * (n % 128)+v)=2 ^ (7 * i) * n+v:=by
    have e9:2 ^ (7 * i) * n=2 ^ (7 * i) * (128 * (n / 128)+n % 128):=by rw [Nat.div_add_mod]
    rw [e3,e9,Nat.mul_add,Nat.mul_assoc];omega
   rw [e5]
theorem bS (k n:Nat) (t:List UInt8) (hk:12<k) (hn:n<72057594037927936) (hS:(al n++t).length<4000000):z0G.f k (al n++t,0)=some ((n:Int),(t,0)):=by
 rw [z0G.f_eq]
 have:=Bi k (al n++t) t hS 8 0 0 n k (by omega) (by omega) (by show n<2 ^ 56;exact hn) (fun h=>by omega) (by decide) rfl
 simpa using this
end Go.Proofs.YtfhcammihohmjaaGreatDoor
end
noncomputable section
/- What is told as bytes is read again: dots, vectors, rows of dots and sets. -/
namespace Go.Proofs.YtfhcammihohmjaaGreatDoor
open Pal
def cj (d:bu):List UInt8:=al d.1.toNat++al d.2.toNat
def qN (v:iH):List UInt8:=List.flatMap (fun n:Int=>al n.toNat) v
def dD (l:List bu):List UInt8:=al l.length++l.flatMap cj
def kI (s:dv):List UInt8:=qN s.1++dD s.2
theorem jC {d:bu} (h:aK d=true):0≤d.1∧d.1<16∧1≤d.2∧d.2≤1048576:=of_decide_eq_true h
theorem kw (k:Nat) (d:bu) (t:List UInt8) (hd:aK d=true) (hk:12<k) (hS:(cj d++t).length<4000000):z2O.f k (cj d++t,0)=some (d,(t,0)):=by
 obtain ⟨h1,h2,h3,h4⟩:=jC hd
 have e1:((d.1.toNat:Nat):Int)=d.1:=Int.toNat_of_nonneg h1
 have e2:((d.2.toNat:Nat):Int)=d.2:=Int.toNat_of_nonneg (by omega)
 have ea:cj d++t=al d.1.toNat++(al d.2.toNat++t):=by unfold cj;rw [List.append_assoc]
 rw [ea] at hS ⊢
 have hS2:(al d.2.toNat++t).length<4000000:=by rw [List.length_append] at hS;omega
 rw [z2O.f_eq,bS k _ _ hk (by omega) hS]
 simp only [ae]
 rw [bS k _ _ hk (by omega) hS2,e1,e2]
 have bt:ai true=false:=rfl
 simp only [ae,cp,aW,decide_true,ac,dN,hd,bt,aa]
theorem ny (d:bu):0<(cj d).length:=by
 unfold cj;rw [List.length_append];have:=gy d.1.toNat;omega
theorem gq {α:Type} (f:α→List UInt8) (hf:∀ x,0<(f x).length):∀ (l:List α),l.length≤(l.flatMap f).length
 | []=>by simp
 | x::l=>by
  have:=gq f hf l;have:=hf x
  simp only [List.flatMap_cons,List.length_append,List.length_cons];omega
theorem i7 (k n:Nat) (most:Int) (t:List UInt8) (hk:12<k) (hn:n<72057594037927936) (hm:(n:Int)≤most) (hl:n≤t.length) (hS:(al n++t).length<4000000):z0y.f k most (al n++t,0)=some ((n:Int),(t,0)):=by
 rw [z0y.f_eq,bS k n t hk hn hS]
 have e1:aq most (n:Int)=false:=decide_eq_false (by omega)
 have e2:aq (af t) (n:Int)=false:=by unfold aq af;exact decide_eq_false (by omega)
 have bt:ai true=false:=rfl
 simp only [ae,fl,decide_true,bt,aa,e1,e2]
theorem yR (k:Nat) (hk:12<k) (N:Nat) (hN:N<1000000) (t:List UInt8):∀ (n i:Nat) (x l:List bu),i+l.length=N→N<n+i→x.length=i→(∀ d ∈ l,aK d=true)→(l.flatMap cj++t).length<4000000 →
  z0M.l3 k n x (N:Int) (i:Int) (l.flatMap cj++t,0)=some (x++l,(t,0))
 | 0,i,_,_,h,h',_,_,_=>by omega
 | n+1,i,x,[],h,_,_,_,_=>by
  have hi:N=i:=by simpa using h.symm
  subst hi
  rw [z0M.l3_eq,bA,decide_eq_false (Nat.lt_irrefl _)]
  have bt:ai true=false:=rfl
  simp only [aa,cp,ae,aW,decide_true,bt,List.append_nil,List.flatMap_nil,List.nil_append]
 | n+1,i,x,d::l,h,h',hx,hr,hS=>by
  simp only [List.length_cons] at h
  have e4:aH .i64 (i:Int) 1=((i+1:Nat):Int):=aB (by omega)
  have ea:(d::l).flatMap cj++t=cj d++(l.flatMap cj++t):=by rw [List.flatMap_cons,List.append_assoc]
  rw [ea] at hS ⊢
  have hS2:(l.flatMap cj++t).length<4000000:=by rw [List.length_append] at hS;omega
  rw [z0M.l3_eq,bA,decide_eq_true (show i<N by omega),kw k d _ (hr d (by simp)) hk hS,e4]
  simp only [ac,ae,fX (show x.length<4000000 by omega)]
  have:=yR k hk N hN t n (i+1) (app x (d::[])) l (by omega) (by omega) (by simp [app,hx]) (fun e he=>hr e (List.mem_cons_of_mem _ he)) hS2
  refine this.trans ?_
  simp [app]
theorem nT (k:Nat) (l:List bu) (most:Int) (t:List UInt8) (hr:∀ d ∈ l,aK d=true) (hm:(l.length:Int)≤most) (hk:12<k) (hl:l.length<k) (hk2:k<1000000) (hS:(dD l++t).length<4000000) :
  z0M.f k most (dD l++t,0)=some (l,(t,0)):=by
 have ea:dD l++t=al l.length++(l.flatMap cj++t):=by unfold dD;rw [List.append_assoc]
 rw [ea] at hS ⊢
 have hS2:(l.flatMap cj++t).length<4000000:=by rw [List.length_append] at hS;omega
 have hlen:=gq cj ny l
 rw [z0M.f_eq,i7 k _ most _ hk (by omega) hm (by rw [List.length_append];omega) hS]
 simp only [ae]
 exact yR k hk l.length (by omega) t k 0 [] l (by omega) (by omega) rfl hr hS2
theorem yH (k:Nat) (hk:17<k) (v za:iH) (hv:VOk v) (t:List UInt8):∀ (n i:Nat) (x:iH),i≤16→16<n+i→x.length=16→(∀ j:Nat,j<i→x[j]? = v[j]?)→(List.flatMap (fun n:Int=>al n.toNat) (List.drop i v)++t).length<4000000 →
  z30.l3 k n (i:Int) za x (List.flatMap (fun n:Int=>al n.toNat) (List.drop i v)++t,0)=some (v,(t,0))
 | 0,i,_,h,h',_,_,_=>by omega
 | n+1,i,x,h,h',hx,hj,hS=>by
  have hvl:=hv.len
  rw [z30.l3_eq,show aq (i:Int) 16=decide (i<16) from bA i 16,dS]
  by_cases hi:i<16
  ·have hil:i<List.length v:=by omega
   have hge:0≤v[i]∧v[i]≤1048576:=by
    have h1:=hv.lo (i:Int) (by omega) (by omega)
    have h2:=hv.hi (i:Int) (by omega) (by omega)
    have e:dh v (i:Int)=v[i]:=by
     unfold dh
     first
      | (rw [au];exact aT (e:=.int .i64) hil)
      | (rw [Int.toNat_natCast,List.getD_eq_getElem?_getD,List.getElem?_eq_getElem hil];rfl)
    rw [e] at h1 h2;exact ⟨h1,h2⟩
   have ed:List.drop i v=v[i]::List.drop (i+1) v:=List.drop_eq_getElem_cons hil
   have ea:List.flatMap (fun n:Int=>al n.toNat) (List.drop i v)++t=al v[i].toNat++(List.flatMap (fun n:Int=>al n.toNat) (List.drop (i+1) v)++t):=by
    rw [ed,List.flatMap_cons,List.append_assoc]
   rw [ea] at hS ⊢
   have hS2:(List.flatMap (fun n:Int=>al n.toNat) (List.drop (i+1) v)++t).length<4000000:=by rw [List.length_append] at hS;omega
   have e4:aH .i64 (i:Int) 1=((i+1:Nat):Int):=aB (by omega)
   rw [decide_eq_true hi,bS k _ _ (by omega) (by omega) hS,e4,Int.toNat_of_nonneg hge.1,au]
   simp only [ac,ae]
   refine yH k hk v za hv t n (i+1) (ja x i v[i]) (by omega) (by omega) (by rw [EG];exact hx) (fun j hj'=>?_) hS2
   show (List.set x i v[i])[j]? = v[j]?
   by_cases hji:j=i
   ·subst hji;rw [List.getElem?_set_self (by omega),List.getElem?_eq_getElem hil]
   ·rw [List.getElem?_set_ne (by omega)];exact hj j (by omega)
  ·have hi16:i=16:=by omega
   subst hi16
   have hxv:x=v:=List.ext_getElem? fun j=>by
    by_cases hj16:j<16
    ·exact hj j hj16
    ·rw [List.getElem?_eq_none (by omega),List.getElem?_eq_none (by omega)]
   subst hxv
   obtain ⟨b,g1,i1⟩:=EZ k x hx hk
   have hb:b=true:=i1.2 hv
   subst hb
   have e0:List.drop 16 x=[]:=List.drop_eq_nil_of_le (by omega)
   have bt:ai true=false:=rfl
   rw [decide_eq_false hi,e0]
   simp only [aa,ae,g1,cp,aW,decide_true,ac,bt,List.flatMap_nil,List.nil_append]
theorem C9 (k:Nat) (v:iH) (t:List UInt8) (hv:VOk v) (hk:17<k) (hS:(qN v++t).length<4000000):z30.f k (qN v++t,0)=some (v,(t,0)):=by
 rw [z30.f_eq]
 exact yH k hk v (aV 16 0) hv t k 0 (aV 16 0) (by omega) (by omega) rfl (fun j hj=>by omega) hS
theorem Ao (k:Nat) (s:dv) (t:List UInt8) (hs:Can s) (hm:s.2.length≤4096) (hk:5000<k) (hk2:k<1000000) (hS:(kI s++t).length<4000000):z2E.f k (kI s++t,0)=some (s,(t,0)):=by
 have ea:kI s++t=qN s.1++(dD s.2++t):=by unfold kI;rw [List.append_assoc]
 rw [ea] at hS ⊢
 have hS2:(dD s.2++t).length<4000000:=by rw [List.length_append] at hS;omega
 obtain ⟨b,g1,i1⟩:=Cn k s hs.vok.len hk hk2
 have hb:b=true:=i1.2 ⟨hs,hm⟩
 subst hb
 have bt:ai true=false:=rfl
 rw [z2E.f_eq,C9 k s.1 _ hs.vok (by omega) hS]
 simp only [ae]
 rw [nT k s.2 4096 t hs.rt (by omega) (by omega) (by omega) hk2 hS2]
 have g2:z2e.f k (s.1,s.2)=some true:=g1
 simp only [ae,cp,aW,decide_true,ac,g2,bt,aa]
end Go.Proofs.YtfhcammihohmjaaGreatDoor
end
noncomputable section
/- Knowledge: the program and the document read the same, and what is told is read again. -/
namespace Go.Proofs.YtfhcammihohmjaaGreatDoor
open Pal
def cO (u:bq):List UInt8:=cj u.1++al u.2.toNat
def cA (l:List bq):List UInt8:=al l.length++l.flatMap cO
theorem bk {a b:List UInt8} (h1:a.length≤4000000000) (h2:b.length≤4000000000):bz a b=true:=decide_eq_true (by omega)
theorem aZ {n:Nat} (h:n<72057594037927936):(al n).length≤8:=fE 7 n h
theorem eZ {d:bu} (h:aK d=true):(cj d).length≤16:=by
 obtain ⟨h1,h2,h3,h4⟩:=jC h
 have:=aZ (n:=d.1.toNat) (by omega)
 have:=aZ (n:=d.2.toNat) (by omega)
 unfold cj;rw [List.length_append];omega
theorem uB {u:bq} (h:cL u=true):(cO u).length≤24:=by
 obtain ⟨h1,h2,h3⟩:=(cD u).1 h
 have:=eZ h1
 have:=aZ (n:=u.2.toNat) (by omega)
 unfold cO;rw [List.length_append];omega
theorem dp {α:Type} (f:α→List UInt8) (c:Nat):∀ (l:List α),(∀ x ∈ l,(f x).length≤c)→(l.flatMap f).length≤c * l.length
 | [],_=>by simp
 | x::l,h=>by
  have h1:=h x (by simp)
  have h2:=dp f c l (fun y hy=>h y (List.mem_cons_of_mem _ hy))
  rw [List.flatMap_cons,List.length_append,List.length_cons,Nat.mul_add,Nat.mul_one];omega
theorem kg (k:Nat) {d:bu} (h:aK d=true):z2P.f k d=some (cj d):=by
 obtain ⟨h1,h2,h3,h4⟩:=jC h
 have p1:=aZ (n:=d.1.toNat) (by omega)
 have p2:=aZ (n:=d.2.toNat) (by omega)
 rw [z2P.f_eq,cr (n:=d.1) (by omega),cr (n:=d.2) (by omega)]
 simp only [ae]
 rw [bk (by omega) (by omega)];rfl
theorem zW (k:Nat) (v:iH) (hv:VOk v):∀ (n i:Nat) (x:List UInt8),i≤16→16<n+i→x.length≤100+8 * i→z2W.l3 k n x v (i:Int)=some (x++List.flatMap (fun n:Int=>al n.toNat) (List.drop i v))
 | 0,i,_,h,h',_=>by omega
 | n+1,i,x,h,h',hx=>by
  have hvl:=hv.len
  rw [z2W.l3_eq,show aq (i:Int) 16=decide (i<16) from bA i 16,dS,au]
  by_cases hi:i<16
  ·have hil:i<List.length v:=by omega
   have e:rd (.int .i64) v i=v[i]:=aT (e:=.int .i64) hil
   have hge:0≤v[i]∧v[i]≤1048576:=by
    have h1:=hv.lo (i:Int) (by omega) (by omega)
    have h2:=hv.hi (i:Int) (by omega) (by omega)
    rw [iO hil] at h1 h2;exact ⟨h1,h2⟩
   have e4:aH .i64 (i:Int) 1=((i+1:Nat):Int):=aB (by omega)
   have hp:(al v[i].toNat).length≤8:=aZ (by omega)
   have ed:List.drop i v=v[i]::List.drop (i+1) v:=List.drop_eq_getElem_cons hil
   rw [decide_eq_true hi,e,cr (n:=v[i]) (by omega),e4,ed,List.flatMap_cons]
   simp only [ac,ae]
   rw [bk (by omega) (by omega),ac]
   refine (zW k v hv n (i+1) _ (by omega) (by omega) (by unfold app;rw [List.length_append];omega)).trans ?_
   unfold app;rw [List.append_assoc]
  ·have e0:List.drop i v=[]:=List.drop_eq_nil_of_le (by omega)
   rw [decide_eq_false hi,aa,e0];simp
theorem BQ (k:Nat) {v:iH} (hv:VOk v) (hk:17<k):z2W.f k v=some (qN v):=by
 rw [z2W.f_eq]
 exact zW k v hv k 0 [] (by omega) (by omega) (by simp)
theorem vW {v:iH} (hv:VOk v):(qN v).length≤128:=by
 have hvl:=hv.len
 have:=dp (fun n:Int=>al n.toNat) 8 v (fun x hx=>by
  obtain ⟨i,hi,rfl⟩:=List.getElem_of_mem hx
  have h1:=hv.lo (i:Int) (by omega) (by omega)
  have h2:=hv.hi (i:Int) (by omega) (by omega)
  rw [iO hi] at h1 h2
  exact aZ (by omega))
 unfold qN;omega
theorem yX (k:Nat) (l:List bu) (hr:∀ d ∈ l,aK d=true) (hl:l.length<1000000):∀ (n i:Nat) (x:List UInt8),i≤l.length→l.length<n+i→x.length≤100+16 * i→z2g.l3 k n x l (af l) (i:Int)=some (x++(l.drop i).flatMap cj)
 | 0,i,_,h,h',_=>by omega
 | n+1,i,x,h,h',hx=>by
  rw [z2g.l3_eq,aO,aQ,au]
  by_cases hi:i<l.length
  ·have hd:=hr l[i] (List.getElem_mem hi)
   have hp:=eZ hd
   have e4:aH .i64 (i:Int) 1=((i+1:Nat):Int):=aB (by omega)
   have ed:l.drop i=l[i]::l.drop (i+1):=List.drop_eq_getElem_cons hi
   rw [decide_eq_true hi,aT (e:=ah) hi,kg k hd,e4,ed,List.flatMap_cons]
   simp only [ac,ae]
   rw [bk (by omega) (by omega),ac]
   refine (yX k l hr hl n (i+1) _ (by omega) (by omega) (by unfold app;rw [List.length_append];omega)).trans ?_
   unfold app;rw [List.append_assoc]
  ·have e0:l.drop i=[]:=List.drop_eq_nil_of_le (by omega)
   rw [decide_eq_false hi,aa,e0];simp
theorem po (k:Nat) {l:List bu} (hr:∀ d ∈ l,aK d=true) (hl:l.length<k) (hk:k<1000000):z2g.f k l=some (dD l):=by
 have e:(af l).toNat=l.length:=rfl
 have hp:=aZ (n:=l.length) (by omega)
 rw [z2g.f_eq,cr (n:=af l) (by unfold af;omega),e,ae]
 exact yX k l hr (by omega) k 0 _ (by omega) (by omega) (by omega)
theorem kC {l:List bu} (hr:∀ d ∈ l,aK d=true) (hl:l.length<1000000):(dD l).length≤8+16 * l.length:=by
 have hp:=aZ (n:=l.length) (by omega)
 have:=dp cj 16 l (fun d hd=>eZ (hr d hd))
 unfold dD;rw [List.length_append];omega
theorem BI (k:Nat) {s:dv} (hs:Can s) (hl:s.2.length<k) (h17:17<k) (hk:k<1000000):z2v.f k s=some (kI s):=by
 have h1:=vW hs.vok
 have h2:=kC hs.rt (by omega)
 rw [z2v.f_eq,BQ k hs.vok h17,po k hs.rt hl hk]
 simp only [ae]
 rw [bk (by omega) (by omega)];rfl
theorem uD {s:dv} (hs:Can s) {n:Nat} (hl:s.2.length≤n) (hn:n<1000000):(kI s).length≤136+16 * n:=by
 have h1:=vW hs.vok
 have h2:=kC hs.rt (by omega)
 unfold kI;rw [List.length_append];omega
theorem zj (k:Nat) (l:List bq) (hr:∀ u ∈ l,cL u=true) (hl:l.length<1000000):∀ (n i:Nat) (x:List UInt8),i≤l.length→l.length<n+i→x.length≤100+24 * i→z1S.l3 k n x l (af l) (i:Int)=some (x++(l.drop i).flatMap cO)
 | 0,i,_,h,h',_=>by omega
 | n+1,i,x,h,h',hx=>by
  rw [z1S.l3_eq,aO,aQ,au]
  by_cases hi:i<l.length
  ·have hd:=hr l[i] (List.getElem_mem hi)
   obtain ⟨hd1,hd2,hd3⟩:=(cD _).1 hd
   have hp:=uB hd
   have hp1:=eZ hd1
   have hp2:=aZ (n:=l[i].2.toNat) (by omega)
   have e4:aH .i64 (i:Int) 1=((i+1:Nat):Int):=aB (by omega)
   have ed:l.drop i=l[i]::l.drop (i+1):=List.drop_eq_getElem_cons hi
   rw [decide_eq_true hi,aT (e:=ak) hi,kg k hd1,cr (n:=l[i].2) (by omega),e4,ed,List.flatMap_cons]
   simp only [ac,ae]
   rw [bk (by omega) (by omega),ac]
   have ea:app (cj l[i].1) (al l[i].2.toNat)=cO l[i]:=rfl
   rw [ea,bk (by omega) (by omega),ac]
   refine (zj k l hr hl n (i+1) _ (by omega) (by omega) (by unfold app;rw [List.length_append];omega)).trans ?_
   unfold app;rw [List.append_assoc]
  ·have e0:l.drop i=[]:=List.drop_eq_nil_of_le (by omega)
   rw [decide_eq_false hi,aa,e0];simp
theorem wi (k:Nat) {l:List bq} (hr:∀ u ∈ l,cL u=true) (hl:l.length<k) (hk:k<1000000):z1S.f k l=some (cA l):=by
 have e:(af l).toNat=l.length:=rfl
 have hp:=aZ (n:=l.length) (by omega)
 rw [z1S.f_eq,cr (n:=af l) (by unfold af;omega),e,ae]
 exact zj k l hr (by omega) k 0 _ (by omega) (by omega) (by omega)
theorem vx {l:List bq} (hr:∀ u ∈ l,cL u=true) {n:Nat} (hl:l.length≤n) (hn:n<1000000):(cA l).length≤8+24 * n:=by
 have hp:=aZ (n:=l.length) (by omega)
 have:=dp cO 24 l (fun d hd=>uB (hr d hd))
 unfold cA;rw [List.length_append];omega
theorem rN (u:bq):0<(cO u).length:=by
 unfold cO;rw [List.length_append];have:=ny u.1;omega
theorem yZ (k:Nat) (h12:12<k) (N:Nat) (hN:N<1000000) (hNk:N<k) (hk2:k<1000000) (t:List UInt8):∀ (n i:Nat) (x l:List bq),i+l.length=N→N<n+i→x.length=i→(∀ d ∈ l,cL d=true)→CanU (x++l)→(l.flatMap cO++t).length<4000000 →
  z1L.l3 k n x (N:Int) (i:Int) (l.flatMap cO++t,0)=some (x++l,(t,0))
 | 0,i,_,_,h,h',_,_,_,_=>by omega
 | n+1,i,x,[],h,_,hx,_,hc,_=>by
  have hi:N=i:=by simpa using h.symm
  subst hi
  rw [List.append_nil] at hc
  obtain ⟨b1,g1,i1⟩:=iK k x (by omega) (by omega) hk2
  have hb:b1=true:=i1.2 hc
  subst hb
  rw [z1L.l3_eq,bA,decide_eq_false (Nat.lt_irrefl _)]
  have bt:ai true=false:=rfl
  simp only [aa,cp,ae,aW,decide_true,ac,g1,bt,List.append_nil,List.flatMap_nil,List.nil_append]
 | n+1,i,x,d::l,h,h',hx,hr,hc,hS=>by
  simp only [List.length_cons] at h
  have hd:=hr d (by simp)
  obtain ⟨hd1,hd2,hd3⟩:=(cD _).1 hd
  have e4:aH .i64 (i:Int) 1=((i+1:Nat):Int):=aB (by omega)
  have ea:(d::l).flatMap cO++t=cj d.1++(al d.2.toNat++(l.flatMap cO++t)):=by rw [List.flatMap_cons,cO,List.append_assoc,List.append_assoc]
  rw [ea] at hS ⊢
  have hS2:(al d.2.toNat++(l.flatMap cO++t)).length<4000000:=by rw [List.length_append] at hS;omega
  have hS3:(l.flatMap cO++t).length<4000000:=by rw [List.length_append] at hS2;omega
  rw [z1L.l3_eq,bA,decide_eq_true (show i<N by omega),kw k d.1 _ hd1 h12 hS,e4]
  simp only [ac,ae]
  rw [bS k d.2.toNat _ h12 (by omega) hS2]
  simp only [ae]
  rw [fX (show x.length<4000000 by omega),ac,Int.toNat_of_nonneg (by omega)]
  have:=yZ k h12 N hN hNk hk2 t n (i+1) (app x (d::[])) l (by omega) (by omega) (by simp [app,hx]) (fun e he=>hr e (List.mem_cons_of_mem _ he)) (by unfold app;rw [List.append_assoc];exact hc) hS3
  refine this.trans ?_
  simp [app]
theorem pc (k:Nat) (l:List bq) (most:Int) (t:List UInt8) (hc:CanU l) (hm:(l.length:Int)≤most) (hk:12<k) (hl:l.length<k) (hk2:k<1000000) (hS:(cA l++t).length<4000000) :
  z1L.f k most (cA l++t,0)=some (l,(t,0)):=by
 have ea:cA l++t=al l.length++(l.flatMap cO++t):=by unfold cA;rw [List.append_assoc]
 rw [ea] at hS ⊢
 have hS2:(l.flatMap cO++t).length<4000000:=by rw [List.length_append] at hS;omega
 have hlen:=gq cO rN l
 rw [z1L.f_eq,i7 k _ most _ hk (by omega) hm (by rw [List.length_append];omega) hS]
 simp only [ae]
 exact yZ k hk l.length (by omega) (by omega) hk2 t k 0 [] l (by omega) (by omega) rfl hc.rt hc hS2
end Go.Proofs.YtfhcammihohmjaaGreatDoor
end
noncomputable section
/- How long a transaction's parts are. -/
namespace Go.Proofs.YtfhcammihohmjaaGreatDoor
open Pal
structure SizT (k:Nat) (t:cG):Prop where
 ops:t.2.2.2.2.length<k
 each:∀ o ∈ t.2.2.2.2,SizO k o
theorem SizT.len {k:Nat} {t:cG} (h:SizT k t):LenT k t:=⟨h.ops,fun o ho=>⟨(h.each o ho).names,(h.each o ho).seen⟩⟩
theorem xk (k:Nat) (t:cG) (h:z17.f k t=some 0):aK t.1=true:=by
 rw [z17.f_eq,dK,ae] at h
 cases hr:aK t.1 with
 | true=>rfl
 | false =>
  rw [hr] at h
  have bf:ai false=true:=rfl
  rw [bf,ac] at h
  cases h
theorem SizT.chk {k:Nat} {t:cG} (h:SizT k t) (hk:10<k) (hk2:k<1000000):∃ e:Int,z17.f k t=some e∧(e=0→aK t.1=true):=by
 obtain ⟨e,_,g⟩:=jR k t h.each h.ops hk hk2
 exact ⟨e,g,fun he=>xk k t (by rw [g,he])⟩
end Go.Proofs.YtfhcammihohmjaaGreatDoor
end
noncomputable section
/- Transactions and lists of them: the program and the document read the same. -/
namespace Go.Proofs.YtfhcammihohmjaaGreatDoor
open Pal
end Go.Proofs.YtfhcammihohmjaaGreatDoor
end
noncomputable section
/- A state is read: the program and the document do the same. -/
namespace Go.Proofs.YtfhcammihohmjaaGreatDoor
open Pal
abbrev Rows:=Ty.D (.arr 8 (.slc ah))
def bE:de:=([],([],((aV 16 0,[]),((aV 16 0,[]),aV 8 []))))
theorem m7 (n:Nat):LenS n bE:=⟨by simp [bE],by simp [bE],by simp [bE],by simp [bE],fun l hl=>by
 have:l=[]:=by
  have:l ∈ List.replicate 8 ([]:List bu):=hl
  exact (List.mem_replicate.1 this).2
 subst this;simp⟩
theorem EB {R:List (List bu)} {i n:Nat} {l:List bu} (h:∀ l ∈ R,l.length≤n) (hl:l.length≤n):∀ l' ∈ R.set i l,l'.length≤n:=by
 intro l' hl'
 rcases List.mem_or_eq_of_mem_set hl' with h1 | rfl
 ·exact h _ h1
 ·exact hl
end Go.Proofs.YtfhcammihohmjaaGreatDoor
end
noncomputable section
/- What is told of texts, paths, values and operations is read again. -/
namespace Go.Proofs.YtfhcammihohmjaaGreatDoor
open Pal
def df (s:iG):List UInt8:=al (List.length s)++s
theorem ib (s:iG) (h:List.length s<1000000):(df s).length≤8+List.length s:=by
 have:=aZ (n:=List.length s) (by omega)
 unfold df;rw [List.length_append];omega
theorem A4 (s:iG):0<(df s).length:=by
 unfold df;rw [List.length_append];have:=gy (List.length s);omega
theorem nS (k:Nat) (s:iG) (h:List.length s<1000000):z2z.f k s=some (df s):=by
 have e:(af s).toNat=List.length s:=rfl
 have hp:=aZ (n:=List.length s) (by omega)
 rw [z2z.f_eq,cr (n:=af s) (by unfold af;omega),e,ae,bk (by omega) (by omega)];rfl
theorem ss (k:Nat) (s:iG) (t:List UInt8) (hk:12<k) (hS:(df s++t).length<4000000):z0B.f k (df s++t,0)=some (s,(t,0)):=by
 have ea:df s++t=al (List.length s)++(s++t):=by unfold df;rw [List.append_assoc]
 rw [ea] at hS ⊢
 have hl:List.length s≤(s++t).length:=by rw [List.length_append];omega
 have hS2:(s++t).length<4000000:=by rw [List.length_append] at hS;omega
 have e1:aq (af (s++t)) (List.length s:Int)=false:=by unfold aq af;exact decide_eq_false (by omega)
 have i1:eE 0 (List.length s:Int) (af (s++t))=true:=fw (a:=0) (by omega) hl
 have i2:eE (List.length s:Int) (af (s++t)) (af (s++t))=true:=fw (b:=(s++t).length) (c:=(s++t).length) hl (by omega)
 have p1:ba (s++t) 0 (List.length s:Int)=s:=by unfold ba;simp
 have p2:ba (s++t) (List.length s:Int) (af (s++t))=t:=by
  unfold ba af;rw [Int.toNat_natCast,Int.toNat_natCast,List.take_length];simp
 have bt:ai true=false:=rfl
 rw [z0B.f_eq,bS k _ _ hk (by omega) hS]
 simp only [ae,fl,decide_true,ac,e1,aa,bt,i1,i2,p1,p2]
def cP (p:List iG):List UInt8:=al p.length++p.flatMap df
theorem wz {p:List iG} (h:ks p):(cP p).length≤1544:=by
 have hp:=aZ (n:=p.length) (by have:=h.1;omega)
 have:=dp df 128 p (fun s hs=>by have h1:=h.2 s hs;have:=ib s (by omega);omega)
 have h1:=h.1
 unfold cP;rw [List.length_append];omega
theorem zf (k:Nat) (p:List iG) (hs:∀ s ∈ p,List.length s≤120) (hl:p.length<10000):∀ (n i:Nat) (x:List UInt8),i≤p.length→p.length<n+i→x.length≤100+128 * i→z2t.l3 k n x p (af p) (i:Int)=some (x++(p.drop i).flatMap df)
 | 0,i,_,h,h',_=>by omega
 | n+1,i,x,h,h',hx=>by
  rw [z2t.l3_eq,aO,aQ,au]
  by_cases hi:i<p.length
  ·have hd:=hs p[i] (List.getElem_mem hi)
   have hp:=ib p[i] (by omega)
   have e4:aH .i64 (i:Int) 1=((i+1:Nat):Int):=aB (by omega)
   have ed:p.drop i=p[i]::p.drop (i+1):=List.drop_eq_getElem_cons hi
   rw [decide_eq_true hi,aT (e:=.str) hi,nS k _ (by omega),e4,ed,List.flatMap_cons]
   simp only [ac,ae]
   rw [bk (by omega) (by omega),ac]
   refine (zf k p hs hl n (i+1) _ (by omega) (by omega) (by unfold app;rw [List.length_append];omega)).trans ?_
   unfold app;rw [List.append_assoc]
  ·have e0:p.drop i=[]:=List.drop_eq_nil_of_le (by omega)
   rw [decide_eq_false hi,aa,e0];simp
theorem kf (k:Nat) {p:List iG} (h:ks p) (hk:12<k) (hk2:k<1000000):z2t.f k p=some (cP p):=by
 have h1:=h.1
 have e:(af p).toNat=p.length:=rfl
 have hp:=aZ (n:=p.length) (by omega)
 rw [z2t.f_eq,cr (n:=af p) (by unfold af;omega),e,ae]
 exact zf k p h.2 (by omega) k 0 _ (by omega) (by omega) (by omega)
theorem zX (k:Nat) (hk:12<k) (N:Nat) (hN:N<10000) (t:List UInt8) (p:List iG) (hc:z1Q.f k p=some 0):∀ (n i:Nat) (x l:List iG),i+l.length=N→N<n+i→x.length=i→x++l=p→(l.flatMap df++t).length<4000000 →
  z2J.l3 k n x (N:Int) (i:Int) (l.flatMap df++t,0)=some (p,(t,0))
 | 0,i,_,_,h,h',_,_,_=>by omega
 | n+1,i,x,[],h,_,_,hp,_=>by
  have hi:N=i:=by simpa using h.symm
  subst hi
  rw [List.append_nil] at hp
  subst hp
  rw [z2J.l3_eq,bA,decide_eq_false (Nat.lt_irrefl _)]
  have bt:ai true=false:=rfl
  simp only [aa,cp,ae,aW,decide_true,ac,hc,fN,if_true,bt,List.append_nil,List.flatMap_nil,List.nil_append]
 | n+1,i,x,d::l,h,h',hx,hp,hS=>by
  simp only [List.length_cons] at h
  have e4:aH .i64 (i:Int) 1=((i+1:Nat):Int):=aB (by omega)
  have ea:(d::l).flatMap df++t=df d++(l.flatMap df++t):=by rw [List.flatMap_cons,List.append_assoc]
  rw [ea] at hS ⊢
  have hS2:(l.flatMap df++t).length<4000000:=by rw [List.length_append] at hS;omega
  rw [z2J.l3_eq,bA,decide_eq_true (show i<N by omega),ss k d _ hk hS,e4]
  simp only [ac,ae,fX (show x.length<4000000 by omega)]
  exact zX k hk N hN t p hc n (i+1) (app x (d::[])) l (by omega) (by omega) (by simp [app,hx]) (by unfold app;rw [List.append_assoc];exact hp) hS2
theorem jf (k:Nat) (p:List iG) (t:List UInt8) (hc:z1Q.f k p=some 0) (hm:p.length≤8) (hk:12<k) (hk2:k<1000000) (hS:(cP p++t).length<4000000) :
  z2J.f k (cP p++t,0)=some (p,(t,0)):=by
 have ea:cP p++t=al p.length++(p.flatMap df++t):=by unfold cP;rw [List.append_assoc]
 rw [ea] at hS ⊢
 have hS2:(p.flatMap df++t).length<4000000:=by rw [List.length_append] at hS;omega
 have hlen:=gq df A4 p
 rw [z2J.f_eq,i7 k _ 8 _ hk (by omega) (by omega) (by rw [List.length_append];omega) hS]
 simp only [ae]
 exact zX k hk p.length (by omega) t p hc k 0 [] p (by omega) (by omega) rfl rfl hS2
def dQ (i:Int):Nat:=if i<0 then (-2 * i - 1).toNat else (2 * i).toNat
theorem je {i:Int} (h1:-2147483647≤i) (h2:i≤2147483647):dQ i<72057594037927936:=by
 unfold dQ;split <;> omega
theorem ze (k:Nat) (i:Int) (h1:-2147483647≤i) (h2:i≤2147483647):z27.f k i=some ((dQ i:Nat):Int):=by
 rw [z27.f_eq]
 unfold dQ
 by_cases h:i<0
 ·have m:gB .i64 (-2) i=-2 * i:=by
   show IntKind.wrap .i64 (-2 * i)=_
   rw [cU (by omega) (by omega)]
  have s:bw .i64 (-2 * i) 1=-2 * i - 1:=by
   show IntKind.wrap .i64 (-2 * i - 1)=_
   rw [cU (by omega) (by omega)]
  rw [show aq i 0=true from decide_eq_true h,ac,m,s,if_pos h,Int.toNat_of_nonneg (by omega)]
 ·have m:gB .i64 2 i=2 * i:=by
   show IntKind.wrap .i64 (2 * i)=_
   rw [cU (by omega) (by omega)]
  rw [show aq i 0=false from decide_eq_false h,aa,m,if_neg h,Int.toNat_of_nonneg (by omega)]
theorem vN (i:Int) (h1:-2147483647≤i) (h2:i≤2147483647):Gg (dQ i)=i:=by
 unfold Gg dQ
 by_cases h:i<0
 ·rw [if_pos h]
  obtain ⟨m,hm⟩:∃ m:Nat,i=-((m:Int)+1):=⟨(-i - 1).toNat,by omega⟩
  have e:(-2 * i - 1).toNat=2 * m+1:=by omega
  rw [e,if_neg (by omega)];omega
 ·rw [if_neg h]
  obtain ⟨m,hm⟩:∃ m:Nat,i=(m:Int):=⟨i.toNat,by omega⟩
  have e:(2 * i).toNat=2 * m:=by omega
  rw [e,if_pos (by omega)];omega
structure ValOK (v:xX):Prop where
 kind:1≤v.1∧v.1≤3
 text:v.1=2→v.2.1=0
 num:v.1 ≠ 2→v.2.2=[]∧-2147483647≤v.2.1∧v.2.1≤2147483647
theorem yT {s:iG} (h:seq s []=true):s=[]:=by
 cases s with
 | nil=>rfl
 | cons a l=>cases h
theorem kh (k:Nat) (v:xX) (h:z1r.f k v=some true):ValOK v:=by
 rw [z1r.f_eq] at h
 obtain ⟨K,A,s⟩:=v
 simp only at h
 by_cases h1:K=1
 ·subst h1
  rw [show az (1:Int) 1=true from rfl,ac] at h
  cases hq:seq s [] with
  | false=>rw [hq,aa] at h;cases h
  | true =>
   rw [hq,ac,show bM (-2147483647) A=decide (-2147483647≤A) from rfl] at h
   by_cases h2:-2147483647≤A
   ·rw [decide_eq_true h2,ac] at h
    injection h with h
    exact ⟨by show (1:Int)≤1∧(1:Int)≤3;decide,fun h=>(by cases h),fun _=>⟨yT hq,h2,of_decide_eq_true h⟩⟩
   ·rw [decide_eq_false h2,aa] at h;cases h
 by_cases h2:K=2
 ·subst h2
  rw [show az (2:Int) 1=false from rfl,show az (2:Int) 2=true from rfl,aa,ac] at h
  refine ⟨by show (1:Int)≤2∧(2:Int)≤3;decide,fun _=>?_,fun h=>absurd rfl h⟩
  cases hr:gz s with
  | none=>rw [hr] at h;cases h
  | some r =>
   rw [hr,ae] at h
   cases h2:r.2 with
   | false=>rw [h2,aa] at h;cases h
   | true =>
    rw [h2,ac,aW] at h
    by_cases h0:A=0
    ·exact h0
    ·rw [decide_eq_false h0,aa] at h;cases h
 by_cases h3:K=3
 ·subst h3
  rw [show az (3:Int) 1=false from rfl,show az (3:Int) 2=false from rfl,show az (3:Int) 3=true from rfl,aa,aa,ac] at h
  cases hq:seq s [] with
  | false=>rw [hq,aa] at h;cases h
  | true =>
   rw [hq,ac,aW] at h
   refine ⟨by show (1:Int)≤3∧(3:Int)≤3;decide,fun h=>(by cases h),fun _=>⟨yT hq,?_⟩⟩
   show -2147483647≤A∧A≤2147483647
   by_cases h0:A=0
   ·omega
   ·rw [decide_eq_false h0,aa,aW] at h
    injection h with h
    have:=of_decide_eq_true h
    omega
 ·have f:∀ c:Int,K ≠ c→az K c=false:=fun c hc=>by rw [aW];exact decide_eq_false hc
  rw [f 1 h1,f 2 h2,f 3 h3,aa,aa,aa] at h
  cases h
def bG (v:xX):List UInt8:=al v.1.toNat++(if v.1=2 then df v.2.2 else al (dQ v.2.1))
theorem im {v:xX} (hv:ValOK v) (hl:v.2.2.length≤200):(bG v).length≤216:=by
 have h1:=hv.kind
 have p1:=aZ (n:=v.1.toNat) (by omega)
 unfold bG;rw [List.length_append]
 split
 ·have:=ib v.2.2 (by omega);omega
 ·rename_i h2
  obtain ⟨_,a,b⟩:=hv.num h2
  have:=aZ (je a b);omega
theorem nH (k:Nat) {v:xX} (hv:ValOK v) (hl:v.2.2.length≤200):z1O.f k v=some (bG v):=by
 have h1:=hv.kind
 have p1:=aZ (n:=v.1.toNat) (by omega)
 unfold bG
 rw [z1O.f_eq,cr (n:=v.1) (by omega),aW]
 by_cases h2:v.1=2
 ·have:=ib v.2.2 (by omega)
  rw [decide_eq_true h2,ac,ae,nS k _ (by omega),ae,bk (by omega) (by omega),ac,if_pos h2];rfl
 ·obtain ⟨_,a,b⟩:=hv.num h2
  have hb:=je a b
  have:=aZ hb
  rw [decide_eq_false h2,aa,ae,ze k _ a b,ae,cr (n:=((dQ v.2.1:Nat):Int)) (by omega),Int.toNat_natCast,ae,bk (by omega) (by omega),ac,if_neg h2];rfl
theorem oY (k:Nat) {v:xX} (t:List UInt8) (h:z1r.f k v=some true) (hk:12<k) (hS:(bG v++t).length<4000000):z23.f k (bG v++t,0)=some (v,(t,0)):=by
 have hv:=kh k v h
 have h1:=hv.kind
 have e1:((v.1.toNat:Nat):Int)=v.1:=Int.toNat_of_nonneg (by omega)
 have bt:ai true=false:=rfl
 by_cases h2:v.1=2
 ·have ea:bG v++t=al v.1.toNat++(df v.2.2++t):=by unfold bG;rw [if_pos h2,List.append_assoc]
  rw [ea] at hS ⊢
  have hS2:(df v.2.2++t).length<4000000:=by rw [List.length_append] at hS;omega
  have ev:(v.1,((0:Int),v.2.2))=v:=by rw [← hv.text h2]
  rw [z23.f_eq,bS k _ _ hk (by omega) hS,e1]
  simp only [ae]
  rw [aW,decide_eq_true h2,ac,ss k _ _ hk hS2]
  simp only [ae]
  rw [ev,h]
  simp only [ae,cp,aW,decide_true,ac,bt,aa]
 ·obtain ⟨e0,a,b⟩:=hv.num h2
  have hb:=je a b
  have ea:bG v++t=al v.1.toNat++(al (dQ v.2.1)++t):=by unfold bG;rw [if_neg h2,List.append_assoc]
  rw [ea] at hS ⊢
  have hS2:(al (dQ v.2.1)++t).length<4000000:=by rw [List.length_append] at hS;omega
  obtain ⟨u1,_⟩:=sV k (dQ v.2.1) hb
  rw [vN _ a b] at u1
  have ev:(v.1,(v.2.1,([]:iG)))=v:=by rw [← e0]
  rw [z23.f_eq,bS k _ _ hk (by omega) hS,e1]
  simp only [ae]
  rw [aW,decide_eq_false h2,aa,bS k _ _ hk hb hS2]
  simp only [ae]
  rw [u1]
  simp only [ae]
  rw [ev,h]
  simp only [ae,cp,aW,decide_true,ac,bt,aa]
end Go.Proofs.YtfhcammihohmjaaGreatDoor
end
noncomputable section
/- What is told of operations is read again. -/
namespace Go.Proofs.YtfhcammihohmjaaGreatDoor
open Pal
theorem ww (k:Nat) (p:List iG) (h:z1Q.f k p=some 0):p.length≤8:=by
 rw [z1Q.f_eq,show aq 8 (af p)=decide (8<p.length) from cq 8 p] at h
 generalize az (af p) 0=q at h
 cases q with
 | true=>rw [ac] at h;cases h
 | false =>
  rw [aa] at h
  by_cases h1:8<p.length
  ·rw [decide_eq_true h1,ac] at h;cases h
  ·omega
theorem zx (k:Nat) (l:List (bu × Int)) (h3:3≤k) (hl:l.length<1000000):∀ (n i:Nat),i≤l.length→l.length<n+i→z3d.l2 k n l l (af l) (i:Int)=some true→∀ u ∈ l.drop i,aK u.1=true∧0≤u.2∧u.2<16
 | 0,i,_,h,_=>by omega
 | n+1,i,h,h',hb=>by
  rw [z3d.l2_eq,aO,aQ,au] at hb
  by_cases hi:i<l.length
  ·rw [decide_eq_true hi,aT (e:=ak) hi,dN,aB (by omega)] at hb
   simp only [ac,ae] at hb
   rw [List.drop_eq_getElem_cons hi]
   have bt:ai true=false:=rfl
   have bf:ai false=true:=rfl
   cases hr:aK l[i].1 with
   | false=>rw [hr,bf,ac] at hb;cases hb
   | true =>
    rw [hr,bt,aa,show aq l[i].2 0=decide (l[i].2<0) from rfl,show bM 16 l[i].2=decide (16≤l[i].2) from rfl] at hb
    by_cases h0:l[i].2<0
    ·rw [decide_eq_true h0,ac] at hb;cases hb
    rw [decide_eq_false h0,aa] at hb
    by_cases h16:16≤l[i].2
    ·rw [decide_eq_true h16,ac] at hb;cases hb
    rw [decide_eq_false h16,aa,show aq 0 (i:Int)=decide (0<i) from bA 0 i] at hb
    have hnext:z3d.l2 k n l l (af l) ((i+1:Nat):Int)=some true:=by
     by_cases hp:0<i
     ·have hi1:i - 1<l.length:=by omega
      have e3:bw .i64 (i:Int) 1=((i - 1:Nat):Int):=by rw [dx (by omega) (by omega) (by omega) (by omega)];omega
      rw [decide_eq_true hp,ac,e3,aQ,au,aT (e:=ak) hi1,decide_eq_true hi1,ac,Cc k _ _ h3,ae] at hb
      cases hq:bM 0 (ru l[i - 1] l[i]) with
      | true=>rw [hq,ac] at hb;cases hb
      | false=>rw [hq,aa] at hb;exact hb
     ·rw [decide_eq_false hp,aa] at hb;exact hb
    intro u hu
    rcases List.mem_cons.1 hu with rfl | hu
    ·exact ⟨hr,by omega,by omega⟩
    ·exact zx k l h3 hl n (i+1) (by omega) (by omega) hnext u hu
  ·rw [List.drop_eq_nil_of_le (by omega)]
   intro u hu;simp at hu
structure OkO (k:Nat) (o:Op):Prop where
 kind:o.1=1∨o.1=2∨o.1=3∨o.1=4∨o.1=5
 chk:z2Z.f k o=some 0
 path:z1Q.f k o.2.1=some 0
 val0:o.1=3∨o.1=5→o.2.2.1=(0,(0,[]))
 valr:o.1=1∨o.1=2∨o.1=4→z1r.f k o.2.2.1=some true
 amt0:o.1 ≠ 3→o.2.2.2.1=0
 amt3:-2147483647≤o.2.2.2.1∧o.2.2.2.1≤2147483647
 seen0:o.1=2∨o.1=3→o.2.2.2.2=[]
 seen:o.2.2.2.2.length≤256∧∀ u ∈ o.2.2.2.2,aK u.1=true∧0≤u.2∧u.2<16
theorem BX {l:List (bu × Int)} (h:aq 0 (af l)=false):l=[]:=by
 rw [show aq 0 (af l)=decide (0<l.length) from cq 0 l] at h
 have:=of_decide_eq_false h
 exact List.eq_nil_of_length_eq_zero (by omega)
set_option maxHeartbeats 4000000 in
theorem Gp (k:Nat) (o:Op) (so:SizO k o) (hk:10<k) (hk2:k<1000000) (h:z2Z.f k o=some 0):OkO k o:=by
 have hsave:=h
 obtain ⟨e1,p1,p2⟩:=zw k o.2.1 so.path hk hk2 so.names
 obtain ⟨b1,v1,v2⟩:=Bo k o.2.2.1 hk so.val hk2
 obtain ⟨b2,r1,r2⟩:=zF k o.2.2.2.2 (by omega) so.seen hk2
 have hsl:=so.seen
 rw [z2Z.f_eq,z2u.f_eq,z2B.f_eq,p1,v1,r1] at h
 have bt:ai true=false:=rfl
 have bf:ai false=true:=rfl
 obtain ⟨K,P,V,A,S⟩:=o
 simp only at h p1 v1 r1 hsl
 by_cases h1:K<1
 ·rw [show aq K 1=true from decide_eq_true h1,ac] at h;cases h
 by_cases h5:5<K
 ·rw [show aq K 1=false from decide_eq_false h1,show aq 5 K=true from decide_eq_true h5,aa,ac] at h;cases h
 rw [show aq K 1=false from decide_eq_false h1,show aq 5 K=false from decide_eq_false h5,aa,aa,ae] at h
 have he:e1=0:=by
  apply Classical.byContradiction
  intro hne
  rw [aW,decide_eq_false hne,bf,ac] at h
  injection h with h;exact hne h
 subst he
 rw [show az (0:Int) 0=true from rfl,bt,aa] at h
 have refsOK:b2=true→∀ u ∈ S,aK u.1=true∧0≤u.2∧u.2<16:=by
  intro hb;subst hb
  rw [z3d.f_eq] at r1
  have:=zx k S (by omega) (by omega) k 0 (by omega) (by omega) r1
  rwa [List.drop_zero] at this
 have seenOK:b2=true→aq 256 (af S)=false→S.length≤256∧∀ u ∈ S,aK u.1=true∧0≤u.2∧u.2<16:=by
  intro hb hl
  rw [show aq 256 (af S)=decide (256<S.length) from cq 256 S] at hl
  have:=of_decide_eq_false hl
  exact ⟨by omega,refsOK hb⟩
 have aOK:az A 0=true→A=0:=fun h=>by rw [aW] at h;exact of_decide_eq_true h
 have vOK:eQ cC V (0,(0,[]))=true→V=(0,(0,[])):=fun h=>by rw [td] at h;exact of_decide_eq_true h
 clear p2 v2 r2 so hsl r1
 have hK:K=1∨K=2∨K=3∨K=4∨K=5:=by omega
 rcases hK with rfl | rfl | rfl | rfl | rfl
 ·simp only [show az (1:Int) 1=true from rfl,show az (1:Int) 2=false from rfl,show az (1:Int) 3=false from rfl,show az (1:Int) 4=false from rfl,show az (1:Int) 5=false from rfl,ac,aa,bt,bf,ae] at h
  cases b1 with
  | false=>exact absurd h (by intro h;cases h)
  | true =>
  generalize hA:az A 0=qa at h
  cases qa with
  | false=>exact absurd h (by intro h;cases h)
  | true =>
  generalize hS:aq 256 (af S)=qs at h
  cases qs with
  | true=>exact absurd h (by intro h;cases h)
  | false =>
  cases b2 with
  | false=>exact absurd h (by intro h;cases h)
  | true =>
  have a0:=aOK hA
  exact ⟨.inl rfl,hsave,p1,fun h=>(by rcases h with h | h <;> cases h),fun _=>v1,fun _=>a0,by show -2147483647≤A∧A≤2147483647;omega,fun h=>(by rcases h with h | h <;> cases h),seenOK rfl hS⟩
 ·simp only [show az (2:Int) 1=false from rfl,show az (2:Int) 2=true from rfl,show az (2:Int) 3=false from rfl,show az (2:Int) 4=false from rfl,show az (2:Int) 5=false from rfl,ac,aa,bt,bf,ae] at h
  cases b1 with
  | false=>exact absurd h (by intro h;cases h)
  | true =>
  generalize hA:az A 0=qa at h
  cases qa with
  | false=>exact absurd h (by intro h;cases h)
  | true =>
  generalize hS:aq 0 (af S)=qs at h
  cases qs with
  | true=>exact absurd h (by intro h;cases h)
  | false =>
  have a0:=aOK hA
  have s0:=BX hS
  exact ⟨.inr (.inl rfl),hsave,p1,fun h=>(by rcases h with h | h <;> cases h),fun _=>v1,fun _=>a0,by show -2147483647≤A∧A≤2147483647;omega,fun _=>s0,by show S.length≤256∧_;rw [s0];exact ⟨by simp,fun u hu=>by simp at hu⟩⟩
 ·simp only [show az (3:Int) 1=false from rfl,show az (3:Int) 2=false from rfl,show az (3:Int) 3=true from rfl,show az (3:Int) 4=false from rfl,show az (3:Int) 5=false from rfl,ac,aa,bt,bf,ae] at h
  generalize hV:eQ cC V (0,(0,[]))=qv at h
  cases qv with
  | false=>exact absurd h (by intro h;cases h)
  | true =>
  generalize hA:az A 0=qa at h
  cases qa with
  | true=>exact absurd h (by intro h;cases h)
  | false =>
  generalize hA1:bM (-2147483647) A=q1 at h
  cases q1 with
  | false=>exact absurd h (by intro h;cases h)
  | true =>
  generalize hA2:bM A 2147483647=q2 at h
  cases q2 with
  | false=>exact absurd h (by intro h;cases h)
  | true =>
  generalize hS:aq 0 (af S)=qs at h
  cases qs with
  | true=>exact absurd h (by intro h;cases h)
  | false =>
  have v0:=vOK hV
  have s0:=BX hS
  have a1:-2147483647≤A:=of_decide_eq_true hA1
  have a2:A≤2147483647:=of_decide_eq_true hA2
  exact ⟨.inr (.inr (.inl rfl)),hsave,p1,fun _=>v0,fun h=>(by rcases h with h | h | h <;> cases h),fun h=>absurd rfl h,⟨a1,a2⟩,fun _=>s0,by show S.length≤256∧_;rw [s0];exact ⟨by simp,fun u hu=>by simp at hu⟩⟩
 ·simp only [show az (4:Int) 1=false from rfl,show az (4:Int) 2=false from rfl,show az (4:Int) 3=false from rfl,show az (4:Int) 4=true from rfl,show az (4:Int) 5=false from rfl,ac,aa,bt,bf,ae] at h
  cases b1 with
  | false=>exact absurd h (by intro h;cases h)
  | true =>
  generalize hA:az A 0=qa at h
  cases qa with
  | false=>exact absurd h (by intro h;cases h)
  | true =>
  generalize hS:aq 256 (af S)=qs at h
  cases qs with
  | true=>exact absurd h (by intro h;cases h)
  | false =>
  cases b2 with
  | false=>exact absurd h (by intro h;cases h)
  | true =>
  have a0:=aOK hA
  exact ⟨.inr (.inr (.inr (.inl rfl))),hsave,p1,fun h=>(by rcases h with h | h <;> cases h),fun _=>v1,fun _=>a0,by show -2147483647≤A∧A≤2147483647;omega,fun h=>(by rcases h with h | h <;> cases h),seenOK rfl hS⟩
 ·simp only [show az (5:Int) 1=false from rfl,show az (5:Int) 2=false from rfl,show az (5:Int) 3=false from rfl,show az (5:Int) 4=false from rfl,show az (5:Int) 5=true from rfl,ac,aa,bt,bf,ae] at h
  generalize hV:eQ cC V (0,(0,[]))=qv at h
  cases qv with
  | false=>exact absurd h (by intro h;cases h)
  | true =>
  generalize hA:az A 0=qa at h
  cases qa with
  | false=>exact absurd h (by intro h;cases h)
  | true =>
  generalize hS:aq 256 (af S)=qs at h
  cases qs with
  | true=>exact absurd h (by intro h;cases h)
  | false =>
  cases b2 with
  | false=>exact absurd h (by intro h;cases h)
  | true =>
  have a0:=aOK hA
  have v0:=vOK hV
  exact ⟨.inr (.inr (.inr (.inr rfl))),hsave,p1,fun _=>v0,fun h=>(by rcases h with h | h | h <;> cases h),fun _=>a0,by show -2147483647≤A∧A≤2147483647;omega,fun h=>(by rcases h with h | h <;> cases h),seenOK rfl hS⟩
def iM:Op:=(0,([],((0,(0,[])),(0,[]))))
theorem Cj {k:Nat} {o:Op} (h:z35.f k o=some true):o=iM:=by
 rw [z35.f_eq,aW,uM,td,aW,uM] at h
 obtain ⟨K,P,V,A,S⟩:=o
 simp only at h
 by_cases h1:K=0
 case neg=>rw [decide_eq_false h1,aa] at h;cases h
 rw [decide_eq_true h1,ac] at h
 by_cases h2:P.length=0
 case neg=>rw [decide_eq_false h2,aa] at h;cases h
 rw [decide_eq_true h2,ac] at h
 by_cases h3:V=(0,(0,[]))
 case neg=>rw [decide_eq_false h3,aa] at h;cases h
 rw [decide_eq_true h3,ac] at h
 by_cases h4:A=0
 case neg=>rw [decide_eq_false h4,aa] at h;cases h
 rw [decide_eq_true h4,ac] at h
 injection h with h
 have h5:=of_decide_eq_true h
 rw [h1,List.eq_nil_of_length_eq_zero h2,h3,h4,List.eq_nil_of_length_eq_zero h5];rfl
def pj (o:Op):List UInt8 :=
 if o.1=3 then al (dQ o.2.2.2.1) else if o.1=2 then bG o.2.2.1 else if o.1=5 then cA o.2.2.2.2 else bG o.2.2.1++cA o.2.2.2.2
def cQ (o:Op):List UInt8:=if o.1=0 then al 0 else al o.1.toNat++(cP o.2.1++pj o)
theorem vJ {u:bq} (h:aK u.1=true∧0≤u.2∧u.2<16):(cO u).length≤24:=by
 have:=eZ h.1
 have:=aZ (n:=u.2.toNat) (by omega)
 unfold cO;rw [List.length_append];omega
theorem Ac {l:List bq} (h:∀ u ∈ l,aK u.1=true∧0≤u.2∧u.2<16) (hl:l.length≤256):(cA l).length≤6152:=by
 have hp:=aZ (n:=l.length) (by omega)
 have:=dp cO 24 l (fun d hd=>vJ (h d hd))
 unfold cA;rw [List.length_append];omega
theorem A0 {k:Nat} {o:Op} (h:OkO k o) (hs:ShortO o):(pj o).length≤6400:=by
 obtain ⟨a,b⟩:=h.amt3
 have h1:=aZ (je a b)
 have h2:=Ac h.seen.2 h.seen.1
 have hv:=hs.val
 unfold pj
 by_cases c3:o.1=3
 ·rw [if_pos c3];omega
 rw [if_neg c3]
 by_cases c2:o.1=2
 ·have:=im (kh k _ (h.valr (.inr (.inl c2)))) hv
  rw [if_pos c2];omega
 rw [if_neg c2]
 by_cases c5:o.1=5
 ·rw [if_pos c5];omega
 rw [if_neg c5,List.length_append]
 have:=im (kh k _ (h.valr (by have:=h.kind;omega))) hv
 omega
theorem uO {k:Nat} {o:Op} (h:o=iM∨OkO k o) (hs:ShortO o):(cQ o).length≤8000:=by
 unfold cQ
 rcases h with rfl | h
 ·rw [if_pos (by rfl)];have:=aZ (n:=0) (by omega);omega
 ·have h1:=A0 h hs
  have h2:=wz hs.path
  have h3:=aZ (n:=o.1.toNat) (by have:=h.kind;omega)
  rw [if_neg (by have:=h.kind;omega),List.length_append,List.length_append];omega
theorem AE (o:Op):0<(cQ o).length:=by
 unfold cQ
 split
 ·exact gy 0
 ·rw [List.length_append];have:=gy o.1.toNat;omega
theorem zo (k:Nat) (l:List bq) (hr:∀ u ∈ l,aK u.1=true∧0≤u.2∧u.2<16) (hl:l.length<1000000):∀ (n i:Nat) (x:List UInt8),i≤l.length→l.length<n+i→x.length≤10000+24 * i→z3b.l16 k n x l (af l) (i:Int)=some (x++(l.drop i).flatMap cO)
 | 0,i,_,h,h',_=>by omega
 | n+1,i,x,h,h',hx=>by
  rw [z3b.l16_eq,aO,aQ,au]
  by_cases hi:i<l.length
  ·have hd:=hr l[i] (List.getElem_mem hi)
   have hp:=vJ hd
   obtain ⟨hd1,hd2,hd3⟩:=hd
   have hp1:=eZ hd1
   have hp2:=aZ (n:=l[i].2.toNat) (by omega)
   have e4:aH .i64 (i:Int) 1=((i+1:Nat):Int):=aB (by omega)
   have ed:l.drop i=l[i]::l.drop (i+1):=List.drop_eq_getElem_cons hi
   rw [decide_eq_true hi,aT (e:=ak) hi,kg k hd1,cr (n:=l[i].2) (by omega),e4,ed,List.flatMap_cons]
   simp only [ac,ae]
   rw [bk (by omega) (by omega),ac]
   have ea:app (cj l[i].1) (al l[i].2.toNat)=cO l[i]:=rfl
   rw [ea,bk (by omega) (by omega),ac]
   refine (zo k l hr hl n (i+1) _ (by omega) (by omega) (by unfold app;rw [List.length_append];omega)).trans ?_
   unfold app;rw [List.append_assoc]
  ·have e0:l.drop i=[]:=List.drop_eq_nil_of_le (by omega)
   rw [decide_eq_false hi,aa,e0];simp
theorem pV (k:Nat) (x:List UInt8) {l:List bq} (hr:∀ u ∈ l,aK u.1=true∧0≤u.2∧u.2<16) (hl:l.length≤256) (hx:x.length≤9000) (hk:5000<k) (hk2:k<1000000) :
  (bnd (bK (af l)) fun r6=>br (bz x r6) (z3b.l16 k k (app x r6) l (af l) 0) none)=some (x++cA l):=by
 have e:(af l).toNat=l.length:=rfl
 have hp:=aZ (n:=l.length) (by omega)
 rw [cr (n:=af l) (by unfold af;omega),e,ae,bk (by omega) (by omega),ac]
 refine (zo k l hr (by omega) k 0 _ (by omega) (by omega) (by unfold app;rw [List.length_append];omega)).trans ?_
 rw [List.drop_zero];unfold app cA;rw [List.append_assoc]
end Go.Proofs.YtfhcammihohmjaaGreatDoor
end
noncomputable section
/- What is told of operations is read again: kind by kind. -/
namespace Go.Proofs.YtfhcammihohmjaaGreatDoor
open Pal
theorem pI (n:Nat) (h:n<100):bK (n:Int)=some (al n):=by rw [cr (n:=(n:Int)) (by omega),Int.toNat_natCast]
theorem E5 (k:Nat):z3b.f k iM=some (al 0):=by
 have h0:bK 0=some (al 0):=pI 0 (by decide)
 have e0:az (af ([]:List bq)) 0=true:=rfl
 have e1:az (af ([]:List iG)) 0=true:=rfl
 have e2:eQ cC ((0,(0,[])):xX) (0,(0,[]))=true:=by rw [td];exact decide_eq_true rfl
 rw [z3b.f_eq,z35.f_eq]
 unfold iM
 simp only [h0,ae,show az (0:Int) 0=true from rfl,e0,e1,e2,ac]
section
variable (k:Nat) (hk:5000<k) (hk2:k<1000000) (P:List iG) (V:xX) (A:Int) (S:List bq) (hP:ks P) (hv:V.2.2.length≤200)
include hk hk2 hP
theorem uC (n:Nat) (hn:n<100):bz (al n) (cP P)=true∧(app (al n) (cP P)).length≤2000:=by
 have h1:=aZ (n:=n) (by omega)
 have h2:=wz hP
 exact ⟨bk (by omega) (by omega),by unfold app;rw [List.length_append];omega⟩
theorem DG (h1:-2147483647≤A) (h2:A≤2147483647):z3b.f k (3,(P,(V,(A,S))))=some (al 3++(cP P++al (dQ A))):=by
 have h0:bK 3=some (al 3):=pI 3 (by decide)
 have hb:=je h1 h2
 have hpl:=aZ hb
 have hf:bK ((dQ A:Nat):Int)=some (al (dQ A)):=by rw [cr (n:=((dQ A:Nat):Int)) (by omega),Int.toNat_natCast]
 obtain ⟨r1,r2⟩:=uC k hk hk2 P hP 3 (by decide)
 have r3:bz (app (al 3) (cP P)) (al (dQ A))=true:=bk (by omega) (by omega)
 rw [z3b.f_eq,z35.f_eq]
 simp only [h0,ae,show az (3:Int) 0=false from rfl,show az (3:Int) 3=true from rfl,ac,aa,kf k hP (by omega) hk2,r1,ze k A h1 h2,hf,r3]
 unfold app;rw [List.append_assoc]
include hv
theorem Es (hV:ValOK V) (hs:S.length≤256∧∀ u ∈ S,aK u.1=true∧0≤u.2∧u.2<16):z3b.f k (1,(P,(V,(A,S))))=some (al 1++(cP P++(bG V++cA S))):=by
 have h0:bK 1=some (al 1):=pI 1 (by decide)
 have hvl:=im hV hv
 obtain ⟨r1,r2⟩:=uC k hk hk2 P hP 1 (by decide)
 have r3:bz (app (al 1) (cP P)) (bG V)=true:=bk (by omega) (by omega)
 rw [z3b.f_eq,z35.f_eq]
 simp only [h0,ae,show az (1:Int) 0=false from rfl,show az (1:Int) 1=true from rfl,show az (1:Int) 2=false from rfl,show az (1:Int) 3=false from rfl,ac,aa,kf k hP (by omega) hk2,r1,nH k hV hv,r3]
 refine (pV k _ hs.2 hs.1 (by unfold app at r2 ⊢;rw [List.length_append];omega) hk hk2).trans ?_
 unfold app;simp only [List.append_assoc]
theorem Ei (hV:ValOK V) (hs:S.length≤256∧∀ u ∈ S,aK u.1=true∧0≤u.2∧u.2<16):z3b.f k (4,(P,(V,(A,S))))=some (al 4++(cP P++(bG V++cA S))):=by
 have h0:bK 4=some (al 4):=pI 4 (by decide)
 have hvl:=im hV hv
 obtain ⟨r1,r2⟩:=uC k hk hk2 P hP 4 (by decide)
 have r3:bz (app (al 4) (cP P)) (bG V)=true:=bk (by omega) (by omega)
 rw [z3b.f_eq,z35.f_eq]
 simp only [h0,ae,show az (4:Int) 0=false from rfl,show az (4:Int) 1=false from rfl,show az (4:Int) 2=false from rfl,show az (4:Int) 3=false from rfl,show az (4:Int) 4=true from rfl,ac,aa,kf k hP (by omega) hk2,r1,nH k hV hv,r3]
 refine (pV k _ hs.2 hs.1 (by unfold app at r2 ⊢;rw [List.length_append];omega) hk hk2).trans ?_
 unfold app;simp only [List.append_assoc]
theorem Dn (hV:ValOK V):z3b.f k (2,(P,(V,(A,S))))=some (al 2++(cP P++bG V)):=by
 have h0:bK 2=some (al 2):=pI 2 (by decide)
 have hvl:=im hV hv
 obtain ⟨r1,r2⟩:=uC k hk hk2 P hP 2 (by decide)
 have r3:bz (app (al 2) (cP P)) (bG V)=true:=bk (by omega) (by omega)
 rw [z3b.f_eq,z35.f_eq]
 simp only [h0,ae,show az (2:Int) 0=false from rfl,show az (2:Int) 1=false from rfl,show az (2:Int) 2=true from rfl,show az (2:Int) 3=false from rfl,ac,aa,kf k hP (by omega) hk2,r1,nH k hV hv,r3]
 unfold app;rw [List.append_assoc]
omit hv in
theorem DR (hs:S.length≤256∧∀ u ∈ S,aK u.1=true∧0≤u.2∧u.2<16):z3b.f k (5,(P,(V,(A,S))))=some (al 5++(cP P++cA S)):=by
 have h0:bK 5=some (al 5):=pI 5 (by decide)
 obtain ⟨r1,r2⟩:=uC k hk hk2 P hP 5 (by decide)
 rw [z3b.f_eq,z35.f_eq]
 simp only [h0,ae,show az (5:Int) 0=false from rfl,show az (5:Int) 1=false from rfl,show az (5:Int) 2=false from rfl,show az (5:Int) 3=false from rfl,show az (5:Int) 4=false from rfl,ac,aa,kf k hP (by omega) hk2,r1]
 refine (pV k _ hs.2 hs.1 (by omega) hk hk2).trans ?_
 unfold app;simp only [List.append_assoc]
end
theorem Bq (k:Nat) {o:Op} (h:o=iM∨OkO k o) (hs:ShortO o) (hk:5000<k) (hk2:k<1000000):z3b.f k o=some (cQ o):=by
 rcases h with rfl | h
 ·rw [E5];rfl
 ·have hK:=h.kind
  have hvr:=h.valr;have hse:=h.seen;have hv:=hs.val;have hP:=hs.path;have ha:=h.amt3
  clear h hs
  obtain ⟨K,P,V,A,S⟩:=o
  simp only at hK hvr hse hv hP ha
  rcases hK with rfl | rfl | rfl | rfl | rfl
  ·exact Es k hk hk2 P V A S hP hv (kh k V (hvr (.inl rfl))) hse
  ·exact Dn k hk hk2 P V A S hP hv (kh k V (hvr (.inr (.inl rfl))))
  ·exact DG k hk hk2 P V A S hP ha.1 ha.2
  ·exact Ei k hk hk2 P V A S hP hv (kh k V (hvr (.inr (.inr rfl)))) hse
  ·exact DR k hk hk2 P V A S hP hse
theorem zp (k:Nat) (h12:12<k) (N:Nat) (hN:N<1000000) (t:List UInt8):∀ (n i:Nat) (x l:List bq),i+l.length=N→N<n+i→x.length=i→(∀ u ∈ l,aK u.1=true∧0≤u.2∧u.2<16)→(l.flatMap cO++t).length<4000000 →
  z3a.l3 k n x (N:Int) (i:Int) (l.flatMap cO++t,0)=some (x++l,(t,0))
 | 0,i,_,_,h,h',_,_,_=>by omega
 | n+1,i,x,[],h,_,hx,_,_=>by
  have hi:N=i:=by simpa using h.symm
  subst hi
  rw [z3a.l3_eq,bA,decide_eq_false (Nat.lt_irrefl _)]
  simp only [aa,List.append_nil,List.flatMap_nil,List.nil_append]
 | n+1,i,x,d::l,h,h',hx,hr,hS=>by
  simp only [List.length_cons] at h
  obtain ⟨hd1,hd2,hd3⟩:=hr d (by simp)
  have e4:aH .i64 (i:Int) 1=((i+1:Nat):Int):=aB (by omega)
  have ea:(d::l).flatMap cO++t=cj d.1++(al d.2.toNat++(l.flatMap cO++t)):=by rw [List.flatMap_cons,cO,List.append_assoc,List.append_assoc]
  rw [ea] at hS ⊢
  have hS2:(al d.2.toNat++(l.flatMap cO++t)).length<4000000:=by rw [List.length_append] at hS;omega
  have hS3:(l.flatMap cO++t).length<4000000:=by rw [List.length_append] at hS2;omega
  rw [z3a.l3_eq,bA,decide_eq_true (show i<N by omega),kw k d.1 _ hd1 h12 hS,e4]
  simp only [ac,ae]
  rw [bS k d.2.toNat _ h12 (by omega) hS2]
  simp only [ae]
  rw [fX (show x.length<4000000 by omega),ac,Int.toNat_of_nonneg (by omega)]
  have:=zp k h12 N hN t n (i+1) (app x (d::[])) l (by omega) (by omega) (by simp [app,hx]) (fun e he=>hr e (List.mem_cons_of_mem _ he)) hS3
  refine this.trans ?_
  simp [app]
theorem nO (k:Nat) (l:List bq) (t:List UInt8) (hr:l.length≤256∧∀ u ∈ l,aK u.1=true∧0≤u.2∧u.2<16) (hk:5000<k) (hk2:k<1000000) (hS:(cA l++t).length<4000000) :
  z3a.f k (cA l++t,0)=some (l,(t,0)):=by
 have hr1:=hr.1
 have ea:cA l++t=al l.length++(l.flatMap cO++t):=by unfold cA;rw [List.append_assoc]
 rw [ea] at hS ⊢
 have hS2:(l.flatMap cO++t).length<4000000:=by rw [List.length_append] at hS;omega
 have hlen:=gq cO rN l
 rw [z3a.f_eq,i7 k _ 256 _ (by omega) (by omega) (by omega) (by rw [List.length_append];omega) hS]
 simp only [ae]
 exact zp k (by omega) l.length (by omega) t k 0 [] l (by omega) (by omega) rfl hr.2 hS2
theorem Et (k:Nat) (t:List UInt8) (hk:12<k) (hS:(al 0++t).length<4000000):z36.f k (al 0++t,0)=some (iM,(t,0)):=by
 have hb:z0G.f k (al 0++t,0)=some (0,(t,0)):=bS k 0 _ hk (by decide) hS
 rw [z36.f_eq,hb,ae,show az (0:Int) 0=true from rfl,ac];rfl
section
variable (k:Nat) (P:List iG) (V:xX) (S:List bq) (t X1 X2:List UInt8)
theorem Dc (hb:z0G.f k (X1,0)=some (1,(X2,0))) (X3 X4:List UInt8) (hp:z2J.f k (X2,0)=some (P,(X3,0))) (hv:z23.f k (X3,0)=some (V,(X4,0))) (hs:z3a.f k (X4,0)=some (S,(t,0))) (hc:z2Z.f k (1,(P,(V,(0,S))))=some 0) :
  z36.f k (X1,0)=some ((1,(P,(V,(0,S)))),(t,0)):=by
 have bt:ai true=false:=rfl
 rw [z36.f_eq,hb,ae,show az (1:Int) 0=false from rfl,aa,hp,ae,show az (1:Int) 3=false from rfl,aa,show az (1:Int) 1=true from rfl,ac,ac,hv,ae,hs,ae]
 simp only [cp,ae,show az (0:Int) 0=true from rfl,ac,hc,fN,if_true,bt,aa]
theorem DK (hb:z0G.f k (X1,0)=some (4,(X2,0))) (X3 X4:List UInt8) (hp:z2J.f k (X2,0)=some (P,(X3,0))) (hv:z23.f k (X3,0)=some (V,(X4,0))) (hs:z3a.f k (X4,0)=some (S,(t,0))) (hc:z2Z.f k (4,(P,(V,(0,S))))=some 0) :
  z36.f k (X1,0)=some ((4,(P,(V,(0,S)))),(t,0)):=by
 have bt:ai true=false:=rfl
 rw [z36.f_eq,hb,ae,show az (4:Int) 0=false from rfl,aa,hp,ae,show az (4:Int) 3=false from rfl,aa,show az (4:Int) 1=false from rfl,aa,show az (4:Int) 4=true from rfl,ac,hv,ae,hs,ae]
 simp only [cp,ae,show az (0:Int) 0=true from rfl,ac,hc,fN,if_true,bt,aa]
theorem Ez (hb:z0G.f k (X1,0)=some (2,(X2,0))) (X3:List UInt8) (hp:z2J.f k (X2,0)=some (P,(X3,0))) (hv:z23.f k (X3,0)=some (V,(t,0))) (hc:z2Z.f k (2,(P,(V,(0,[]))))=some 0) :
  z36.f k (X1,0)=some ((2,(P,(V,(0,[])))),(t,0)):=by
 have bt:ai true=false:=rfl
 rw [z36.f_eq,hb,ae,show az (2:Int) 0=false from rfl,aa,hp,ae,show az (2:Int) 3=false from rfl,aa,show az (2:Int) 1=false from rfl,aa,show az (2:Int) 4=false from rfl,aa,show az (2:Int) 2=true from rfl,ac,hv,ae]
 simp only [cp,ae,show az (0:Int) 0=true from rfl,ac,hc,fN,if_true,bt,aa]
theorem E0 (A m:Int) (hb:z0G.f k (X1,0)=some (3,(X2,0))) (X3:List UInt8) (hp:z2J.f k (X2,0)=some (P,(X3,0))) (hv:z0G.f k (X3,0)=some (m,(t,0))) (hu:z0Y.f k m=some A) (hc:z2Z.f k (3,(P,((0,(0,[])),(A,[]))))=some 0) :
  z36.f k (X1,0)=some ((3,(P,((0,(0,[])),(A,[])))),(t,0)):=by
 have bt:ai true=false:=rfl
 rw [z36.f_eq,hb,ae,show az (3:Int) 0=false from rfl,aa,hp,ae,show az (3:Int) 3=true from rfl,ac,hv,ae,hu,ae]
 simp only [cp,ae,show az (0:Int) 0=true from rfl,ac,hc,fN,if_true,bt,aa]
theorem DO (hb:z0G.f k (X1,0)=some (5,(X2,0))) (X3:List UInt8) (hp:z2J.f k (X2,0)=some (P,(X3,0))) (hs:z3a.f k (X3,0)=some (S,(t,0))) (hc:z2Z.f k (5,(P,((0,(0,[])),(0,S))))=some 0) :
  z36.f k (X1,0)=some ((5,(P,((0,(0,[])),(0,S)))),(t,0)):=by
 have bt:ai true=false:=rfl
 rw [z36.f_eq,hb,ae,show az (5:Int) 0=false from rfl,aa,hp,ae,show az (5:Int) 3=false from rfl,aa,show az (5:Int) 1=false from rfl,aa,show az (5:Int) 4=false from rfl,aa,show az (5:Int) 2=false from rfl,aa,show az (5:Int) 5=true from rfl,ac,hs,ae]
 simp only [cp,ae,show az (0:Int) 0=true from rfl,ac,hc,fN,if_true,bt,aa]
end
theorem El (k:Nat) {o:Op} (t:List UInt8) (h:o=iM∨OkO k o) (hk:5000<k) (hk2:k<1000000) (hS:(cQ o++t).length<4000000):z36.f k (cQ o++t,0)=some (o,(t,0)):=by
 rcases h with rfl | h
 ·exact Et k t (by omega) hS
 ·have hK:=h.kind;have hvr:=h.valr;have hv0:=h.val0;have hse:=h.seen;have hp:=h.path;have ha:=h.amt3;have ha0:=h.amt0;have hs0:=h.seen0;have hc:=h.chk
  clear h
  obtain ⟨K,P,V,A,S⟩:=o
  simp only at hK hvr hv0 hse hp ha ha0 hs0 hc
  have pl:=ww k P hp
  have i (n:Nat) (X:List UInt8) (hn:n<100) (hS:(al n++X).length<4000000):=bS k n X (by omega) (by omega) hS
  rcases hK with rfl | rfl | rfl | rfl | rfl
  ·have ea:cQ (1,(P,(V,(A,S))))++t=al 1++(cP P++(bG V++(cA S++t))):=by
    show (al 1++(cP P++(bG V++cA S)))++t=_
    simp only [List.append_assoc]
   have hA:A=0:=ha0 (by decide)
   subst hA
   rw [ea] at hS ⊢
   have s2:(cP P++(bG V++(cA S++t))).length<4000000:=by rw [List.length_append] at hS;omega
   have s3:(bG V++(cA S++t)).length<4000000:=by rw [List.length_append] at s2;omega
   have s4:(cA S++t).length<4000000:=by rw [List.length_append] at s3;omega
   exact Dc k P V S t _ _ (i 1 _ (by decide) hS) _ _ (jf k P _ hp pl (by omega) hk2 s2) (oY k _ (hvr (.inl rfl)) (by omega) s3) (nO k S t hse hk hk2 s4) hc
  ·have hA:A=0:=ha0 (by decide)
   have hS0:S=[]:=hs0 (.inl rfl)
   subst hA;subst hS0
   have ea:cQ (2,(P,(V,(0,[]))))++t=al 2++(cP P++(bG V++t)):=by
    show (al 2++(cP P++bG V))++t=_
    simp only [List.append_assoc]
   rw [ea] at hS ⊢
   have s2:(cP P++(bG V++t)).length<4000000:=by rw [List.length_append] at hS;omega
   have s3:(bG V++t).length<4000000:=by rw [List.length_append] at s2;omega
   exact Ez k P V t _ _ (i 2 _ (by decide) hS) _ (jf k P _ hp pl (by omega) hk2 s2) (oY k _ (hvr (.inr (.inl rfl))) (by omega) s3) hc
  ·have hV:V=(0,(0,[])):=hv0 (.inl rfl)
   have hS0:S=[]:=hs0 (.inr rfl)
   subst hV;subst hS0
   have ea:cQ (3,(P,((0,(0,[])),(A,[]))))++t=al 3++(cP P++(al (dQ A)++t)):=by
    show (al 3++(cP P++al (dQ A)))++t=_
    simp only [List.append_assoc]
   rw [ea] at hS ⊢
   have s2:(cP P++(al (dQ A)++t)).length<4000000:=by rw [List.length_append] at hS;omega
   have s3:(al (dQ A)++t).length<4000000:=by rw [List.length_append] at s2;omega
   have hb:=je ha.1 ha.2
   obtain ⟨u1,_⟩:=sV k (dQ A) hb
   rw [vN _ ha.1 ha.2] at u1
   exact E0 k P t _ _ A _ (i 3 _ (by decide) hS) _ (jf k P _ hp pl (by omega) hk2 s2) (bS k _ _ (by omega) hb s3) u1 hc
  ·have ea:cQ (4,(P,(V,(A,S))))++t=al 4++(cP P++(bG V++(cA S++t))):=by
    show (al 4++(cP P++(bG V++cA S)))++t=_
    simp only [List.append_assoc]
   have hA:A=0:=ha0 (by decide)
   subst hA
   rw [ea] at hS ⊢
   have s2:(cP P++(bG V++(cA S++t))).length<4000000:=by rw [List.length_append] at hS;omega
   have s3:(bG V++(cA S++t)).length<4000000:=by rw [List.length_append] at s2;omega
   have s4:(cA S++t).length<4000000:=by rw [List.length_append] at s3;omega
   exact DK k P V S t _ _ (i 4 _ (by decide) hS) _ _ (jf k P _ hp pl (by omega) hk2 s2) (oY k _ (hvr (.inr (.inr rfl))) (by omega) s3) (nO k S t hse hk hk2 s4) hc
  ·have ea:cQ (5,(P,(V,(A,S))))++t=al 5++(cP P++(cA S++t)):=by
    show (al 5++(cP P++cA S))++t=_
    simp only [List.append_assoc]
   have hA:A=0:=ha0 (by decide)
   have hV:V=(0,(0,[])):=hv0 (.inr rfl)
   subst hA;subst hV
   rw [ea] at hS ⊢
   have s2:(cP P++(cA S++t)).length<4000000:=by rw [List.length_append] at hS;omega
   have s4:(cA S++t).length<4000000:=by rw [List.length_append] at s2;omega
   exact DO k P S t _ _ (i 5 _ (by decide) hS) _ (jf k P _ hp pl (by omega) hk2 s2) (nO k S t hse hk hk2 s4) hc
end Go.Proofs.YtfhcammihohmjaaGreatDoor
end
noncomputable section
/- What is told of transactions and lists of them is read again. -/
namespace Go.Proofs.YtfhcammihohmjaaGreatDoor
open Pal
theorem ShortO.siz {o:Op} (h:ShortO o) {k:Nat} (hk:1000<k):SizO k o:=by
 have h1:=h.path.1;have h3:=h.val;have h4:=h.seen
 exact ⟨fun s hs=>by have:=h.path.2 s hs;omega,by omega,by omega,by omega⟩
theorem ShortT.siz {t:cG} (h:ShortT t) {k:Nat} (hk:1000<k):SizT k t:=⟨by have:=h.len;omega,fun o ho=>(h.ops o ho).siz hk⟩
theorem zL (k:Nat) (t:cG) (ho:∀ o ∈ t.2.2.2.2,SizO k o) (hl:t.2.2.2.2.length<1000000) (hk:10<k) (hk2:k<1000000):∀ (n i:Nat),i≤t.2.2.2.2.length→t.2.2.2.2.length<n+i →
  z2D.l10 k n t.2.2.2.2 (af t.2.2.2.2) (i:Int) t=some 0→∀ o ∈ t.2.2.2.2.drop i,o=iM∨OkO k o
 | 0,i,_,h,_=>by omega
 | n+1,i,h,h',hc=>by
  rw [z2D.l10_eq,aO,aQ,au] at hc
  by_cases hi:i<t.2.2.2.2.length
  ·have so:=ho _ (List.getElem_mem hi)
   obtain ⟨e,p1,p2⟩:=F1 k t.2.2.2.2[i] so.path so.names so.val so.seen hk hk2
   obtain ⟨g,q1,q2⟩:=vg k t.2.2.2.2[i]
   rw [decide_eq_true hi,aT (e:=eJ) hi,p1,q1,aB (by omega)] at hc
   simp only [ac,ae] at hc
   have bt:ai true=false:=rfl
   have bf:ai false=true:=rfl
   have key:(t.2.2.2.2[i]=iM∨OkO k t.2.2.2.2[i])∧z2D.l10 k n t.2.2.2.2 (af t.2.2.2.2) ((i+1:Nat):Int) t=some 0:=by
    have chk:br (ai (az e 0)) (some e) (z2D.l10 k n t.2.2.2.2 (af t.2.2.2.2) ((i+1:Nat):Int) t)=some 0→(t.2.2.2.2[i]=iM∨OkO k t.2.2.2.2[i])∧z2D.l10 k n t.2.2.2.2 (af t.2.2.2.2) ((i+1:Nat):Int) t=some 0:=by
     intro hh
     rw [aW] at hh
     by_cases he:e=0
     ·rw [decide_eq_true he,bt,aa] at hh
      exact ⟨.inr (Gp k _ so hk hk2 (by rw [p1,he])),hh⟩
     ·rw [decide_eq_false he,bf,ac] at hh
      injection hh with hh;exact absurd hh he
    generalize hth:t.2.2.2.1=th at hc
    cases th with
    | true =>
     rw [ac] at hc
     cases g with
     | true=>rw [ac] at hc;exact ⟨.inl (Cj q1),hc⟩
     | false=>rw [aa] at hc;exact chk hc
    | false=>rw [aa] at hc;exact chk hc
   intro o ho'
   rw [List.drop_eq_getElem_cons hi] at ho'
   rcases List.mem_cons.1 ho' with rfl | ho'
   ·exact key.1
   ·exact zL k t ho hl hk hk2 n (i+1) (by omega) (by omega) key.2 o ho'
  ·rw [List.drop_eq_nil_of_le (by omega)]
   intro o ho';simp at ho'
structure OkT (k:Nat) (t:cG):Prop where
 chk:z2D.f k t=some 0
 dot:aK t.1=true
 user:0≤t.2.1∧t.2.1<8
 time:1≤t.2.2.1∧t.2.2.1≤1099511627776
 ops:t.2.2.2.2.length≤16
 each:∀ o ∈ t.2.2.2.2,o=iM∨OkO k o
theorem yC (k:Nat) (t:cG) (st:SizT k t) (hk:10<k) (hk2:k<1000000) (h:z2D.f k t=some 0):OkT k t:=by
 have hsave:=h
 have hl:=st.ops
 have bt:ai true=false:=rfl
 have bf:ai false=true:=rfl
 rw [z2D.f_eq,dN,ae] at h
 cases hr:aK t.1 with
 | false=>rw [hr,bf,ac,ac] at h;cases h
 | true =>
 rw [hr,bt,aa,show aq t.2.1 0=decide (t.2.1<0) from rfl,show bM 8 t.2.1=decide (8≤t.2.1) from rfl] at h
 by_cases h1:t.2.1<0
 ·rw [decide_eq_true h1,ac] at h;cases h
 rw [decide_eq_false h1,aa] at h
 by_cases h2:8≤t.2.1
 ·rw [decide_eq_true h2,ac,ac] at h;cases h
 rw [decide_eq_false h2,aa,show aq t.2.2.1 1=decide (t.2.2.1<1) from rfl,show aq 1099511627776 t.2.2.1=decide (1099511627776<t.2.2.1) from rfl] at h
 by_cases h3:t.2.2.1<1
 ·rw [decide_eq_true h3,ac] at h;cases h
 rw [decide_eq_false h3,aa] at h
 by_cases h4:1099511627776<t.2.2.1
 ·rw [decide_eq_true h4,ac] at h;cases h
 rw [decide_eq_false h4,aa] at h
 generalize h5:az (af t.2.2.2.2) 0=q5 at h
 cases q5 with
 | true=>rw [ac] at h;cases h
 | false =>
 rw [aa,show aq 16 (af t.2.2.2.2)=decide (16<t.2.2.2.2.length) from cq 16 _] at h
 by_cases h6:16<t.2.2.2.2.length
 ·rw [decide_eq_true h6,ac] at h;cases h
 rw [decide_eq_false h6,aa] at h
 have:=zL k t st.each (by omega) hk hk2 k 0 (by omega) (by omega) h
 rw [List.drop_zero] at this
 exact ⟨hsave,hr,by omega,by omega,by omega,this⟩
def eN (b:Bool):Nat:=match b with | true=>1 | false=>0
def bZ (t:cG):List UInt8:=cj t.1++(al t.2.1.toNat++(al t.2.2.1.toNat++(al (eN t.2.2.2.1)++(al t.2.2.2.2.length++t.2.2.2.2.flatMap cQ))))
theorem lu {k:Nat} {t:cG} (h:OkT k t) (hs:ShortT t):(bZ t).length≤130000:=by
 have h1:=eZ h.dot
 have hu:=h.user;have ht:=h.time;have ho:=h.ops
 have h2:=aZ (n:=t.2.1.toNat) (by omega)
 have h3:=aZ (n:=t.2.2.1.toNat) (by omega)
 have h4:=aZ (n:=eN t.2.2.2.1) (by unfold eN;split <;> omega)
 have h5:=aZ (n:=t.2.2.2.2.length) (by omega)
 have:=dp cQ 8000 t.2.2.2.2 (fun o ho=>uO (h.each o ho) (hs.ops o ho))
 unfold bZ;simp only [List.length_append];omega
theorem wV (t:cG):0<(bZ t).length:=by
 unfold bZ;rw [List.length_append];have:=ny t.1;omega
theorem wA (k:Nat) (l:List Op) (hr:∀ o ∈ l,o=iM∨OkO k o) (hs:∀ o ∈ l,ShortO o) (hl:l.length<1000) (hk:5000<k) (hk2:k<1000000):∀ (n i:Nat) (x:List UInt8),i≤l.length→l.length<n+i→x.length≤100+8000 * i→z31.l6 k n x l (af l) (i:Int)=some (x++(l.drop i).flatMap cQ)
 | 0,i,_,h,h',_=>by omega
 | n+1,i,x,h,h',hx=>by
  rw [z31.l6_eq,aO,aQ,au]
  by_cases hi:i<l.length
  ·have hd:=hr l[i] (List.getElem_mem hi)
   have hsd:=hs l[i] (List.getElem_mem hi)
   have hp:=uO hd hsd
   have e4:aH .i64 (i:Int) 1=((i+1:Nat):Int):=aB (by omega)
   have ed:l.drop i=l[i]::l.drop (i+1):=List.drop_eq_getElem_cons hi
   rw [decide_eq_true hi,aT (e:=eJ) hi,Bq k hd hsd hk hk2,e4,ed,List.flatMap_cons]
   simp only [ac,ae]
   rw [bk (by omega) (by omega),ac]
   refine (wA k l hr hs hl hk hk2 n (i+1) _ (by omega) (by omega) (by unfold app;rw [List.length_append];omega)).trans ?_
   unfold app;rw [List.append_assoc]
  ·have e0:l.drop i=[]:=List.drop_eq_nil_of_le (by omega)
   rw [decide_eq_false hi,aa,e0];simp
theorem sy (k : Nat) {t : cG} (h : OkT k t) (hs : ShortT t) (hk : 5000 < k) (hk2 : k < 1000000) : z31.f k t = some (bZ t) := by
  have h1:=eZ h.dot
  have hu:=h.user;have ht:=h.time;have ho:=h.ops
  have h2:=aZ (n:=t.2.1.toNat) (by omega)
  have h3:=aZ (n:=t.2.2.1.toNat) (by omega)
  have h4:∀ b,(al (eN b)).length≤8:=fun b=>aZ (n:=eN b) (by unfold eN;split <;> omega)
  have h5:=aZ (n:=t.2.2.2.2.length) (by omega)
  have e:(af t.2.2.2.2).toNat=t.2.2.2.2.length:=rfl
  have q1:bK 1=some (al (eN true)):=pI 1 (by decide)
  have q0:bK 0=some (al (eN false)):=pI 0 (by decide)
  have key : ∀ b, (br (bz (cj t.1) (al t.2.1.toNat))
      (br (bz (app (cj t.1) (al t.2.1.toNat)) (al t.2.2.1.toNat))
        (br (bz (app (app (cj t.1) (al t.2.1.toNat)) (al t.2.2.1.toNat)) (al (eN b)))
          (br (bz (app (app (app (cj t.1) (al t.2.1.toNat)) (al t.2.2.1.toNat)) (al (eN b))) (al t.2.2.2.2.length))
            (z31.l6 k k (app (app (app (app (cj t.1) (al t.2.1.toNat)) (al t.2.2.1.toNat)) (al (eN b))) (al t.2.2.2.2.length)) t.2.2.2.2 (af t.2.2.2.2) 0)
            none)
          none)
        none)
      none)=some (cj t.1++(al t.2.1.toNat++(al t.2.2.1.toNat++(al (eN b)++(al t.2.2.2.2.length++t.2.2.2.2.flatMap cQ))))):=by
    intro b
    have h4:=h4 b
    rw [bk (by omega) (by omega),ac,bk (by unfold app;simp only [List.length_append];omega) (by omega),ac,bk (by unfold app;simp only [List.length_append];omega) (by omega),ac,bk (by unfold app;simp only [List.length_append];omega) (by omega),ac]
    refine (wA k t.2.2.2.2 h.each hs.ops (by omega) hk hk2 k 0 _ (by omega) (by omega) (by unfold app;simp only [List.length_append];omega)).trans ?_
    rw [List.drop_zero];unfold app;simp only [List.append_assoc]
  rw [z31.f_eq,kg k h.dot,cr (n:=t.2.1) (by omega),cr (n:=t.2.2.1) (by omega),cr (n:=af t.2.2.2.2) (by unfold af;omega),e,q1,q0]
  unfold bZ
  simp only [ae]
  cases t.2.2.2.1 with
  | true=>rw [ac];exact key true
  | false=>rw [aa];exact key false
theorem yO (k:Nat) (hk:5000<k) (hk2:k<1000000) (N:Nat) (hN:N≤16) (d:bu) (a b:Int) (c:Bool) (t:List UInt8) (p:List Op) (hc:z2D.f k (d,(a,(b,(c,p))))=some 0):∀ (n i:Nat) (x l:List Op),i+l.length=N→N<n+i→x.length=i→(∀ o ∈ l,o=iM∨OkO k o)→x++l=p→(l.flatMap cQ++t).length<4000000 →
  z2Q.l7 k n (N:Int) (i:Int) (0,0) 0 0 false [] d a b c x (l.flatMap cQ++t,0)=some ((d,(a,(b,(c,p)))),(t,0))
 | 0,i,_,_,h,h',_,_,_,_=>by omega
 | n+1,i,x,[],h,_,hx,_,hp,_=>by
  have hi:N=i:=by simpa using h.symm
  subst hi
  rw [List.append_nil] at hp
  subst hp
  rw [z2Q.l7_eq,bA,decide_eq_false (Nat.lt_irrefl _)]
  have bt:ai true=false:=rfl
  simp only [aa,cp,ae,aW,decide_true,ac,hc,fN,if_true,bt,List.append_nil,List.flatMap_nil,List.nil_append]
 | n+1,i,x,o::l,h,h',hx,hr,hp,hS=>by
  simp only [List.length_cons] at h
  have e4:aH .i64 (i:Int) 1=((i+1:Nat):Int):=aB (by omega)
  have ea:(o::l).flatMap cQ++t=cQ o++(l.flatMap cQ++t):=by rw [List.flatMap_cons,List.append_assoc]
  rw [ea] at hS ⊢
  have hS2:(l.flatMap cQ++t).length<4000000:=by rw [List.length_append] at hS;omega
  rw [z2Q.l7_eq,bA,decide_eq_true (show i<N by omega),El k _ (hr o (by simp)) hk hk2 hS,e4]
  simp only [ac,ae]
  rw [fX (show x.length<4000000 by omega),ac]
  exact yO k hk hk2 N hN d a b c t p hc n (i+1) (app x (o::[])) l (by omega) (by omega) (by simp [app,hx]) (fun e he=>hr e (List.mem_cons_of_mem _ he)) (by unfold app;rw [List.append_assoc];exact hp) hS2
theorem vU (k:Nat) {t:cG} (r:List UInt8) (h:OkT k t) (hk:5000<k) (hk2:k<1000000) (hS:(bZ t++r).length<4000000):z2Q.f k (bZ t++r,0)=some (t,(r,0)):=by
 have hu:=h.user;have ht:=h.time;have ho:=h.ops
 have hth:eN t.2.2.2.1≤1:=by unfold eN;split <;> omega
 have ea:bZ t++r=cj t.1++(al t.2.1.toNat++(al t.2.2.1.toNat++(al (eN t.2.2.2.1)++(al t.2.2.2.2.length++(t.2.2.2.2.flatMap cQ++r))))):=by unfold bZ;simp only [List.append_assoc]
 rw [ea] at hS ⊢
 have s1:(al t.2.1.toNat++(al t.2.2.1.toNat++(al (eN t.2.2.2.1)++(al t.2.2.2.2.length++(t.2.2.2.2.flatMap cQ++r))))).length<4000000:=by rw [List.length_append] at hS;omega
 have s2:(al t.2.2.1.toNat++(al (eN t.2.2.2.1)++(al t.2.2.2.2.length++(t.2.2.2.2.flatMap cQ++r)))).length<4000000:=by rw [List.length_append] at s1;omega
 have s3:(al (eN t.2.2.2.1)++(al t.2.2.2.2.length++(t.2.2.2.2.flatMap cQ++r))).length<4000000:=by rw [List.length_append] at s2;omega
 have s4:(al t.2.2.2.2.length++(t.2.2.2.2.flatMap cQ++r)).length<4000000:=by rw [List.length_append] at s3;omega
 have s5:(t.2.2.2.2.flatMap cQ++r).length<4000000:=by rw [List.length_append] at s4;omega
 have hlen:=gq cQ AE t.2.2.2.2
 have e1:((t.2.1.toNat:Nat):Int)=t.2.1:=Int.toNat_of_nonneg (by omega)
 have e2:((t.2.2.1.toNat:Nat):Int)=t.2.2.1:=Int.toNat_of_nonneg (by omega)
 have e3:aq 1 ((eN t.2.2.2.1:Nat):Int)=false:=decide_eq_false (by omega)
 have e4:az ((eN t.2.2.2.1:Nat):Int) 1=t.2.2.2.1:=by cases t.2.2.2.1 <;> rfl
 rw [z2Q.f_eq,kw k t.1 _ h.dot (by omega) hS]
 simp only [ae]
 rw [bS k _ _ (by omega) (by omega) s1]
 simp only [ae]
 rw [bS k _ _ (by omega) (by omega) s2]
 simp only [ae]
 rw [bS k _ _ (by omega) (by omega) s3]
 simp only [ae,cp]
 rw [show az (0:Int) 0=true from rfl,ac,e3,aa,e4,e1,e2,i7 k _ 16 _ (by omega) (by omega) (by omega) (by rw [List.length_append];omega) s4]
 simp only [ae]
 exact yO k hk hk2 t.2.2.2.2.length ho t.1 t.2.1 t.2.2.1 t.2.2.2.1 r t.2.2.2.2 h.chk k 0 [] t.2.2.2.2 (by omega) (by omega) rfl h.each rfl s5
def gr (l:List cG):List UInt8:=al l.length++l.flatMap bZ
theorem sI {k:Nat} {l:List cG} (h:∀ t ∈ l,OkT k t) (hs:∀ t ∈ l,ShortT t) (hl:l.length≤20):(gr l).length≤2600008:=by
 have hp:=aZ (n:=l.length) (by omega)
 have:=dp bZ 130000 l (fun t ht=>lu (h t ht) (hs t ht))
 unfold gr;rw [List.length_append];omega
theorem uI (k:Nat) (l:List cG) (hr:∀ t ∈ l,OkT k t) (hs:∀ t ∈ l,ShortT t) (hl:l.length≤20) (hk:5000<k) (hk2:k<1000000):∀ (n i:Nat) (x:List UInt8),i≤l.length→l.length<n+i→x.length≤100+130000 * i→z2X.l3 k n x l (af l) (i:Int)=some (x++(l.drop i).flatMap bZ)
 | 0,i,_,h,h',_=>by omega
 | n+1,i,x,h,h',hx=>by
  rw [z2X.l3_eq,aO,aQ,au]
  by_cases hi:i<l.length
  ·have hd:=hr l[i] (List.getElem_mem hi)
   have hsd:=hs l[i] (List.getElem_mem hi)
   have hp:=lu hd hsd
   have e4:aH .i64 (i:Int) 1=((i+1:Nat):Int):=aB (by omega)
   have ed:l.drop i=l[i]::l.drop (i+1):=List.drop_eq_getElem_cons hi
   rw [decide_eq_true hi,aT (e:=aJ) hi,sy k hd hsd hk hk2,e4,ed,List.flatMap_cons]
   simp only [ac,ae]
   rw [bk (by omega) (by omega),ac]
   refine (uI k l hr hs hl hk hk2 n (i+1) _ (by omega) (by omega) (by unfold app;rw [List.length_append];omega)).trans ?_
   unfold app;rw [List.append_assoc]
  ·have e0:l.drop i=[]:=List.drop_eq_nil_of_le (by omega)
   rw [decide_eq_false hi,aa,e0];simp
theorem sF (k:Nat) {l:List cG} (hr:∀ t ∈ l,OkT k t) (hs:∀ t ∈ l,ShortT t) (hl:l.length≤20) (hk:5000<k) (hk2:k<1000000):z2X.f k l=some (gr l):=by
 have e:(af l).toNat=l.length:=rfl
 have hp:=aZ (n:=l.length) (by omega)
 rw [z2X.f_eq,cr (n:=af l) (by unfold af;omega),e,ae]
 exact uI k l hr hs hl hk hk2 k 0 _ (by omega) (by omega) (by omega)
theorem vz (k:Nat) (hk:5000<k) (hk2:k<1000000) (N:Nat) (hN:N≤1000) (t:List UInt8):∀ (n i:Nat) (x l:List cG),i+l.length=N→N<n+i→x.length=i→(∀ o ∈ l,OkT k o)→(x++l).Pairwise (fun a b=>aP a.1 b.1=true)→(l.flatMap bZ++t).length<4000000 →
  z0V.l3 k n x (N:Int) (i:Int) (l.flatMap bZ++t,0)=some (x++l,(t,0))
 | 0,i,_,_,h,h',_,_,_,_=>by omega
 | n+1,i,x,[],h,_,hx,_,hc,_=>by
  have hi:N=i:=by simpa using h.symm
  subst hi
  rw [List.append_nil] at hc
  obtain ⟨b1,g1,i1⟩:=nB k x (by omega) (by omega) hk2
  have hb:b1=true:=i1.2 hc
  subst hb
  rw [z0V.l3_eq,bA,decide_eq_false (Nat.lt_irrefl _)]
  have bt:ai true=false:=rfl
  simp only [aa,cp,ae,aW,decide_true,ac,g1,bt,List.append_nil,List.flatMap_nil,List.nil_append]
 | n+1,i,x,d::l,h,h',hx,hr,hc,hS=>by
  simp only [List.length_cons] at h
  have e4:aH .i64 (i:Int) 1=((i+1:Nat):Int):=aB (by omega)
  have ea:(d::l).flatMap bZ++t=bZ d++(l.flatMap bZ++t):=by rw [List.flatMap_cons,List.append_assoc]
  rw [ea] at hS ⊢
  have hS2:(l.flatMap bZ++t).length<4000000:=by rw [List.length_append] at hS;omega
  rw [z0V.l3_eq,bA,decide_eq_true (show i<N by omega),vU k _ (hr d (by simp)) hk hk2 hS,e4]
  simp only [ac,ae]
  rw [fX (show x.length<4000000 by omega),ac]
  have:=vz k hk hk2 N hN t n (i+1) (app x (d::[])) l (by omega) (by omega) (by simp [app,hx]) (fun e he=>hr e (List.mem_cons_of_mem _ he)) (by unfold app;rw [List.append_assoc];exact hc) hS2
  refine this.trans ?_
  simp [app]
theorem zS (k:Nat) (l:List cG) (most:Int) (t:List UInt8) (hr:∀ o ∈ l,OkT k o) (hc:l.Pairwise (fun a b=>aP a.1 b.1=true)) (hm:(l.length:Int)≤most) (hl:l.length≤1000) (hk:5000<k) (hk2:k<1000000) (hS:(gr l++t).length<4000000) :
  z0V.f k most (gr l++t,0)=some (l,(t,0)):=by
 have ea:gr l++t=al l.length++(l.flatMap bZ++t):=by unfold gr;rw [List.append_assoc]
 rw [ea] at hS ⊢
 have hS2:(l.flatMap bZ++t).length<4000000:=by rw [List.length_append] at hS;omega
 have hlen:=gq bZ wV l
 rw [z0V.f_eq,i7 k _ most _ (by omega) (by omega) hm (by rw [List.length_append];omega) hS]
 simp only [ae]
 exact vz k hk hk2 l.length hl t k 0 [] l (by omega) (by omega) rfl hr hc hS2
end Go.Proofs.YtfhcammihohmjaaGreatDoor
end
noncomputable section
/- A state that may be is read as it was told. -/
namespace Go.Proofs.YtfhcammihohmjaaGreatDoor
open Pal
def fA (s:de):List UInt8:=gr s.1++(cA s.2.1++(kI s.2.2.2.1++s.2.2.2.2.flatMap dD))
theorem RightS.ok {k:Nat} {s:de} (h:RightS k s) (hsh:∀ t ∈ s.1,ShortT t) (hk:1000<k) (hk2:k<1000000):∀ t ∈ s.1,OkT k t:=fun t ht=>by
 have st:=(hsh t ht).siz hk
 obtain ⟨e,g1,g2⟩:=jR k t st.each st.ops (by omega) hk2
 rw [h.chk t ht] at g2
 injection g2 with g2
 exact yC k t st (by omega) hk2 (by rw [g1,← g2])
theorem yL {R:List (List bu)} (h:∀ l ∈ R,l.length≤40∧∀ d ∈ l,aK d=true) (h8:R.length≤8):(R.flatMap dD).length≤5184:=by
 have:=dp dD 648 R (fun l hl=>by
  obtain ⟨h1,h2⟩:=h l hl
  have:=kC h2 (by omega);omega)
 omega
theorem s9 (k:Nat) (R:List (List bu)) (h8:R.length=8) (hr:∀ l ∈ R,l.length≤40∧∀ d ∈ l,aK d=true) (hk:5000<k) (hk2:k<1000000):∀ (n i:Nat) (x:List UInt8),i≤8→8<n+i→x.length≤3000000+648 * i→z29.l3 k n x R (i:Int)=some (x++(R.drop i).flatMap dD)
 | 0,i,_,h,h',_=>by omega
 | n+1,i,x,h,h',hx=>by
  rw [z29.l3_eq,show aq (i:Int) 8=decide (i<8) from bA i 8,dS,au]
  by_cases hi:i<8
  ·have hi':i<R.length:=by omega
   obtain ⟨hd1,hd2⟩:=hr R[i] (List.getElem_mem hi')
   have hp:=kC hd2 (by omega)
   have e4:aH .i64 (i:Int) 1=((i+1:Nat):Int):=aB (by omega)
   have ed:R.drop i=R[i]::R.drop (i+1):=List.drop_eq_getElem_cons hi'
   rw [decide_eq_true hi,aT (e:=.slc ah) hi',po k hd2 (by omega) hk2,e4,ed,List.flatMap_cons]
   simp only [ac,ae]
   rw [bk (by omega) (by omega),ac]
   refine (s9 k R h8 hr hk hk2 n (i+1) _ (by omega) (by omega) (by unfold app;rw [List.length_append];omega)).trans ?_
   unfold app;rw [List.append_assoc]
  ·have e0:R.drop i=[]:=List.drop_eq_nil_of_le (by omega)
   rw [decide_eq_false hi,aa,e0];simp
theorem ShortS.redoR {k:Nat} {s:de} (h:ShortS s) (hr:RightS k s):∀ l ∈ s.2.2.2.2,l.length≤40∧∀ d ∈ l,aK d=true:=fun l hl=>⟨h.redo l hl,(hr.redo l hl).2⟩
theorem si (k:Nat) {s:de} (sh:ShortS s) (hr:RightS k s) (h8:s.2.2.2.2.length=8) (hk:5000<k) (hk2:k<1000000):z29.f k s=some (fA s)∧(fA s).length≤2700000:=by
 have ho:=hr.ok sh.each (by omega) hk2
 have l1:=sI ho sh.each sh.tx
 have l2:=vx hr.un.rt sh.un (by omega)
 have l3:=uD hr.se.1 sh.se (by omega)
 have l4:=yL (sh.redoR hr) (by omega)
 have hun:=sh.un;have hse:=sh.se
 constructor
 ·rw [z29.f_eq,sF k ho sh.each sh.tx hk hk2,ae,wi k hr.un.rt (by omega) hk2,ae,bk (by omega) (by omega),ac,BI k hr.se.1 (by omega) (by omega) hk2,ae,bk (by unfold app;rw [List.length_append];omega) (by omega),ac]
  refine (s9 k s.2.2.2.2 h8 (sh.redoR hr) hk hk2 k 0 _ (by omega) (by omega) (by unfold app;simp only [List.length_append];omega)).trans ?_
  rw [List.drop_zero];unfold app fA;simp only [List.append_assoc]
 ·unfold fA;simp only [List.length_append];omega
theorem wc (k:Nat) (s:de) (h8:s.2.2.2.2.length=8) (sh:ShortS s) (hr:RightS k s) (t:List UInt8) (hk:5000<k) (hk2:k<1000000):∀ (n i:Nat) (R:List (List bu)),i≤8→8<n+i→R.length=8→(∀ j:Nat,j<i→R[j]? = s.2.2.2.2[j]?)→(List.flatMap dD (s.2.2.2.2.drop i)++t).length<4000000 →
  z2b.l3 k n (i:Int) [] [] (aV 16 0) [] (aV 16 0) [] (aV 8 []) s.1 s.2.1 (aV 16 0) [] (s.2.2.2.1,R) (List.flatMap dD (s.2.2.2.2.drop i)++t,0)=some (s,(t,0))
 | 0,i,_,h,h',_,_,_=>by omega
 | n+1,i,R,h,h',hR,hj,hS=>by
  rw [z2b.l3_eq,show aq (i:Int) 8=decide (i<8) from bA i 8,dS,au]
  by_cases hi:i<8
  ·have hi':i<s.2.2.2.2.length:=by omega
   obtain ⟨hd1,hd2⟩:=sh.redoR hr _ (List.getElem_mem hi')
   have e4:aH .i64 (i:Int) 1=((i+1:Nat):Int):=aB (by omega)
   have ed:s.2.2.2.2.drop i=s.2.2.2.2[i]::s.2.2.2.2.drop (i+1):=List.drop_eq_getElem_cons hi'
   have ea:List.flatMap dD (s.2.2.2.2.drop i)++t=dD s.2.2.2.2[i]++(List.flatMap dD (s.2.2.2.2.drop (i+1))++t):=by rw [ed,List.flatMap_cons,List.append_assoc]
   rw [ea] at hS ⊢
   have hS2:(List.flatMap dD (s.2.2.2.2.drop (i+1))++t).length<4000000:=by rw [List.length_append] at hS;omega
   rw [decide_eq_true hi,nT k _ 1000 _ hd2 (by omega) (by omega) (by omega) hk2 hS,e4]
   simp only [ac,ae]
   exact wc k s h8 sh hr t hk hk2 n (i+1) _ (by omega) (by omega) (by simp [ja,hR]) (fun j hj'=>by
    show (List.set R i s.2.2.2.2[i])[j]? = _
    by_cases e:j=i
    ·subst e
     rw [List.getElem?_set_self (by omega),List.getElem?_eq_getElem hi']
    ·rw [List.getElem?_set_ne (fun h=>e h.symm)]
     exact hj j (by omega)) hS2
  ·have e0:s.2.2.2.2.drop i=[]:=List.drop_eq_nil_of_le (by omega)
   have hRs:R=s.2.2.2.2:=List.ext_getElem? fun j=>by
    by_cases hj':j<8
    ·exact hj j (by omega)
    ·rw [List.getElem?_eq_none (by omega),List.getElem?_eq_none (by omega)]
   subst hRs
   have tx:=sh.tx;have un:=sh.un;have kn:=sh.kn
   have hdl:(cY s.1).length=s.1.length:=by unfold cY;rw [List.length_map]
   have hkn:gd (cY s.1)=s.2.2.1:=by rw [← rL];exact hr.know.symm
   obtain ⟨b1,g1,i1⟩:=uG k s hr.kn.1.vok.len hr.se.1.vok.len h8 (fun t ht=>by
    have st:=(sh.each t ht).siz (k:=k) (by omega)
    exact ⟨st.ops,st.each⟩) (fun l hl=>by have:=sh.redo l hl;omega) (by omega) (by omega) hk hk2
   have hb:b1=true:=i1.2 hr
   subst hb
   have g2:z1x.f k (s.1,(s.2.1,(s.2.2.1,(s.2.2.2.1,s.2.2.2.2))))=some true:=g1
   have bt:ai true=false:=rfl
   rw [decide_eq_false hi,aa,e0,List.flatMap_nil,List.nil_append,wl k s.1 (by omega) hk2,ae,Bk k _ (by omega) hk2,ae,hkn]
   simp only [cp,ae,show az (0:Int) 0=true from rfl,ac,g2,bt,aa]
theorem xS (k:Nat) {s:de} (t:List UInt8) (sh:ShortS s) (hr:RightS k s) (h8:s.2.2.2.2.length=8) (hk:5000<k) (hk2:k<1000000) (hS:(fA s++t).length<4000000):z2b.f k (fA s++t,0)=some (s,(t,0)):=by
 have tx:=sh.tx;have un:=sh.un;have se:=sh.se
 have ea:fA s++t=gr s.1++(cA s.2.1++(kI s.2.2.2.1++(s.2.2.2.2.flatMap dD++t))):=by unfold fA;simp only [List.append_assoc]
 rw [ea] at hS ⊢
 have s1:(cA s.2.1++(kI s.2.2.2.1++(s.2.2.2.2.flatMap dD++t))).length<4000000:=by rw [List.length_append] at hS;omega
 have s2:(kI s.2.2.2.1++(s.2.2.2.2.flatMap dD++t)).length<4000000:=by rw [List.length_append] at s1;omega
 have s3:(s.2.2.2.2.flatMap dD++t).length<4000000:=by rw [List.length_append] at s2;omega
 rw [z2b.f_eq,zS k s.1 1000 _ (hr.ok sh.each (by omega) hk2) hr.ris (by omega) (by omega) hk hk2 hS]
 simp only [ae]
 rw [pc k s.2.1 1048576 _ hr.un (by omega) (by omega) (by omega) hk2 s1]
 simp only [ae]
 rw [Ao k s.2.2.2.1 _ hr.se.1 (by omega) hk hk2 s2]
 simp only [ae]
 have:=wc k s h8 sh hr t hk hk2 k 0 (aV 8 []) (by omega) (by omega) (by simp [aV]) (fun j hj=>by omega) (by rw [List.drop_zero];exact s3)
 rw [List.drop_zero] at this
 exact this
end Go.Proofs.YtfhcammihohmjaaGreatDoor
end
noncomputable section
/- Deltas: the program and the document read the same, and test the same; what is told is read again. -/
namespace Go.Proofs.YtfhcammihohmjaaGreatDoor
open Pal
def ft (d:nx):List UInt8:=gr d.1++(cA d.2.1++dD d.2.2)
theorem RightDl.ok {k:Nat} {d:nx} (h:RightDl k d) (hsh:∀ t ∈ d.1,ShortT t) (hk:1000<k) (hk2:k<1000000):∀ t ∈ d.1,OkT k t:=fun t ht=>by
 have st:=(hsh t ht).siz hk
 obtain ⟨e,g1,g2⟩:=jR k t st.each st.ops (by omega) hk2
 rw [h.chk t ht] at g2
 injection g2 with g2
 exact yC k t st (by omega) hk2 (by rw [g1,← g2])
theorem sB (k:Nat) {d:nx} (sh:ShortD d) (hr:RightDl k d) (hk:5000<k) (hk2:k<1000000):z10.f k d=some (ft d)∧(ft d).length≤2700000:=by
 have ho:=hr.ok sh.each (by omega) hk2
 have l1:=sI ho sh.each sh.tx
 have l2:=vx hr.un.rt sh.un (by omega)
 have l3:=kC hr.se (by have:=sh.se;omega)
 have hun:=sh.un;have hse:=sh.se
 constructor
 ·rw [z10.f_eq,sF k ho sh.each sh.tx hk hk2,wi k hr.un.rt (by omega) hk2,po k hr.se (by omega) hk2]
  simp only [ae]
  rw [bk (by omega) (by omega),ac,bk (by unfold app;rw [List.length_append];omega) (by omega),ac]
  unfold app ft;simp only [List.append_assoc]
 ·unfold ft;simp only [List.length_append];omega
theorem EL (k:Nat) {d:nx} (t:List UInt8) (sh:ShortD d) (hr:RightDl k d) (hk:5000<k) (hk2:k<1000000) (hS:(ft d++t).length<4000000):z0v.f k (ft d++t,0)=some (d,(t,0)):=by
 have tx:=sh.tx;have un:=sh.un;have se:=sh.se
 have ea:ft d++t=gr d.1++(cA d.2.1++(dD d.2.2++t)):=by unfold ft;simp only [List.append_assoc]
 have bt:ai true=false:=rfl
 rw [ea] at hS ⊢
 have s1:(cA d.2.1++(dD d.2.2++t)).length<4000000:=by rw [List.length_append] at hS;omega
 have s2:(dD d.2.2++t).length<4000000:=by rw [List.length_append] at s1;omega
 rw [z0v.f_eq,zS k d.1 1000 _ (hr.ok sh.each (by omega) hk2) hr.ris (by omega) (by omega) hk hk2 hS]
 simp only [ae]
 rw [pc k d.2.1 1048576 _ hr.un (by omega) (by omega) (by omega) hk2 s1]
 simp only [ae]
 rw [nT k d.2.2 1048576 _ hr.se (by omega) (by omega) (by omega) hk2 s2]
 simp only [ae,cp,aW,decide_true,bt,aa]
end Go.Proofs.YtfhcammihohmjaaGreatDoor
end
noncomputable section
/- Records: whether one may be; the program and the document parse the same. -/
namespace Go.Proofs.YtfhcammihohmjaaGreatDoor
open Pal
abbrev jQ:=Ty.D b7
def rj:cG:=((0,0),(0,(0,(false,[]))))
def vC:bq:=((0,0),0)
def lG:nx:=([],([],[]))
def H1:jQ:=(0,(rj,(0,(vC,(0,(lG,bE))))))
structure SizR (k n:Nat) (x:jQ):Prop where
 t:SizT k x.2.1
 d:LenD n x.2.2.2.2.2.1
 dt:∀ t ∈ x.2.2.2.2.2.1.1,SizT k t
 s:LenS n x.2.2.2.2.2.2
 st:∀ t ∈ x.2.2.2.2.2.2.1,SizT k t
 s8:x.2.2.2.2.2.2.2.2.2.2.length=8
 v1:x.2.2.2.2.2.2.2.2.1.1.length=16
 v2:x.2.2.2.2.2.2.2.2.2.1.1.length=16
theorem uh {k:Nat} (hk:10<k):SizT k rj:=⟨by show 0<k;omega,fun o ho=>by simp [rj] at ho⟩
theorem zr (n:Nat):LenD n lG:=⟨by simp [lG],by simp [lG],by simp [lG]⟩
theorem SizR.of {k n:Nat} {K u b:Int} {t:cG} {U:bq} {d:nx} {s:de} (ht:SizT k t) (hd:LenD n d) (hdt:∀ t ∈ d.1,SizT k t) (hs:LenS n s) (hst:∀ t ∈ s.1,SizT k t) (h8:s.2.2.2.2.length=8) (h1:s.2.2.1.1.length=16) (h2:s.2.2.2.1.1.length=16):SizR k n (K,(t,(u,(U,(b,(d,s)))))):=⟨ht,hd,hdt,hs,hst,h8,h1,h2⟩
theorem SizR.none {k n:Nat} {K u b:Int} {t:cG} {U:bq} (ht:SizT k t):SizR k n (K,(t,(u,(U,(b,(lG,bE)))))) :=
 .of ht (zr n) (fun t ht=>by simp [lG] at ht) (m7 n) (fun t ht=>by simp [bE] at ht) (by simp [bE,aV]) rfl rfl
theorem zT (k:Nat) (l:List cG) (ho:∀ t ∈ l,SizT k t) (hl:l.length<1000000) (hk:10<k) (hk2:k<1000000):∀ (n i:Nat),i≤l.length→l.length<n+i →
  ∃ r:Int,z08.l2 k n l (af l) (i:Int)=some r∧(0≤r ↔ ¬ ∀ t ∈ l.drop i,z17.f k t=some 0)
 | 0,i,_,h=>by omega
 | n+1,i,h,h'=>by
  rw [z08.l2_eq,aO,aQ,au]
  by_cases hi:i<l.length
  ·have st:=ho _ (List.getElem_mem hi)
   obtain ⟨e,g1,g2⟩:=jR k l[i] st.each st.ops hk hk2
   rw [decide_eq_true hi,ac,ac,aT (e:=aJ) hi,z0I.f_eq,g1,ae,ae,aB (by omega),aW,bB,List.drop_eq_getElem_cons hi]
   by_cases h0:e=0
   ·subst h0
    rw [decide_eq_false (by simp),aa]
    obtain ⟨r,q1,q2⟩:=zT k l ho hl hk hk2 n (i+1) (by omega) (by omega)
    refine ⟨r,q1,q2.trans (not_congr ⟨fun h t ht=>?_,fun h t ht=>h t (List.mem_cons_of_mem _ ht)⟩)⟩
    rcases List.mem_cons.1 ht with rfl | ht
    ·exact g2
    ·exact h t ht
   ·rw [decide_eq_true h0,ac]
    refine ⟨(i:Int),rfl,⟨fun _ h=>h0 ?_,fun _=>by omega⟩⟩
    have:=h l[i] List.mem_cons_self
    rw [g2] at this;injection this
  ·rw [decide_eq_false hi,aa,List.drop_eq_nil_of_le (by omega)]
   exact ⟨-1,rfl,⟨fun h=>by omega,fun h=>absurd (fun t ht=>by simp at ht) h⟩⟩
theorem CY (k:Nat) (l:List bu) (hl:l.length<1000000):∀ (n i:Nat),i≤l.length→l.length<n+i →
  ∃ r:Int,z07.l2 k n l (af l) (i:Int)=some r∧(0≤r ↔ ¬ ∀ d ∈ l.drop i,aK d=true)
 | 0,i,_,h=>by omega
 | n+1,i,h,h'=>by
  rw [z07.l2_eq,aO,aQ,au]
  by_cases hi:i<l.length
  ·rw [decide_eq_true hi,ac,ac,aT (e:=ah) hi,z0H.f_eq,dN,ae,ae,aB (by omega),List.drop_eq_getElem_cons hi]
   cases hr:aK l[i] with
   | true =>
    obtain ⟨r,q1,q2⟩:=CY k l hl n (i+1) (by omega) (by omega)
    refine ⟨r,q1,q2.trans (not_congr ⟨fun h t ht=>?_,fun h t ht=>h t (List.mem_cons_of_mem _ ht)⟩)⟩
    rcases List.mem_cons.1 ht with rfl | ht
    ·exact hr
    ·exact h t ht
   | false =>
    refine ⟨(i:Int),rfl,⟨fun _ h=>?_,fun _=>by omega⟩⟩
    have:=h l[i] List.mem_cons_self
    rw [hr] at this;cases this
  ·rw [decide_eq_false hi,aa,List.drop_eq_nil_of_le (by omega)]
   exact ⟨-1,rfl,⟨fun h=>by omega,fun h=>absurd (fun t ht=>by simp at ht) h⟩⟩
theorem Fh (k:Nat) (d:nx) (ho:∀ t ∈ d.1,SizT k t) (hul:d.2.1.length<k) (hsl:d.2.2.length<k) (hk:5000<k) (hk2:k<1000000):∃ b,z0X.f k d=some b∧(b=true ↔ RightDl k d):=by
 rw [z0X.f_eq,show bM (af d.1) 1000=decide (d.1.length≤1000) from oR 1000 d.1]
 by_cases hm:d.1.length≤1000
 case neg=>rw [decide_eq_false hm];exact ⟨false,rfl,⟨fun h=>(by cases h),fun h=>absurd h.many hm⟩⟩
 rw [decide_eq_true hm,ac]
 obtain ⟨b1,g1,i1⟩:=nB k d.1 (by omega) (by omega) hk2
 obtain ⟨b2,g2,i2⟩:=iK k d.2.1 (by omega) hul hk2
 obtain ⟨r,g3,i3⟩:=zT k d.1 ho (by omega) (by omega) hk2 k 0 (by omega) (by omega)
 obtain ⟨q,g4,i4⟩:=CY k d.2.2 (by omega) k 0 (by omega) (by omega)
 rw [show ((0:Nat):Int)=0 from rfl] at g3 g4
 rw [List.drop_zero] at i3 i4
 have bt:ai true=false:=rfl
 have bf:ai false=true:=rfl
 rw [g1,ae]
 cases b1 with
 | false=>rw [aa];exact ⟨false,rfl,⟨fun h=>(by cases h),fun h=>i1.2 h.ris⟩⟩
 | true =>
 rw [ac,z03.f_eq,z08.f_eq,g3,ae,ae,show bM 0 r=decide (0≤r) from rfl]
 by_cases hr:0≤r
 ·rw [decide_eq_true hr,bt,aa];exact ⟨false,rfl,⟨fun h=>(by cases h),fun h=>absurd h.chk (i3.1 hr)⟩⟩
 have hc:∀ t ∈ d.1,z17.f k t=some 0:=Classical.byContradiction fun h=>hr (i3.2 h)
 rw [decide_eq_false hr,bf,ac,g2,ae]
 cases b2 with
 | false=>rw [aa];exact ⟨false,rfl,⟨fun h=>(by cases h),fun h=>i2.2 h.un⟩⟩
 | true =>
 rw [ac,z04.f_eq,z07.f_eq,g4,ae,ae,show bM 0 q=decide (0≤q) from rfl]
 by_cases hq:0≤q
 ·rw [decide_eq_true hq,bt];exact ⟨false,rfl,⟨fun h=>(by cases h),fun h=>absurd h.se (i4.1 hq)⟩⟩
 ·have hd:∀ x ∈ d.2.2,aK x=true:=Classical.byContradiction fun h=>hq (i4.2 h)
  rw [decide_eq_false hq,bf]
  exact ⟨true,rfl,⟨fun _=>⟨hm,i1.1 rfl,i2.1 rfl,hc,hd⟩,fun _=>rfl⟩⟩
theorem kz (k:Nat) (x:jQ) {n:Nat} (sz:SizR k n x) (hn:n<k) (hk:5000<k) (hk2:k<1000000):∃ b,z0U.f k x=some b∧z1k.f k x=some b:=by
 have d1:=sz.d.un;have d2:=sz.d.se;have s1:=sz.s.un;have s2:=sz.s.kn
 obtain ⟨e,t1,t2⟩:=jR k x.2.1 sz.t.each sz.t.ops (by omega) hk2
 obtain ⟨b1,u1,w1⟩:=iK k (x.2.2.2.1::[]) (by omega) (by simp;omega) hk2
 obtain ⟨b2,u2,w2⟩:=ir k (x.2.2.2.1::[]) (by simp;omega) hk2
 have hbb:b1=b2:=by rw [Bool.eq_iff_iff,w1,w2]
 subst hbb
 obtain ⟨b3,q1,i1⟩:=Fh k x.2.2.2.2.2.1 sz.dt (by omega) (by omega) hk hk2
 obtain ⟨b4,q2,i2⟩:=jA k x.2.2.2.2.2.1 (fun t ht=>(sz.dt t ht).chk (by omega) hk2) (by omega) (by omega) hk hk2
 have hcc:b3=b4:=by rw [Bool.eq_iff_iff,i1,i2]
 subst hcc
 obtain ⟨b5,y1,j1⟩:=uG k x.2.2.2.2.2.2 sz.v1 sz.v2 sz.s8 (fun t ht=>⟨(sz.st t ht).ops,(sz.st t ht).each⟩) (fun l hl=>by have:=sz.s.re l hl;omega) (by omega) (by omega) hk hk2
 obtain ⟨b6,y2,j2⟩:=gQ k x.2.2.2.2.2.2 sz.v1 sz.v2 sz.s8 (fun t ht=>(sz.st t ht).chk (by omega) hk2) (fun l hl=>by have:=sz.s.re l hl;omega) (by omega) hk hk2
 have hdd:b5=b6:=by rw [Bool.eq_iff_iff,j1,j2]
 subst hdd
 rw [z0U.f_eq,z1k.f_eq,t1,t2,u1,u2,q1,q2,y1,y2,z1j.f_eq]
 simp only [ae]
 rw [show bM x.2.2.1 7=aq x.2.2.1 8 from decide_eq_decide.2 ⟨fun h=>by omega,fun h=>by omega⟩]
 cases az x.1 1 with
 | true=>exact ⟨_,rfl,rfl⟩
 | false =>
 simp only [aa]
 cases az x.1 2 with
 | true =>
  simp only [ac]
  cases bM 0 x.2.2.1 with
  | false=>exact ⟨false,rfl,rfl⟩
  | true =>
   simp only [ac,ae]
   cases aq x.2.2.1 8 with
   | false=>exact ⟨false,rfl,rfl⟩
   | true =>
    simp only [ac]
    cases b1 with
    | false=>exact ⟨false,rfl,rfl⟩
    | true =>
     simp only [ac]
     cases bM 0 x.2.2.2.2.1 <;> exact ⟨_,rfl,rfl⟩
 | false =>
 simp only [aa]
 cases az x.1 3 with
 | true=>exact ⟨_,rfl,rfl⟩
 | false =>
 simp only [aa]
 cases az x.1 4 <;> exact ⟨_,rfl,rfl⟩
end Go.Proofs.YtfhcammihohmjaaGreatDoor
end
noncomputable section
/- Records that may be are parsed as they were told. -/
namespace Go.Proofs.YtfhcammihohmjaaGreatDoor
open Pal
theorem Eg (k:Nat):z0F.f k ([],0)=some (0,([],0)):=by
 have bt:ai true=false:=rfl
 rw [z0F.f_eq,z0t.f_eq,fl]
 simp only [ae,decide_true,bt,aa]
 have e:aq 0 (af ([]:List UInt8))=false:=rfl
 rw [e]
 simp only [aa,cp,ae]
theorem ua (k:Nat) {t:cG} (st:SizT k t) (hk:10<k) (hk2:k<1000000) (c:z17.f k t=some 0):OkT k t:=by
 obtain ⟨e,g1,g2⟩:=jR k t st.each st.ops hk hk2
 exact yC k t st hk hk2 (g1.trans (g2.symm.trans c))
structure ShortR (x:jQ):Prop where
 t:ShortT x.2.1
 d:ShortD x.2.2.2.2.2.1
 s:ShortS x.2.2.2.2.2.2
theorem qS (k:Nat) (x:jQ) (h8:x.2.2.2.2.2.2.2.2.2.2.length=8) (hk:1000<k) (hk2:k<1000000):∃ b,z1n.f k x=some b∧(b=true→ShortR x):=by
 obtain ⟨b1,g1,i1⟩:=jE k x.2.1 hk hk2
 obtain ⟨b2,g2,i2⟩:=v7 k x.2.2.2.2.2.1 hk hk2
 obtain ⟨b3,g3,i3⟩:=qg k x.2.2.2.2.2.2 h8 hk hk2
 rw [z1n.f_eq,g1,g2,g3]
 simp only [ae]
 cases b1 with
 | false=>exact ⟨false,rfl,fun h=>by cases h⟩
 | true =>
  cases b2 with
  | false=>exact ⟨false,rfl,fun h=>by cases h⟩
  | true=>exact ⟨b3,rfl,fun h=>⟨i1 rfl,i2 rfl,i3 h⟩⟩
theorem ShortR.siz {k:Nat} {x:jQ} (h:ShortR x) (hk:1000<k) (h8:x.2.2.2.2.2.2.2.2.2.2.length=8) (h1:x.2.2.2.2.2.2.2.2.1.1.length=16) (h2:x.2.2.2.2.2.2.2.2.2.1.1.length=16):SizR k 100 x :=
 ⟨h.t.siz hk,h.d.len,fun t ht=>(h.d.each t ht).siz hk,h.s.len,fun t ht=>(h.s.each t ht).siz hk,h8,h1,h2⟩
theorem g8 (k:Nat) {x:jQ} {n:Nat} (sz:SizR k n x) (hn:n<k) (hk:5000<k) (hk2:k<1000000) (h:z1k.f k x=some true) :
  (x.1=1∧z17.f k x.2.1=some 0)∨(x.1=2∧(0≤x.2.2.1∧x.2.2.1<8)∧CanU (x.2.2.2.1::[])∧(0≤x.2.2.2.2.1∧x.2.2.2.2.1≤2))∨(x.1=3∧RightDl k x.2.2.2.2.2.1)∨(x.1=4∧RightS k x.2.2.2.2.2.2):=by
 have d1:=sz.d.un;have d2:=sz.d.se;have s1:=sz.s.un;have s2:=sz.s.kn
 obtain ⟨e,t1,t2⟩:=jR k x.2.1 sz.t.each sz.t.ops (by omega) hk2
 obtain ⟨b2,u2,w2⟩:=ir k (x.2.2.2.1::[]) (by simp;omega) hk2
 obtain ⟨b4,q2,i2⟩:=jA k x.2.2.2.2.2.1 (fun t ht=>(sz.dt t ht).chk (by omega) hk2) (by omega) (by omega) hk hk2
 obtain ⟨b6,y2,j2⟩:=gQ k x.2.2.2.2.2.2 sz.v1 sz.v2 sz.s8 (fun t ht=>(sz.st t ht).chk (by omega) hk2) (fun l hl=>by have:=sz.s.re l hl;omega) (by omega) hk hk2
 rw [z1k.f_eq,t2,u2,q2,y2] at h
 simp only [ae] at h
 rw [aW,aW,aW,aW,aW] at h
 by_cases h1:x.1=1
 ·rw [decide_eq_true h1,ac] at h
  injection h with h
  exact .inl ⟨h1,by rw [t2,of_decide_eq_true h]⟩
 rw [decide_eq_false h1,aa] at h
 by_cases h2:x.1=2
 ·rw [decide_eq_true h2,ac,show bM 0 x.2.2.1=decide (0≤x.2.2.1) from rfl,show bM x.2.2.1 7=decide (x.2.2.1≤7) from rfl,show bM 0 x.2.2.2.2.1=decide (0≤x.2.2.2.2.1) from rfl,show bM x.2.2.2.2.1 2=decide (x.2.2.2.2.1≤2) from rfl] at h
  by_cases c1:0≤x.2.2.1
  case neg=>rw [decide_eq_false c1,aa] at h;cases h
  rw [decide_eq_true c1,ac] at h
  by_cases c2:x.2.2.1≤7
  case neg=>rw [decide_eq_false c2,aa] at h;cases h
  rw [decide_eq_true c2,ac] at h
  cases b2 with
  | false=>rw [aa] at h;cases h
  | true =>
  rw [ac] at h
  by_cases c3:0≤x.2.2.2.2.1
  case neg=>rw [decide_eq_false c3,aa] at h;cases h
  rw [decide_eq_true c3,ac] at h
  injection h with h
  exact .inr (.inl ⟨h2,⟨c1,Int.lt_of_le_of_lt c2 (by decide)⟩,w2.1 rfl,c3,of_decide_eq_true h⟩)
 rw [decide_eq_false h2,aa] at h
 by_cases h3:x.1=3
 ·rw [decide_eq_true h3,ac] at h
  injection h with h
  exact .inr (.inr (.inl ⟨h3,i2.1 h⟩))
 rw [decide_eq_false h3,aa] at h
 by_cases h4:x.1=4
 ·rw [decide_eq_true h4,ac] at h
  injection h with h
  exact .inr (.inr (.inr ⟨h4,j2.1 h⟩))
 rw [decide_eq_false h4,aa] at h
 cases h
def xV (x:jQ):List UInt8:=al x.2.2.1.toNat++(cj x.2.2.2.1.1++(al x.2.2.2.1.2.toNat++al x.2.2.2.2.1.toNat))
def wW (x:jQ):List UInt8:=if x.1=1 then bZ x.2.1 else if x.1=2 then xV x else if x.1=3 then ft x.2.2.2.2.2.1 else fA x.2.2.2.2.2.2
def fT (x:jQ):List UInt8:=al x.1.toNat++wW x
def lI (x:jQ):jQ :=
 if x.1=1 then (x.1,(x.2.1,(0,(vC,(0,(lG,bE)))))) else if x.1=2 then (x.1,(rj,(x.2.2.1,(x.2.2.2.1,(x.2.2.2.2.1,(lG,bE)))))) else if x.1=3 then (x.1,(rj,(0,(vC,(0,(x.2.2.2.2.2.1,bE)))))) else (x.1,(rj,(0,(vC,(0,(lG,x.2.2.2.2.2.2))))))
section
variable (k:Nat) (hk:5000<k) (hk2:k<1000000)
include hk hk2
theorem FT (t:cG) (u:Int) (U:bq) (b:Int) (d:nx) (s:de) (ho:OkT k t) (hs:ShortT t):z16.f k (1,(t,(u,(U,(b,(d,s))))))=some (al 1++bZ t)∧(bZ t).length≤2700000:=by
 have h0:bK 1=some (al 1):=pI 1 (by decide)
 have hl:=lu ho hs
 have hp:=aZ (n:=1) (by omega)
 rw [z16.f_eq]
 simp only [h0,ae,show az (1:Int) 1=true from rfl,ac,sy k ho hs hk hk2]
 rw [bk (by omega) (by omega)]
 exact ⟨rfl,by omega⟩
theorem Gq (t:cG) (u:Int) (U:bq) (b:Int) (d:nx) (s:de) (hu:0≤u∧u<8) (hU:cL U=true) (hb:0≤b∧b≤2):z16.f k (2,(t,(u,(U,(b,(d,s))))))=some (al 2++(al u.toNat++(cj U.1++(al U.2.toNat++al b.toNat)))):=by
 have h0:bK 2=some (al 2):=pI 2 (by decide)
 obtain ⟨h1,h2,h3⟩:=(cD U).1 hU
 have p0:=aZ (n:=2) (by omega)
 have p1:=aZ (n:=u.toNat) (by omega)
 have p2:=eZ h1
 have p3:=aZ (n:=U.2.toNat) (by omega)
 have p4:=aZ (n:=b.toNat) (by omega)
 rw [z16.f_eq]
 simp only [h0,ae,show az (2:Int) 1=false from rfl,show az (2:Int) 2=true from rfl,ac,aa,cr (n:=u) (by omega),kg k h1,cr (n:=U.2) (by omega),cr (n:=b) (by omega)]
 rw [bk (by omega) (by omega),ac,bk (by unfold app;simp only [List.length_append];omega) (by omega),ac,bk (by unfold app;simp only [List.length_append];omega) (by omega),ac,bk (by unfold app;simp only [List.length_append];omega) (by omega),ac]
 unfold app;simp only [List.append_assoc]
theorem Gl (t:cG) (u:Int) (U:bq) (b:Int) (d:nx) (s:de) (sh:ShortD d) (hr:RightDl k d):z16.f k (3,(t,(u,(U,(b,(d,s))))))=some (al 3++ft d):=by
 have h0:bK 3=some (al 3):=pI 3 (by decide)
 obtain ⟨e,hl⟩:=sB k sh hr hk hk2
 have hp:=aZ (n:=3) (by omega)
 rw [z16.f_eq]
 simp only [h0,ae,show az (3:Int) 1=false from rfl,show az (3:Int) 2=false from rfl,show az (3:Int) 3=true from rfl,ac,aa,e]
 rw [bk (by omega) (by omega)];rfl
theorem Gi (t:cG) (u:Int) (U:bq) (b:Int) (d:nx) (s:de) (sh:ShortS s) (hr:RightS k s) (h8:s.2.2.2.2.length=8):z16.f k (4,(t,(u,(U,(b,(d,s))))))=some (al 4++fA s):=by
 have h0:bK 4=some (al 4):=pI 4 (by decide)
 obtain ⟨e,hl⟩:=si k sh hr h8 hk hk2
 have hp:=aZ (n:=4) (by omega)
 rw [z16.f_eq]
 simp only [h0,ae,show az (4:Int) 1=false from rfl,show az (4:Int) 2=false from rfl,show az (4:Int) 3=false from rfl,ac,aa,e]
 rw [bk (by omega) (by omega)];rfl
end
theorem xf (k:Nat) {x:jQ} (sh:ShortR x) (sz:SizR k 100 x) (hk:5000<k) (hk2:k<1000000) (h:z1k.f k x=some true):z16.f k x=some (fT x):=by
 have inv:=g8 k sz (by omega) hk hk2 h
 have s8:=sz.s8;have sz1:=sz.t
 obtain ⟨sT,sD,sS⟩:=sh
 clear h sz
 obtain ⟨K,t,u,U,b,d,s⟩:=x
 simp only at inv sT sD sS s8 sz1
 unfold fT wW xV
 rcases inv with ⟨rfl,c⟩ | ⟨rfl,c1,c2,c3⟩ | ⟨rfl,c⟩ | ⟨rfl,c⟩
 ·exact (FT k hk hk2 t u U b d s (ua k sz1 (by omega) hk2 c) sT).1
 ·exact Gq k hk hk2 t u U b d s c1 (c2.rt _ (by simp)) c3
 ·exact Gl k hk hk2 t u U b d s sD c
 ·exact Gi k hk hk2 t u U b d s sS c s8
theorem mF (k:Nat) (X:jQ) (hr:z0U.f k X=some true) :
  (bnd (z0F.f k ([],0)) fun r3=>br (ai (az r3.1 0)) (some (H1,r3.1)) (bnd (z0U.f k X) fun r4=>br (ai r4) (some (H1,2)) (some (X,0))))=some (X,0):=by
 have bt:ai true=false:=rfl
 rw [Eg,ae,hr]
 simp only [show az (0:Int) 0=true from rfl,bt,aa,ae]
section
variable (k:Nat) (hk:5000<k) (hk2:k<1000000)
include hk hk2
theorem gE (X:jQ) (sX:SizR k 100 X) (hX:z1k.f k X=some true):z0U.f k X=some true:=by
 obtain ⟨b,g1,g2⟩:=kz k X sX (by omega) hk hk2
 exact g1.trans (g2.symm.trans hX)
theorem tW (n:Nat) (X:List UInt8) (hn:n<100) (hS:(al n++X).length<4000000):z0G.f k (al n++X,0)=some ((n:Int),(X,0)):=bS k n X (by omega) (by omega) hS
theorem Dt (t:cG) (sT:ShortT t) (sz1:SizT k t) (c:z17.f k t=some 0):z12.f k (al 1++bZ t)=some ((1,(t,(0,(vC,(0,(lG,bE)))))),0):=by
 have hk10:10<k:=by omega
 have ok:=ua k sz1 (by omega) hk2 c
 have hl:=lu ok sT
 have hp:=aZ (n:=1) (by omega)
 have hb:z0G.f k (al 1++bZ t,0)=some (1,(bZ t,0)):=tW k hk hk2 1 _ (by decide) (by rw [List.length_append];omega)
 have ht:=vU k [] ok hk hk2 (by rw [List.append_nil];omega)
 rw [List.append_nil] at ht
 have hR:=gE k hk hk2 (1,(t,(0,(vC,(0,(lG,bE)))))) (.none sz1) (by rw [z1k.f_eq];simp only [show az (1:Int) 1=true from rfl,ac];rw [c,ae];rfl)
 rw [z12.f_eq,z2l.f_eq,ae]
 simp only []
 rw [hb,ae,show az (1:Int) 1=true from rfl,ac,ht,ae]
 exact mF k (1,(t,(0,(vC,(0,(lG,bE)))))) hR
theorem DM (u:Int) (U:bq) (b:Int) (c1:0≤u∧u<8) (c2:CanU (U::[])) (c3:0≤b∧b≤2):z12.f k (al 2++(al u.toNat++(cj U.1++(al U.2.toNat++al b.toNat))))=some ((2,(rj,(u,(U,(b,(lG,bE)))))),0):=by
 have hk10:10<k:=by omega
 have hU:=c2.rt _ (List.mem_cons_self)
 obtain ⟨h1,h2,h3⟩:=(cD U).1 hU
 have p0:=aZ (n:=2) (by omega)
 have p1:=aZ (n:=u.toNat) (by omega)
 have p2:=eZ h1
 have p3:=aZ (n:=U.2.toNat) (by omega)
 have p4:=aZ (n:=b.toNat) (by omega)
 have e1:((u.toNat:Nat):Int)=u:=Int.toNat_of_nonneg (by omega)
 have e2:((U.2.toNat:Nat):Int)=U.2:=Int.toNat_of_nonneg (by omega)
 have e3:((b.toNat:Nat):Int)=b:=Int.toNat_of_nonneg (by omega)
 have hb:z0G.f k (al 2++(al u.toNat++(cj U.1++(al U.2.toNat++al b.toNat))),0)=some (2,(al u.toNat++(cj U.1++(al U.2.toNat++al b.toNat)),0)):=tW k hk hk2 2 _ (by decide) (by simp only [List.length_append];omega)
 have hb4:=bS k b.toNat [] (by omega) (by omega) (by rw [List.append_nil];omega)
 rw [List.append_nil] at hb4
 have hR:=gE k hk hk2 (2,(rj,(u,(U,(b,(lG,bE)))))) (.none (uh hk10)) (by
  obtain ⟨b2,u2,w2⟩:=ir k (U::[]) (by simp;omega) hk2
  rw [z1k.f_eq]
  simp only [show az (2:Int) 1=false from rfl,show az (2:Int) 2=true from rfl,ac,aa]
  rw [u2,w2.2 c2,show bM 0 u=true from decide_eq_true (by omega),show bM u 7=true from decide_eq_true (by omega),show bM 0 b=true from decide_eq_true (by omega),show bM b 2=true from decide_eq_true (by omega)];rfl)
 rw [z12.f_eq,z2l.f_eq,ae]
 simp only []
 rw [hb,ae,show az (2:Int) 1=false from rfl,aa,show az (2:Int) 2=true from rfl,ac]
 simp only []
 rw [bS k u.toNat _ (by omega) (by omega) (by simp only [List.length_append];omega),ae]
 simp only []
 rw [kw k U.1 _ h1 (by omega) (by simp only [List.length_append];omega),ae]
 simp only []
 rw [bS k U.2.toNat _ (by omega) (by omega) (by simp only [List.length_append];omega),ae]
 simp only []
 rw [hb4,ae,e1,e2,e3]
 exact mF k (2,(rj,(u,(U,(b,(lG,bE)))))) hR
theorem E9 (d:nx) (sD:ShortD d) (c:RightDl k d) (dl:LenD 100 d) (dt:∀ t ∈ d.1,SizT k t):z12.f k (al 3++ft d)=some ((3,(rj,(0,(vC,(0,(d,bE)))))),0):=by
 have hk10:10<k:=by omega
 obtain ⟨e,hl⟩:=sB k sD c hk hk2
 have hp:=aZ (n:=3) (by omega)
 have hb:z0G.f k (al 3++ft d,0)=some (3,(ft d,0)):=tW k hk hk2 3 _ (by decide) (by rw [List.length_append];omega)
 have ht:=EL k [] sD c hk hk2 (by rw [List.append_nil];omega)
 rw [List.append_nil] at ht
 have sX:SizR k 100 (3,(rj,(0,(vC,(0,(d,bE)))))):=.of (uh hk10) dl dt (m7 _) (fun t ht=>by simp [bE] at ht) (by simp [bE,aV]) rfl rfl
 have hR:=gE k hk hk2 (3,(rj,(0,(vC,(0,(d,bE)))))) sX (by
  have d1:=dl.un;have d2:=dl.se
  obtain ⟨b4,q2,i2⟩:=jA k d (fun t ht=>(dt t ht).chk (by omega) hk2) (by omega) (by omega) hk hk2
  rw [z1k.f_eq]
  simp only [show az (3:Int) 1=false from rfl,show az (3:Int) 2=false from rfl,show az (3:Int) 3=true from rfl,ac,aa]
  rw [q2,i2.2 c];rfl)
 rw [z12.f_eq,z2l.f_eq,ae]
 simp only []
 rw [hb,ae,show az (3:Int) 1=false from rfl,aa,show az (3:Int) 2=false from rfl,aa,show az (3:Int) 3=true from rfl,ac]
 simp only []
 rw [ht,ae]
 exact mF k (3,(rj,(0,(vC,(0,(d,bE)))))) hR
theorem Eo (s:de) (sS:ShortS s) (c:RightS k s) (sl:LenS 100 s) (sst:∀ t ∈ s.1,SizT k t) (s8:s.2.2.2.2.length=8) (v1:s.2.2.1.1.length=16) (v2:s.2.2.2.1.1.length=16):z12.f k (al 4++fA s)=some ((4,(rj,(0,(vC,(0,(lG,s)))))),0):=by
 have hk10:10<k:=by omega
 obtain ⟨e,hl⟩:=si k sS c s8 hk hk2
 have hp:=aZ (n:=4) (by omega)
 have hb:z0G.f k (al 4++fA s,0)=some (4,(fA s,0)):=tW k hk hk2 4 _ (by decide) (by rw [List.length_append];omega)
 have ht:=xS k [] sS c s8 hk hk2 (by rw [List.append_nil];omega)
 rw [List.append_nil] at ht
 have sX:SizR k 100 (4,(rj,(0,(vC,(0,(lG,s)))))):=.of (uh hk10) (zr _) (fun t ht=>by simp [lG] at ht) sl sst s8 v1 v2
 have hR:=gE k hk hk2 (4,(rj,(0,(vC,(0,(lG,s)))))) sX (by
  have s1:=sl.un;have s2:=sl.kn
  obtain ⟨b6,y2,j2⟩:=gQ k s v1 v2 s8 (fun t ht=>(sst t ht).chk (by omega) hk2) (fun l hl=>by have:=sl.re l hl;omega) (by omega) hk hk2
  rw [z1k.f_eq]
  simp only [show az (4:Int) 1=false from rfl,show az (4:Int) 2=false from rfl,show az (4:Int) 3=false from rfl,show az (4:Int) 4=true from rfl,ac,aa]
  rw [y2,j2.2 c];rfl)
 rw [z12.f_eq,z2l.f_eq,ae]
 simp only []
 rw [hb,ae,show az (4:Int) 1=false from rfl,aa,show az (4:Int) 2=false from rfl,aa,show az (4:Int) 3=false from rfl,aa,show az (4:Int) 4=true from rfl,ac]
 simp only []
 rw [ht,ae]
 exact mF k (4,(rj,(0,(vC,(0,(lG,s)))))) hR
end
theorem BE (k:Nat) {x:jQ} (sh:ShortR x) (sz:SizR k 100 x) (hk:5000<k) (hk2:k<1000000) (h:z1k.f k x=some true):z12.f k (fT x)=some (lI x,0):=by
 have inv:=g8 k sz (by omega) hk hk2 h
 have s8:=sz.s8;have sz1:=sz.t;have dt:=sz.dt;have sst:=sz.st;have v1:=sz.v1;have v2:=sz.v2;have dl:=sz.d;have sl:=sz.s
 obtain ⟨sT,sD,sS⟩:=sh
 clear h sz
 obtain ⟨K,t,u,U,b,d,s⟩:=x
 simp only at inv sT sD sS s8 sz1 dt sst v1 v2 dl sl
 rcases inv with ⟨rfl,c⟩ | ⟨rfl,c1,c2,c3⟩ | ⟨rfl,c⟩ | ⟨rfl,c⟩
 ·exact Dt k hk hk2 t sT sz1 c
 ·exact DM k hk hk2 u U b c1 c2 c3
 ·exact E9 k hk hk2 d sD c dl dt
 ·exact Eo k hk hk2 s sS c sl sst s8 v1 v2
end Go.Proofs.YtfhcammihohmjaaGreatDoor
end
noncomputable section
/- The document's bytes are the program's. -/
namespace Go.Proofs.YtfhcammihohmjaaGreatDoor
open Pal
section
variable (k:Nat) (hk:5000<k) (hk2:k<1000000) (P:List iG) (V:xX) (A:Int) (S:List bq) (hP:ks P) (hv:V.2.2.length≤200)
include hk hk2 hP
end
end Go.Proofs.YtfhcammihohmjaaGreatDoor
end
noncomputable section
/- A frame's changed byte is found: the plain law. -/
namespace Go.Proofs.YtfhcammihohmjaaGreatDoor
theorem ik (n:Nat):(Crc.sumB n).length=4:=rfl
end Go.Proofs.YtfhcammihohmjaaGreatDoor
end
noncomputable section
/- Frames: what one is, and what is cut of one; a changed byte is found. -/
namespace Go.Proofs.YtfhcammihohmjaaGreatDoor
open Pal
def b9 (s:List UInt8):List UInt8:=df s++Crc.sumB (Crc.sumN (df s))
theorem pi (k:Nat) (s:List UInt8) (hs:s.length≤800000) (hk:900000≤k) (hk2:k<1000000):z2Y.f k s=some (b9 s):=by
 have hx:=ib s (by omega)
 rw [z2Y.f_eq,nS k s (by omega),ae,z1Y.f_eq,D3 k (df s) (by omega) (by omega) hk2,ae,pY (Crc.sum_lt _),ae,bk (by omega) (by rw [ik];omega),ac,ae];rfl
theorem tH (k:Nat) (t:List UInt8):z0t.f k (t,0)=some (af t,(t,0)):=by
 have bt:ai true=false:=rfl
 rw [z0t.f_eq,fl]
 simp only [ae,decide_true,bt,aa]
theorem mJ (a b:List UInt8):seq a b=decide (a=b):=by
 unfold seq
 by_cases h:a=b
 ·subst h;simp
 ·rw [decide_eq_false h];simpa using h
theorem Ey (k:Nat) (T B:List UInt8) (hB:B.length=4) (hT:T.length<k) (hk:900000≤k) (hk2:k<1000000):z32.f k (T++B)=some (if Crc.sumB (Crc.sumN T)=B then (T,true) else ([],false)):=by
 have hl:(T++B).length=T.length+4:=by rw [List.length_append,hB]
 have e1:bw .i64 (af (T++B)) 4=(T.length:Int):=by unfold af;rw [dx (by omega) (by omega) (by omega) (by omega),hl];omega
 have i1:eE 0 (T.length:Int) (af (T++B))=true:=fw (a:=0) (c:=(T++B).length) (by omega) (by omega)
 have i2:eE (T.length:Int) (af (T++B)) (af (T++B))=true:=fw (b:=(T++B).length) (c:=(T++B).length) (by omega) (by omega)
 have p1:ba (T++B) 0 (T.length:Int)=T:=by unfold ba;simp
 have p2:ba (T++B) (T.length:Int) (af (T++B))=B:=by
  unfold ba af;rw [Int.toNat_natCast,Int.toNat_natCast,List.take_length];simp
 rw [z32.f_eq,e1,show aq (T.length:Int) 0=false from decide_eq_false (by omega),aa,i1,ac,p1,D3 k T hT (by omega) hk2,ae,pY (Crc.sum_lt _),ae,i2,ac,p2,mJ]
 by_cases h:Crc.sumB (Crc.sumN T)=B
 ·rw [decide_eq_true h,if_pos h,show ai true=false from rfl,aa,ac]
 ·rw [decide_eq_false h,if_neg h,show ai false=true from rfl,ac]
theorem eH (s:List UInt8):b9 s=al s.length++(s++Crc.sumB (Crc.sumN (al s.length++s))):=by
 unfold b9 df;rw [List.append_assoc]
end Go.Proofs.YtfhcammihohmjaaGreatDoor
end
noncomputable section
/- A cW that is read stands there as it is told. -/
namespace Go.Proofs.YtfhcammihohmjaaGreatDoor
open Pal
theorem G4 (k:Nat) (s:List UInt8) (hS:s.length<4200000):∀ (j i v m:Nat) (R:Int × EC),i+j=8→j+2≤m→v<2 ^ (7 * i)→z0G.l3 k m (v:Int) (i:Int) (s,0)=some R→R.2.2=0 →
  ∃ n t,n<2 ^ (7 * j)∧(0<i→0<n)∧s.drop i=al n++t∧R=(((2 ^ (7 * i) * n+v:Nat):Int),(t,0)):=by
 intro j
 induction j with
 | zero =>
  intro i v m' R hj hm hv h h0
  obtain ⟨m,rfl⟩:∃ m,m'=m+2:=⟨m' - 2,by omega⟩
  have hi:i=8:=by omega
  subst hi
  rw [z0G.l3_eq,fl] at h
  have e1:az ((8:Nat):Int) 8=true:=rfl
  simp only [ae,decide_true,ac,e1,fN,if_true] at h
  rw [kV k m _ _ s 6 (by decide)] at h
  injection h with h
  rw [← h] at h0
  cases h0
 | succ j ih =>
  intro i v m' R hj hm hv h h0
  obtain ⟨m,rfl⟩:∃ m,m'=m+2:=⟨m' - 2,by omega⟩
  have hi8:i<8:=by omega
  have e1:az (i:Int) 8=false:=by rw [aW];exact decide_eq_false (by omega)
  have e7:aq (gB .i64 7 (i:Int)) 0=false:=by
   show decide (IntKind.wrap .i64 (7 * (i:Int))<0)=false
   rw [cU (by omega) (by omega)];exact decide_eq_false (by omega)
  have e12:aH .i64 (i:Int) 1=((i+1:Nat):Int):=aB (by omega)
  have bad:∀ (a b:Int) (e:Int),e ≠ 0→z0G.l3 k (m+1) a b (s,e)=some R→False:=fun a b e he h=>by
   rw [kV k m a b s e he] at h
   injection h with h
   rw [← h] at h0
   exact he h0
  rw [z0G.l3_eq,fl] at h
  simp only [ae,decide_true,ac,e1,aa,e7,e12,fN,if_true] at h
  by_cases hi:i<s.length
  ·have e4:bM (af s) (i:Int)=false:=by unfold bM af;exact decide_eq_false (by omega)
   have e6:bO (i:Int) s=true:=by rw [aQ];exact decide_eq_true hi
   have hdr:s.drop i=s[i]::s.drop (i+1):=List.drop_eq_getElem_cons hi
   obtain ⟨_,hby,_⟩:=yY hdr
   obtain ⟨c,hc⟩:∃ c,c=s[i].toNat:=⟨_,rfl⟩
   have hc256:c<256:=by rw [hc];exact s[i].toNat_lt
   rw [← hc] at hby
   have hb:s[i]=UInt8.ofNat c:=by rw [hc];simp
   have hw:bj .i64 (c:Int)=(c:Int):=cU (by omega) (by omega)
   obtain ⟨g1,g2⟩:=qL (c:=c) hi8 hc256 hv
   have e8:bM 128 (c:Int)=decide (128≤c):=by unfold bM;exact decide_eq_decide.2 ⟨fun h=>by omega,fun h=>by omega⟩
   have e10:az (c:Int) 0=decide (c=0):=by rw [aW];exact decide_eq_decide.2 ⟨fun h=>by omega,fun h=>by omega⟩
   have e11:aq 0 (i:Int)=decide (0<i):=bA 0 i
   simp only [e4,aa,e6,ac,hby,hw,e8,e10,e11,g1] at h
   have e2:2 ^ (7 * (j+1))=2 ^ (7 * j) * 128:=by rw [show 7 * (j+1)=7 * j+7 by omega,Nat.pow_add]
   have e3:2 ^ (7 * (i+1))=2 ^ (7 * i) * 128:=by rw [show 7 * (i+1)=7 * i+7 by omega,Nat.pow_add]
   have hp:0<2 ^ (7 * j):=Nat.pow_pos (by decide)
   by_cases hc2:128≤c
   ·rw [decide_eq_true hc2,ac] at h
    obtain ⟨n,t,q1,q2,q3,q4⟩:=ih (i+1) _ (m+1) R (by omega) (by omega) g2 h h0
    have hn:=q2 (by omega)
    refine ⟨n * 128+c % 128,t,by rw [e2];omega,fun _=>by omega,?_,?_⟩
    ·rw [hdr,q3,kK (n:=n * 128+c % 128) (by omega),show (n * 128+c % 128) % 128+128=c by omega,show (n * 128+c % 128) / 128=n by omega,hb];rfl
    ·have e:2 ^ (7 * (i+1)) * n+(2 ^ (7 * i) * (c % 128)+v)=2 ^ (7 * i) * (n * 128+c % 128)+v:=by
      rw [e3,Nat.mul_add,Nat.mul_assoc,Nat.mul_comm 128 n,Nat.add_assoc]
     rw [q4,e]
   ·rw [decide_eq_false hc2,aa] at h
    have hcm:c % 128=c:=by omega
    have hin:eE ((i+1:Nat):Int) (af s) (af s)=true:=by
     have q1:((i+1:Nat):Int)≤(s.length:Int):=by omega
     show (decide ((0:Int)≤((i+1:Nat):Int)) && decide (((i+1:Nat):Int)≤(s.length:Int)) && decide ((s.length:Int)≤(s.length:Int)))=true
     rw [decide_eq_true q1,decide_eq_true (show (0:Int)≤((i+1:Nat):Int) by omega),decide_eq_true (Int.le_refl _)];rfl
    have hpc:ba s ((i+1:Nat):Int) (af s)=s.drop (i+1):=by
     unfold ba af
     rw [Int.toNat_natCast,Int.toNat_natCast,List.take_length]
    rw [hin,hpc,ac,hcm] at h
    have fin:some ((((2 ^ (7 * i) * c+v:Nat):Int)),(s.drop (i+1),(0:Int)))=some R→(0<i→0<c)→∃ n t,n<2 ^ (7 * (j+1))∧(0<i→0<n)∧s.drop i=al n++t∧R=(((2 ^ (7 * i) * n+v:Nat):Int),(t,0)):=fun hR hpos=>by
     injection hR with hR
     exact ⟨c,s.drop (i+1),by rw [e2];omega,hpos,by rw [jc (by omega),← hb];exact hdr,hR.symm⟩
    by_cases hc0:c=0
    ·rw [decide_eq_true hc0,ac] at h
     by_cases hi0:0<i
     ·rw [decide_eq_true hi0,ac] at h
      exact (bad _ _ 3 (by decide) h).elim
     ·rw [decide_eq_false hi0,aa] at h
      exact fin h (fun h=>absurd h hi0)
    ·rw [decide_eq_false hc0,aa] at h
     exact fin h (fun _=>by omega)
  ·have e4:bM (af s) (i:Int)=true:=by unfold bM af;exact decide_eq_true (by omega)
   rw [e4,ac] at h
   exact (bad _ _ 4 (by decide) h).elim
theorem DH (k:Nat) (s:List UInt8) (hS:s.length<4200000) (hk:12<k) {n:Int} {r:EC} (h:z0G.f k (s,0)=some (n,r)) (h0:r.2=0):∃ (m:Nat) (t:List UInt8),n=(m:Int)∧m<72057594037927936∧s=al m++t∧r=(t,0):=by
 rw [z0G.f_eq] at h
 obtain ⟨m,t,q1,_,q3,q4⟩:=G4 k s hS 8 0 0 k _ rfl (by omega) (by decide) h h0
 injection q4 with q4 q5
 refine ⟨m,t,by rw [q4,show 2 ^ (7 * 0) * m+0=m by omega],q1,by simpa using q3,q5⟩
end Go.Proofs.YtfhcammihohmjaaGreatDoor
end
noncomputable section
/- What is cut of any text: in the program as in the document. -/
namespace Go.Proofs.YtfhcammihohmjaaGreatDoor
open Pal
theorem rR (A C:List UInt8) (n:Int) (h:n=(A.length:Int)):ba (A++C) 0 n=A:=by subst h;unfold ba;simp
theorem rX (A C:List UInt8) (n:Int) (h:n=(A.length:Int)):ba (A++C) n (af (A++C))=C:=by
 subst h;unfold ba af;rw [Int.toNat_natCast,Int.toNat_natCast,List.take_length];simp
theorem sE (A B C:List UInt8) (n m:Int) (h:n=(A.length:Int)) (h2:m=((A.length+B.length:Nat):Int)):ba (A++(B++C)) n m=B:=by
 subst h;subst h2;unfold ba
 rw [Int.toNat_natCast,Int.toNat_natCast,← List.append_assoc,List.take_append_of_le_length (by simp),List.take_of_length_le (by simp)]
 simp
theorem kO {k n m:Nat} {s t:List UInt8} (hk:12<k) (hn:n<72057594037927936) (hm:m<72057594037927936) (hS:(al n++s).length<4000000) (h:al n++s=al m++t):n=m∧s=t:=by
 have h1:=bS k n s hk hn hS
 have h2:=bS k m t hk hm (by rw [← h];exact hS)
 rw [h] at h1
 have h3:=Prod.mk.inj (Option.some.inj (h1.symm.trans h2))
 exact ⟨by have:=h3.1;omega,(Prod.mk.inj h3.2).1⟩
theorem yM (k:Nat) (hk:900000≤k) (hk2:k<1000000) (S:List UInt8) (hS:S.length<4000000) (hb:∀ n t',S=al n++t'→n+4≤t'.length→n≤1048576→n≤800000) :
  (∃ t rest,t.length≤800000∧S=b9 t++rest∧z2x.f k S=some (t,(rest,0))∧z2h.f k S=some (t,(rest,0))) ∨
  ∃ e e':Int,e ≠ 0∧e' ≠ 0∧z2x.f k S=some ([],([],e))∧z2h.f k S=some ([],([],e'))∧∀ t rest,t.length≤800000→S ≠ b9 t++rest:=by
 have bt:ai true=false:=rfl
 have bf:ai false=true:=rfl
 obtain ⟨n,r,x,e1,e2,hr,n0,n1,nb⟩:=Ff k S (S,0) (S,(0,0)) (Dx S) hS (by omega)
 obtain ⟨L,f1,_⟩:=DX k S r x hr hS
 rw [z2x.f_eq,z2l.f_eq,ae]
 simp only []
 rw [e1,ae]
 simp only []
 rw [f1,ae]
 simp only []
 rw [cp,ae]
 simp only []
 rw [z2h.f_eq,e2,ae]
 simp only []
 obtain ⟨s1,b1⟩:=r
 obtain ⟨S1,a1,e3⟩:=x
 obtain ⟨h1,h2,h3,h4,h5⟩:=hr
 simp only at h1 h2 h3 h4 h5
 subst h1;subst h4
 by_cases hb1:b1=0
 case neg =>
  refine .inr ⟨b1,b1,hb1,hb1,?_,?_,fun t rest ht h=>?_⟩
  ·rw [aW,decide_eq_false hb1,bf,ac,cp,ae]
  ·simp only [aW,decide_eq_false hb1,bf,ac]
  ·rw [eH,List.append_assoc] at h
   have h1:=bS k t.length ((t++Crc.sumB (Crc.sumN (al t.length++t)))++rest) (by omega) (by omega) (by rw [← h];exact hS)
   rw [← h] at h1
   exact hb1 (Prod.mk.inj (Prod.mk.inj (Option.some.inj (e1.symm.trans h1))).2).2
 subst hb1
 obtain ⟨m,t',rfl,hm7,hSt,hrt⟩:=DH k S1 (by omega) (by omega) e1 rfl
 have hrt:=(Prod.mk.inj hrt).1
 subst hrt
 have hs:=h5 rfl
 have hlen:S1.length=(al m).length+s1.length:=by rw [hSt,List.length_append]
 have ha:a1=((al m).length:Int):=by
  have h6:=congrArg List.length hs
  rw [List.length_drop] at h6
  omega
 have hL:L=af s1:=by
  exact (Prod.mk.inj (Option.some.inj (f1.symm.trans (tH k s1)))).1
 subst hL
 clear h5 hs h2 h3 e1 e2 nb n0 n1
 have uni:∀ t rest:List UInt8,t.length≤800000→S1=b9 t++rest→m=t.length∧s1=t++(Crc.sumB (Crc.sumN (al t.length++t))++rest):=fun t rest ht h=>by
  rw [eH,List.append_assoc,hSt] at h
  obtain ⟨h1,h2⟩:=kO (k:=k) (n:=m) (m:=t.length) (by omega) (by omega) (by omega) (by rw [← hSt];exact hS) h
  exact ⟨h1,by rw [h2,List.append_assoc]⟩
 simp only [show az (0:Int) 0=true from rfl,bt,aa,tH,ae]
 by_cases c1:1048576<m
 ·have c:aq 1048576 (m:Int)=true:=decide_eq_true (by omega)
  rw [c,ac,ac]
  exact .inr ⟨6,6,by decide,by decide,rfl,rfl,fun t rest ht h=>by have:=(uni t rest ht h).1;omega⟩
 have c:aq 1048576 (m:Int)=false:=decide_eq_false (by omega)
 rw [c,aa,aa,tH,ae]
 simp only []
 have hp:=aZ (n:=m) (by omega)
 have i1:aH .i64 (m:Int) 4=((m+4:Nat):Int):=by rw [gu (by omega) (by omega) (by omega) (by omega)];omega
 have i2:bw .i64 (bw .i64 (af S1) a1) 4=(s1.length:Int) - 4:=by
  unfold af
  rw [ha,dx (a:=(S1.length:Int)) (by omega) (by omega) (by omega) (by omega),dx (by omega) (by omega) (by omega) (by omega)];omega
 rw [i1,i2]
 by_cases c2:s1.length<m+4
 ·have d1:aq (af s1) ((m+4:Nat):Int)=true:=by unfold aq af;exact decide_eq_true (by omega)
  have d2:aq ((s1.length:Int) - 4) (m:Int)=true:=decide_eq_true (by omega)
  rw [d1,ac,d2,ac]
  exact .inr ⟨4,4,by decide,by decide,rfl,rfl,fun t rest ht h=>by
   obtain ⟨h1,h2⟩:=uni t rest ht h
   have h3:=congrArg List.length h2
   rw [List.length_append,List.length_append,ik] at h3
   omega⟩
 have d1:aq (af s1) ((m+4:Nat):Int)=false:=by unfold aq af;exact decide_eq_false (by omega)
 have d2:aq ((s1.length:Int) - 4) (m:Int)=false:=decide_eq_false (by omega)
 rw [d1,aa,d2,aa]
 have hm8:=hb m s1 hSt (by omega) (by omega)
 obtain ⟨t,B,rest,et,ht,hB⟩:∃ t B rest,s1=t++(B++rest)∧t.length=m∧B.length=4 :=
  ⟨s1.take m,(s1.drop m).take 4,(s1.drop m).drop 4,by rw [List.take_append_drop,List.take_append_drop],by rw [List.length_take];omega,by rw [List.length_take,List.length_drop];omega⟩
 obtain ⟨T,hT⟩:∃ T,T=al m++t:=⟨_,rfl⟩
 have hTl:T.length=(al m).length+m:=by rw [hT,List.length_append,ht]
 have q1:S1=T++(B++rest):=by rw [hSt,et,hT,List.append_assoc]
 have q2:S1=(T++B)++rest:=by rw [q1,List.append_assoc]
 have q3:S1=al m++(t++(B++rest)):=by rw [hSt,et]
 have hTB:(T++B).length=(al m).length+m+4:=by rw [List.length_append,hTl,hB]
 have j1:bw .i64 (af S1) (af s1)=((al m).length:Int):=by unfold af;rw [dx (by omega) (by omega) (by omega) (by omega)];omega
 have j2:aH .i64 ((al m).length:Int) (m:Int)=(((al m).length+m:Nat):Int):=by rw [gu (by omega) (by omega) (by omega) (by omega)];omega
 have j3:aH .i64 (((al m).length+m:Nat):Int) 4=(((al m).length+m+4:Nat):Int):=by rw [gu (by omega) (by omega) (by omega) (by omega)];omega
 have n1:eE 0 (((al m).length+m+4:Nat):Int) (af S1)=true:=fw (a:=0) (c:=S1.length) (by omega) (by omega)
 have n2:eE (((al m).length+m+4:Nat):Int) (af S1) (af S1)=true:=fw (b:=S1.length) (c:=S1.length) (by omega) (by omega)
 have n3:eE 0 (((al m).length+m:Nat):Int) (af S1)=true:=fw (a:=0) (c:=S1.length) (by omega) (by omega)
 have n4:eE (((al m).length+m:Nat):Int) (((al m).length+m+4:Nat):Int) (af S1)=true:=fw (c:=S1.length) (by omega) (by omega)
 have n5:eE ((al m).length:Int) (((al m).length+m:Nat):Int) (af S1)=true:=fw (c:=S1.length) (by omega) (by omega)
 have n6:eE ((al m).length:Int) (af T) (af T)=true:=fw (b:=T.length) (c:=T.length) (by omega) (by omega)
 have p1:ba S1 0 (((al m).length+m+4:Nat):Int)=T++B:=by rw [q2];exact rR _ _ _ (by rw [hTB])
 have p2:ba S1 0 (((al m).length+m:Nat):Int)=T:=by rw [q1];exact rR _ _ _ (by rw [hTl])
 have p3:ba S1 (((al m).length+m+4:Nat):Int) (af S1)=rest:=by rw [q2];exact rX _ _ _ (by rw [hTB])
 have p4:ba S1 (((al m).length+m:Nat):Int) (((al m).length+m+4:Nat):Int)=B:=by rw [q1];exact sE _ _ _ _ _ (by rw [hTl]) (by rw [hTl,hB])
 have p5:ba S1 ((al m).length:Int) (((al m).length+m:Nat):Int)=t:=by rw [q3];exact sE _ _ _ _ _ rfl (by rw [ht])
 have p6:ba T ((al m).length:Int) (af T)=t:=by rw [hT];exact rX _ _ _ rfl
 have ho:=Ey k T B hB (by omega) hk hk2
 rw [ha]
 simp only [j1,j2,j3,n1,ac,p1,ho,ae,n3,p2]
 rw [Ep k T (by omega) (by omega) hk2,ae,pY (Crc.sum_lt _),ae,n4,ac,p4,mJ]
 by_cases hsum:Crc.sumB (Crc.sumN T)=B
 ·rw [if_pos hsum,decide_eq_true hsum]
  simp only [bt,aa,n6,ac,n2,p6,p3,n5,p5]
  refine .inl ⟨t,rest,by omega,?_,rfl,rfl⟩
  rw [q3,eH,ht,← hT,hsum];simp only [List.append_assoc]
 ·rw [if_neg hsum,decide_eq_false hsum]
  simp only [bf,ac]
  refine .inr ⟨5,5,by decide,by decide,rfl,rfl,fun t2 rest2 ht2 h=>?_⟩
  obtain ⟨h1,h2⟩:=uni t2 rest2 ht2 h
  rw [et] at h2
  obtain ⟨h3,h4⟩:=List.append_inj h2 (by omega)
  subst h3
  obtain ⟨h5,_⟩:=List.append_inj h4 (by rw [hB,ik])
  rw [hT] at hsum
  rw [← h1] at h5
  exact hsum h5.symm
theorem DP (k:Nat) (hk:900000≤k) (hk2:k<1000000) (s rest:List UInt8) (hs:s.length≤800000) (hl:(b9 s++rest).length<4000000) :
  z2x.f k (b9 s++rest)=some (s,(rest,0))∧z2h.f k (b9 s++rest)=some (s,(rest,0)):=by
 have hS:b9 s++rest=al s.length++((s++Crc.sumB (Crc.sumN (al s.length++s)))++rest):=by rw [eH,List.append_assoc]
 rcases yM k hk hk2 (b9 s++rest) hl (fun n t' h _ h2=>by
  rw [hS] at h
  have:=(kO (k:=k) (n:=s.length) (m:=n) (by omega) (by omega) (by omega) (by rw [← hS];exact hl) h).1
  omega) with ⟨t,rest',ht,h,h1,h2⟩ | ⟨e,e',_,_,_,_,h⟩
 ·have h3:al s.length++((s++Crc.sumB (Crc.sumN (al s.length++s)))++rest)=al t.length++((t++Crc.sumB (Crc.sumN (al t.length++t)))++rest'):=by
   rw [← hS,h,eH t,List.append_assoc]
  obtain ⟨h4,h5⟩:=kO (k:=k) (n:=s.length) (m:=t.length) (by omega) (by omega) (by omega) (by rw [← hS];exact hl) h3
  rw [List.append_assoc,List.append_assoc] at h5
  obtain ⟨h6,h7⟩:=List.append_inj h5 h4
  subst h6
  obtain ⟨_,h8⟩:=List.append_inj h7 rfl
  subst h8
  exact ⟨h1,h2⟩
 ·exact absurd rfl (h s rest hs)
end Go.Proofs.YtfhcammihohmjaaGreatDoor
end
