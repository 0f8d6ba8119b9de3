/- The framework: an abstract run of the code over typed data, and that the machine does as it says. Part 3. -/
import Derived.LoopN
import Derived.Lib.DecodeN
import Derived.Shelf.SlSortCmp.WholeK
import Derived.Shelf.SlSortCmp.NoneTotal
import Derived.OpenShut
import Derived.Carry
import Derived.ChangeAt
import Derived.ProofKit
import Derived.Lib.LazyBuf
import Derived.Shelf.Spec.SlicesInsertGrow
import Derived.Test.YtfhcammihohmjaaGreatDoorFw1
import Derived.Test.YtfhcammihohmjaaGreatDoorFw2
set_option linter.unusedVariables false
set_option linter.unusedSimpArgs false
set_option linter.unusedSectionVars false
noncomputable section
/- What was the call's own is data from here on. -/
namespace Go.Proofs.YtfhcammihohmjaaGreatDoor.Pal
open Go
variable [MonoC]
variable {P:Program} {X Y:Nat→Nat→Prop} {G0 G G':Gh} {w0 w w':World} {s:St} {a:Act} {c:Cx} {Q:Exit→Act→World→Prop}

theorem bC.len {e:Ty} {I:Im} {xs:List e.D} {cc:List Value} (h:bC (aR I e) xs cc):cc.length=xs.length * e.cells:=bC.length (fun x c=>aR.length e x c) xs cc h
theorem RS.frz1 {tmps:Array Value} {t:Nat} {e:Ty} {xs:List e.D} (hR:RS X G0 w0 G s tmps w) (hl:lk s.env t=some (.raw e xs)):∃ G',RS X G0 w0 G' ⟨(t,.own e xs)::rm s.env t,s.mem⟩ tmps w:=by
 obtain ⟨hB,tE,tM,h1,h2,h3,h4⟩:=hR
 obtain ⟨t1,t2,hc,⟨cs,⟨ad,len,cap,e1,e2,e3,e4⟩,hx⟩,hE⟩:=aL.find t s.env tE _ h1 hl trivial
 rcases e4 with ⟨hcap,rfl⟩ | ⟨g,ha,rfl,⟨cells,ty,cc,hg,hs,hA,hcc⟩,hI,hO⟩
 ·exact ⟨G,hB,[]++t2,tM,(aL.cons (v:=.own e xs) trivial).2 ⟨[],t2,rfl,⟨cs,⟨ad,len,cap,e1,e2,e3,.inl ⟨hcap,rfl⟩⟩,hx⟩,hE⟩,h2,fun g=>by have:=hc g;have:=h3 g;simp;omega,fun g hg=>h4 g (by have:=hc g;simp at hg;omega)⟩
 ·have hcl:=hA.len
  let G':Gh:={ G with I:=fun b o=>if b=g then cc[o]? else G.I b o }
  have hg1:bi g t2=0∧bi g tM=0:=by
   have h5:=hc g;have h6:=h3 g
   have:bi g [g]=1:=by simp [bi]
   omega
  have hEv:Ev (fun b _=>b=g) G w G' w:=by
   refine ⟨Evo.refl _ w,fun b o v hv=>?_,fun b o v hv=>?_,fun _ _ _=>rfl⟩
   ·show (if b=g then cc[o]? else G.I b o)=some v
    by_cases hb:b=g
    ·subst hb;rw [hI o] at hv;cases hv
    ·rw [if_neg hb];exact hv
   ·by_cases hb:b=g
    ·exact .inr (.inr hb)
    ·refine .inl ?_
     have:(if b=g then cc[o]? else G.I b o)=some v:=hv
     rwa [if_neg hb] at this
  have hW:Wf G' w:=by
   refine ⟨fun b o v hv=>?_,fun b o v hv=>?_,hB.wf.lt,hB.wf.whole⟩
   ·have hv':(if b=g then cc[o]? else G.I b o)=some v:=hv
    by_cases hb:b=g
    ·subst hb;rw [if_pos rfl] at hv';rw [bF hg];exact hcc o v hv'
    ·rw [if_neg hb] at hv';exact hB.wf.holds b o v hv'
   ·have hv':(if b=g then cc[o]? else G.I b o)=some v:=hv
    by_cases hb:b=g
    ·subst hb;exact hO o
    ·rw [if_neg hb] at hv';exact hB.wf.io b o v hv'
  have hgt:0<bi g tE:=by
   have:=hc g
   have:bi g [g]=1:=by simp [bi]
   omega
  have hB':=hB.step hEv hW (fun _=>rfl) (fun b o hb he=>by
   subst he
   rcases h4 b (by omega) with h | h
   ·omega
   ·exact h o)
  have hE':aL G' w tmps (rm s.env t) t2:=aL.ev hEv _ t2 (fun _ _=>rfl) (fun g' hg' _ he=>by subst he;have:=bb.1 hg';omega) hE
  have hM':aM G' w s.mem tM:=aM.ev hEv _ tM (fun _ _=>rfl) (fun _ _=>rfl) (fun g' hg' _ he=>by subst he;have:=bb.1 hg';omega) (fun k _ b o hk he=>by subst he;rw [hO o] at hk;cases hk) h2
  have hat:ym G'.I g 0 cc:=fun j v hj=>by show (if g=g then cc[0+j]? else _)=_;rw [if_pos rfl,Nat.zero_add];exact hj
  refine ⟨G',hB',[g]++t2,tM,(aL.cons (v:=.own e xs) trivial).2 ⟨[g],t2,rfl,⟨cs,⟨ad,len,cap,e1,e2,e3,.inr ⟨g,ha,rfl,?_,⟨cells,ty,hg,hs⟩,fun o ho=>?_,hO⟩⟩,hx⟩,hE'⟩,hM',fun g'=>by have h5:=hc g';have h6:=h3 g';rw [bN];omega,fun g' hg'=>h4 g' (by have h5:=hc g';rw [bN] at hg';omega)⟩
  ·exact d8.mono (Im.le_refl _) (fun x c h=>aR.mono hEv.le e x c h) (bC.elems (fun x c=>aR.length e x c) xs cc g 0 hA hat)
  ·show (if g=g then cc[o]? else _)=none
   rw [if_pos rfl,List.getElem?_eq_none (by rw [hcl,e2];exact ho)]
theorem RS.frz {tmps:Array Value}:∀ (l:List Nat) (s:St) (G:Gh),RS X G0 w0 G s tmps w→∃ G',RS X G0 w0 G' (s.frz l) tmps w
 | [],s,G,h=>⟨G,h⟩
 | t::l,s,G,h=>by
  show ∃ G',RS X G0 w0 G' { s with env:=Pal.frz s.env (t::l) } tmps w
  unfold Pal.frz
  split
  ·rename_i e xs hl
   obtain ⟨G1,h1⟩:=h.frz1 hl
   exact RS.frz l ⟨_,s.mem⟩ G1 h1
  ·exact RS.frz l s G h
theorem wD {k:Nat} {e:Ty} {xs:List e.D} (hrow:xs=[]∨d8 G.I e.cells (aR G.I e) (G.ρ k).1 (G.ρ k).2 xs):∀ (v:V) (cs:List Value) (ts:List Nat) {α:Type} (K:V→Option α) (r:α),b8 G w v cs ts→V.iceK k e xs v K=some r →
  ∃ v',K v'=some r∧b8 G w v' cs ts∧v'.agg=v.agg∧∀ q,bH G w q v→bH G w q v':=by
 intro v
 induction v with
 | vref k' e' n =>
  intro cs ts α K r hv h
  simp only [V.iceK] at h
  cases hb:Nat.beq k' k with
  | false=>rw [hb] at h;exact ⟨_,h,hv,rfl,fun _ h=>h⟩
  | true =>
   rw [hb] at h
   have hk:=aS.1 hb
   subst hk
   simp only [cond_true] at h
   obtain ⟨hn,h⟩:=cw h
   have hn:n=af xs:=by simpa [az] using hn
   obtain ⟨⟨a,cap,h1,h2,h3⟩,h4⟩:=hv
   refine ⟨_,h,⟨⟨a,n.toNat,cap,h1,by rw [hn];simp [af],h2.1,?_⟩,h4⟩,rfl,fun _ _=>bH.no rfl⟩
   rcases h3 with h3 | h3
   ·exact .inl (List.length_eq_zero_iff.1 (by rw [hn] at h3;simpa [af] using h3))
   ·rcases hrow with hr | hr
    ·exact .inl hr
    ·exact .inr ⟨_,_,h3,hr⟩
 | pr a b iha ihb =>
  intro cs ts α K r hv h
  obtain ⟨c1,c2,t1,t2,e1,e2,h1,h2⟩:=hv
  obtain ⟨a',ha',hva,_,_⟩:=iha c1 t1 _ r h1 h
  obtain ⟨b',hb',hvb,_,_⟩:=ihb c2 t2 _ r h2 ha'
  subst e1;subst e2
  exact ⟨_,hb',dY hva hvb,iD _ _,fun _ _=>bH.no (fu _ _)⟩
 | _ =>
  intro cs ts α K r hv h
  exact ⟨_,h,hv,rfl,fun _ h=>h⟩
theorem pC {tmps:Array Value} {k:Nat} {e:Ty} {xs:List e.D} (hrow:xs=[]∨d8 G.I e.cells (aR G.I e) (G.ρ k).1 (G.ρ k).2 xs):∀ (env:List (Nat × V)) (ts:List Nat) {α:Type} (K:List (Nat × V)→Option α) (r:α),aL G w tmps env ts→CC k e xs env K=some r →
  ∃ env',K env'=some r∧aL G w tmps env' ts
 | [],ts,α,K,r,hE,h=>⟨[],h,hE⟩
 | (t,v)::q,ts,α,K,r,hE,h=>by
  by_cases hn:cF v
  ·obtain ⟨t1,t2,e1,⟨cs,h1,h1'⟩,h2⟩:=(aL.cons hn).1 hE
   obtain ⟨v',hv',hr',ha,_⟩:=wD hrow v cs t1 _ r h1 h
   obtain ⟨env',k1,k2⟩:=pC hrow q t2 _ r h2 hv'
   have hT:aY G w v' (tmps.getD t undef) t1:=⟨cs,hr',by rw [ha];exact h1'⟩
   exact ⟨_,k1,(aL.cons (ct hT)).2 ⟨t1,t2,e1,hT,k2⟩⟩
  ·cases v with
   | lent u =>
    obtain ⟨env',k1,k2⟩:=pC hrow q ts _ r hE.2 h
    exact ⟨_,k1,hE.1,k2⟩
   | _=>exact absurd trivial hn
theorem wk {k:Nat} {e:Ty} {xs:List e.D} (hrow:xs=[]∨d8 G.I e.cells (aR G.I e) (G.ρ k).1 (G.ρ k).2 xs):∀ (m:List (Nat × V)) (ts:List Nat) {α:Type} (K:List (Nat × V)→Option α) (r:α),aM G w m ts→CC k e xs m K=some r →
  ∃ m',K m'=some r∧aM G w m' ts
 | [],ts,α,K,r,hE,h=>⟨[],h,hE⟩
 | (t,v)::q,ts,α,K,r,hM,h=>by
  obtain ⟨t1,t2,cs,e1,h1,h2,h3,h4⟩:=hM
  obtain ⟨v',hv',hr',ha,hm⟩:=wD hrow v cs t1 _ r h1 h
  obtain ⟨m',k1,k2⟩:=wk hrow q t2 _ r h4 hv'
  have hcl:v'.cells=v.cells:=by rw [← b8.length _ _ _ hr',b8.length _ _ _ h1]
  exact ⟨_,k1,t1,t2,cs,e1,hr',h2,⟨by rw [hcl];exact h3.1,hm t h3.2⟩,k2⟩
theorem RS.ice1 {tmps:Array Value} {k:Nat} {e:Ty} {xs:List e.D} (hR:RS X G0 w0 G s tmps w) (hl:lk s.mem k=some (.vec k e xs)) :
  ∃ G',RS X G0 w0 G' ⟨s.env,rm s.mem k⟩ tmps w∧(xs=[]∨d8 G'.I e.cells (aR G'.I e) (G'.ρ k).1 (G'.ρ k).2 xs):=by
 obtain ⟨hB,tE,tM,h1,h2,h3,h4⟩:=hR
 obtain ⟨t1,t2,cs,hc,hv,_,_,hM⟩:=aM.find k s.mem tM _ h2 hl
 by_cases hx:xs=[]
 ·exact ⟨G,⟨hB,tE,t2,h1,hM,fun g=>by have:=hc g;have:=h3 g;omega,fun g hg=>h4 g (by have:=hc g;omega)⟩,.inl hx⟩
 ·obtain ⟨g,len,cap,g1,rfl,_,glen,_,⟨cells,ty,cc,hg,hs,hA,hcc⟩,hI,hO⟩:=tG hv hx
  clear hv
  have hcl:=hA.len
  let G':Gh:={ G with I:=fun b o=>if b=g then cc[o]? else G.I b o }
  have hone:bi g [g]=1:=by simp [bi]
  have hg1:bi g tE=0∧bi g t2=0:=by
   have h5:=hc g;have h6:=h3 g
   omega
  have hEv:Ev (fun b _=>b=g) G w G' w:=by
   refine ⟨Evo.refl _ w,fun b o v hv=>?_,fun b o v hv=>?_,fun _ _ _=>rfl⟩
   ·show (if b=g then cc[o]? else G.I b o)=some v
    by_cases hb:b=g
    ·subst hb;rw [hI o] at hv;cases hv
    ·rw [if_neg hb];exact hv
   ·by_cases hb:b=g
    ·exact .inr (.inr hb)
    ·refine .inl ?_
     have:(if b=g then cc[o]? else G.I b o)=some v:=hv
     rwa [if_neg hb] at this
  have hW:Wf G' w:=by
   refine ⟨fun b o v hv=>?_,fun b o v hv=>?_,hB.wf.lt,hB.wf.whole⟩
   ·have hv':(if b=g then cc[o]? else G.I b o)=some v:=hv
    by_cases hb:b=g
    ·subst hb;rw [if_pos rfl] at hv';rw [bF hg];exact hcc o v hv'
    ·rw [if_neg hb] at hv';exact hB.wf.holds b o v hv'
   ·have hv':(if b=g then cc[o]? else G.I b o)=some v:=hv
    by_cases hb:b=g
    ·subst hb;exact hO o
    ·rw [if_neg hb] at hv';exact hB.wf.io b o v hv'
  have hB':=hB.step hEv hW (fun _=>rfl) (fun b o hb he=>by
   subst he
   rcases h4 b (by have:=hc b;omega) with h | h
   ·omega
   ·exact h o)
  have hE':aL G' w tmps s.env tE:=aL.ev hEv _ tE (fun _ _=>rfl) (fun g' hg' _ he=>by subst he;have:=bb.1 hg';omega) h1
  have hM':aM G' w (rm s.mem k) t2:=aM.ev hEv _ t2 (fun _ _=>rfl) (fun _ _=>rfl) (fun g' hg' _ he=>by subst he;have:=bb.1 hg';omega) (fun k _ b o hk he=>by subst he;rw [hO o] at hk;cases hk) hM
  have hat:ym G'.I g 0 cc:=fun j v hj=>by show (if g=g then cc[0+j]? else _)=_;rw [if_pos rfl,Nat.zero_add];exact hj
  refine ⟨G',⟨hB',tE,t2,hE',hM',fun g'=>by have h5:=hc g';have h6:=h3 g';omega,fun g' hg'=>h4 g' (by have:=hc g';omega)⟩,.inr ?_⟩
  show d8 G'.I e.cells (aR G'.I e) (G.ρ k).1 (G.ρ k).2 xs
  rw [g1]
  exact d8.mono (Im.le_refl _) (fun x c h=>aR.mono hEv.le e x c h) (bC.elems (fun x c=>aR.length e x c) xs cc g 0 hA hat)
theorem nM {tmps:Array Value} {α:Type} {K:St→Option α} {r:α}:∀ (l:List Nat) (s:St) (G:Gh),RS X G0 w0 G s tmps w→ice l s K=some r→∃ G' s',RS X G0 w0 G' s' tmps w∧K s'=some r
 | [],s,G,hR,h=>⟨G,s,hR,h⟩
 | k::l,s,G,hR,h=>by
  unfold ice at h
  split at h
  ·rename_i k' e xs hl
   obtain ⟨hb,h⟩:=ap h
   have hk:=aS.1 hb
   subst hk
   obtain ⟨G1,⟨hB,tE,tM,h1,h2,h3,h4⟩,hrow⟩:=hR.ice1 hl
   obtain ⟨E,k1,k2⟩:=pC hrow s.env tE _ r h1 h
   obtain ⟨M,k3,k4⟩:=wk hrow (rm s.mem k') tM _ r h2 k1
   exact nM l ⟨E,M⟩ G1 ⟨hB,tE,tM,k2,k4,h3,h4⟩ k3
  ·exact nM l s G hR h
theorem kR {I J:Im}:∀ (τ:Ty) (x:τ.D) (cs:List Value),flat τ=true→aR I τ x cs→aR J τ x cs
 | .int _,_,_,_,h=>h
 | .bool,_,_,_,h=>h
 | .str,_,_,_,h=>h
 | .slc e,_,_,hf,_=>by simp [flat] at hf
 | .arr n e,xs,cs,hf,⟨h1,h2⟩=>⟨h1,bC.mono (fun x c=>kR e x c hf) _ _ h2⟩
 | .pair a b,x,cs,hf,⟨c1,c2,h,h1,h2⟩=>by
  simp only [flat,Bool.and_eq_true] at hf
  exact ⟨c1,c2,h,kR a _ _ hf.1 h1,kR b _ _ hf.2 h2⟩
theorem GN {e:Ty} {xs:List e.D} {x:Value} {ts:List Nat} (hf:flat e=true) (hW:Wf G w) (hnew:∀ g,0<bi g ts→w0.heap.size≤g∨∀ o,G0.I g o=none) (hW0:Wf G0 w0) (hE:Ev X G0 w0 G w) (h:aY G w (.own e xs) x ts) :
  ∃ G',Ev X G0 w0 G' w∧Wf G' w∧G'.ρ=G.ρ∧aY G' w (.raw e xs) x ts:=by
 obtain ⟨cs,⟨ad,len,cap,e1,e2,e3,e4⟩,hx⟩:=h
 rcases e4 with ⟨hcap,rfl⟩ | ⟨g,ha,rfl,hel,⟨cells,t,hg,hs⟩,hI,hO⟩
 ·exact ⟨G,hE,hW,rfl,cs,⟨ad,len,cap,e1,e2,e3,.inl ⟨hcap,rfl⟩⟩,hx⟩
 ·have hgn:=hnew g (by simp [bi])
  let G':Gh:={ G with I:=fun b o=>if b=g then none else G.I b o }
  have hI':∀ b o v,G'.I b o=some v→b ≠ g∧G.I b o=some v:=fun b o v hv=>by
   have:(if b=g then none else G.I b o)=some v:=hv
   by_cases hb:b=g
   ·rw [if_pos hb] at this;cases this
   ·rw [if_neg hb] at this;exact ⟨hb,this⟩
  refine ⟨G',⟨hE.evo,fun b o v hv=>?_,fun b o v hv=>hE.grow b o v (hI' b o v hv).2,hE.own⟩,⟨fun b o v hv=>hW.holds b o v (hI' b o v hv).2,fun b o v hv=>hW.io b o v (hI' b o v hv).2,hW.lt,hW.whole⟩,rfl,cs,⟨ad,len,cap,e1,e2,e3,.inr ⟨g,ha,rfl,?_,fun o=>by show (if g=g then none else _)=none;rw [if_pos rfl],hO⟩⟩,hx⟩
  ·have hb:=World.block_lt_of_cell? w0 _ (hW0.holds b o v hv)
   show (if b=g then none else G.I b o)=some v
   have hb':b<w0.heap.size:=hb
   have hne:b ≠ g:=by
    intro e
    subst e
    rcases hgn with h | h
    ·omega
    ·rw [h o] at hv;cases hv
   rw [if_neg hne]
   exact hE.le b o v hv
  ·obtain ⟨cc,hA,hat⟩:=d8.all2 (fun x c=>aR.length e x c) xs g 0 hel
   refine ⟨cells,t,cc,hg,hs,bC.mono (fun x c=>kR e x c hf) _ _ hA,fun j v hj=>?_⟩
   have:=hat j v hj
   rw [Nat.zero_add] at this
   rw [← bF hg];exact hW.holds g j v this
theorem Ev.mono {Y:Nat→Nat→Prop} (h:Ev X G w G' w') (k:∀ b o,X b o→Y b o):Ev Y G w G' w' :=
 ⟨⟨h.evo.os,h.evo.tape,h.evo.output,h.evo.size,fun b hb=>(h.evo.block b hb).mono fun j=>k b j,h.evo.drawn⟩,h.le,fun b o v hv=>(h.grow b o v hv).imp id fun h=>h.imp id (k b o),h.own⟩
end Go.Proofs.YtfhcammihohmjaaGreatDoor.Pal
end
noncomputable section
/- What a pointer in a variable gD to is made a variable, and is that one's again. -/
namespace Go.Proofs.YtfhcammihohmjaaGreatDoor.Pal
open Go
variable [MonoC]
variable {P:Program} {X Y:Nat→Nat→Prop} {G0 G G':Gh} {w0 w w':World} {s:St} {a:Act} {c:Cx}

theorem b8.re (hI:∀ b o,G'.I b o=G.I b o):∀ (v:V) (cs:List Value) (ts:List Nat),(∀ k ∈ v.refs,G'.ρ k=G.ρ k)→(∀ g ∈ ts,∀ o,G'.O g o=none)→b8 G w v cs ts→b8 G' w v cs ts
 | .dat τ x,cs,ts,_,_,⟨h,e⟩=>⟨aR.mono (Im.le_of_eq hI) τ x cs h,e⟩
 | .own e xs,cs,ts,_,hO,⟨ad,len,cap,h1,h2,h3,h4⟩=>by
  refine ⟨ad,len,cap,h1,h2,h3,h4.imp id ?_⟩
  rintro ⟨g,ha,rfl,hel,hob⟩
  exact ⟨g,ha,rfl,hel.mono (Im.le_of_eq hI) (fun x c=>aR.mono (Im.le_of_eq hI) e x c),hob.swap hI (hO g (by simp))⟩
 | .pr a b,cs,ts,hr,hO,⟨c1,c2,t1,t2,h1,h2,h3,h4⟩ =>
  ⟨c1,c2,t1,t2,h1,h2,b8.re hI a c1 t1 (fun k h=>hr k (by simp [V.refs,h])) (fun g h=>hO g (by simp [h2,h])) h3,b8.re hI b c2 t2 (fun k h=>hr k (by simp [V.refs,h])) (fun g h=>hO g (by simp [h2,h])) h4⟩
 | .ref k p,cs,ts,hr,_,⟨h1,h2,h3⟩=>⟨by rw [h1,Gh.addr,Gh.addr,hr k (by simp [V.refs])],h2,h3⟩
 | .nilp,cs,ts,_,_,h=>h
 | .ip τ x,cs,ts,_,_,⟨b,o,c,h1,h2,h3,h4⟩=>⟨b,o,c,h1,aR.mono (Im.le_of_eq hI) τ x c h2,h3.mono (Im.le_of_eq hI),h4⟩
 | .fn f caps,cs,ts,hr,_,⟨vs,h1,h2,h3⟩=>⟨vs,h1,dB.ev caps _ (fun k h=>hr k (by simpa [V.refs] using h)) h2,h3⟩
 | .bnd f caps,cs,ts,hr,_,⟨vs,h1,h2,h3⟩=>⟨vs,h1,dB.ev caps _ (fun k h=>hr k (by simpa [V.refs] using h)) h2,h3⟩
 | .tup2 a b,cs,ts,hr,hO,⟨va,vb,ca,cb,t1,t2,h1,h2,h3,h4,h5,h6⟩ =>
  ⟨va,vb,ca,cb,t1,t2,h1,h2,b8.re hI a ca t1 (fun k h=>hr k (by simp [V.refs,h])) (fun g h=>hO g (by simp [h2,h])) h3,h4,b8.re hI b cb t2 (fun k h=>hr k (by simp [V.refs,h])) (fun g h=>hO g (by simp [h2,h])) h5,h6⟩
 | .tup3 a b d,cs,ts,hr,hO,⟨va,vb,vd,ca,cb,cd,t1,t2,t3,h1,h2,h3,h4,h5,h6,h7,h8⟩ =>
  ⟨va,vb,vd,ca,cb,cd,t1,t2,t3,h1,h2,b8.re hI a ca t1 (fun k h=>hr k (by simp [V.refs,h])) (fun g h=>hO g (by simp [h2,h])) h3,h4,b8.re hI b cb t2 (fun k h=>hr k (by simp [V.refs,h])) (fun g h=>hO g (by simp [h2,h])) h5,h6,
   b8.re hI d cd t3 (fun k h=>hr k (by simp [V.refs,h])) (fun g h=>hO g (by simp [h2,h])) h7,h8⟩
 | .lent _,_,_,_,_,h=>h
 | .unit,cs,ts,_,_,h=>h
 | .raw e xs,cs,ts,_,hO,⟨ad,len,cap,h1,h2,h3,h4⟩=>by
  refine ⟨ad,len,cap,h1,h2,h3,h4.imp id ?_⟩
  rintro ⟨g,ha,rfl,⟨cells,t,cc,hg,hs,hA,hc⟩,hI',hO'⟩
  exact ⟨g,ha,rfl,⟨cells,t,cc,hg,hs,bC.mono (fun x c=>aR.mono (Im.le_of_eq hI) e x c) _ _ hA,hc⟩,fun o=>(hI g o).trans (hI' o),hO g (by simp)⟩
 | .any,cs,ts,_,_,h=>h
 | .view k p n e l h,cs,ts,hr,_,⟨h1,h2,h3⟩=>⟨by rw [h1,Gh.addr,Gh.addr,Gh.addr,Gh.addr,hr k (by simp [V.refs])],h2,h3⟩
 | .mref k,cs,ts,hr,_,⟨h1,h2⟩=>⟨by rw [h1,hr k (by simp [V.refs])],h2⟩
 | .vref k e n,cs,ts,hr,_,⟨h1,h2⟩=>⟨by rw [hr k (by simp [V.refs])];exact h1,h2⟩
 | .vec k e xs,cs,ts,hr,hO,⟨h1,ad,len,cap,⟨ad',len',cap',k1,k2,k3,k4⟩,h3⟩=>by
  refine ⟨h1,ad,len,cap,⟨ad',len',cap',k1,k2,k3,k4.imp id ?_⟩,by rw [hr k (by simp [V.refs])];exact h3⟩
  rintro ⟨g,ha,rfl,⟨cells,t,cc,hg,hs,hA,hc⟩,hI',hO'⟩
  exact ⟨g,ha,rfl,⟨cells,t,cc,hg,hs,bC.mono (fun x c=>aR.mono (Im.le_of_eq hI) e x c) _ _ hA,hc⟩,fun o=>(hI g o).trans (hI' o),hO g (by simp)⟩
 | .gone,cs,ts,_,_,h=>h
 | .box τ o,cs,ts,_,hO,h=>cI.swap hI (.box τ) o cs ts hO h
theorem aL.re (hI:∀ b o,G'.I b o=G.I b o) {tmps:Array Value}:∀ (env:List (Nat × V)) (ts:List Nat),(∀ k ∈ bh env,G'.ρ k=G.ρ k)→(∀ g ∈ ts,∀ o,G'.O g o=none)→aL G w tmps env ts→aL G' w tmps env ts
 | [],_,_,_,h=>h
 | (t,v)::r,ts,hk,hO,h=>by
  have hk1:∀ k ∈ v.refs,G'.ρ k=G.ρ k:=fun k h=>hk k (by simp [bh,h])
  have hk2:∀ k ∈ bh r,G'.ρ k=G.ρ k:=fun k h=>hk k (by simp [bh,h])
  have key:∀ t1 t2,ts=t1++t2→aY G w v (tmps.getD t undef) t1→aL G w tmps r t2→∃ t1 t2,ts=t1++t2∧aY G' w v (tmps.getD t undef) t1∧aL G' w tmps r t2:=by
   rintro t1 t2 rfl ⟨cs,h1,h1'⟩ h2
   exact ⟨t1,t2,rfl,⟨cs,h1.re hI v cs t1 hk1 (fun g h=>hO g (by simp [h])),h1'⟩,aL.re hI r t2 hk2 (fun g h=>hO g (by simp [h])) h2⟩
  cases v with
  | lent u=>exact ⟨h.1,aL.re hI r ts hk2 hO h.2⟩
  | _=>obtain ⟨t1,t2,e,h1,h2⟩:=h;exact key t1 t2 e h1 h2
theorem bH.re (hI:∀ b o,G'.I b o=G.I b o) {k:Nat} {v:V} (hρ:G'.ρ k=G.ρ k) (hO:∀ b o,G.O b o=some k→G'.O b o=some k) (h:bH G w k v):bH G' w k v :=
 bH.swap hI hρ (fun ho=>hO _ _ ho) h
theorem ky.re (hI:∀ b o,G'.I b o=G.I b o) {k:Nat} {v:V} (hρ:G'.ρ k=G.ρ k) (hO:∀ b o,G.O b o=some k→G'.O b o=some k) (h:ky G w k v):ky G' w k v :=
 ⟨fun j hj=>by rw [hρ];exact ⟨hO _ _ (h.1 j hj).1,(h.1 j hj).2⟩,h.2.re hI hρ hO⟩
theorem aM.re (hI:∀ b o,G'.I b o=G.I b o):∀ (m:List (Nat × V)) (ts:List Nat),(∀ k ∈ bh m,G'.ρ k=G.ρ k)→(∀ k ∈ cR m,G'.ρ k=G.ρ k)→(∀ g ∈ ts,∀ o,G'.O g o=none)→(∀ k ∈ cR m,∀ b o,G.O b o=some k→G'.O b o=some k) →
  aM G w m ts→aM G' w m ts
 | [],_,_,_,_,_,h=>h
 | (k,v)::r,ts,hr,hk,hY,hO,⟨t1,t2,cs,e,h1,h2,h3,h4⟩=>by
  subst e
  have hρ:G'.ρ k=G.ρ k:=hk k (by simp [cR])
  exact ⟨t1,t2,cs,rfl,h1.re hI v cs t1 (fun x hx=>hr x (by simp [bh,hx])) (fun g hg=>hY g (by simp [hg])),by rw [hρ];exact h2,h3.re hI hρ (hO k (by simp [cR])),
   aM.re hI r t2 (fun x hx=>hr x (by simp [bh,hx])) (fun x hx=>hk x (by simp [cR] at hx ⊢;exact .inr hx)) (fun g hg=>hY g (by simp [hg])) (fun x hx=>hO x (by simp [cR] at hx ⊢;exact .inr hx)) h4⟩

theorem cI.flat:∀ (τ:Ty) (x:τ.D) (cs:List Value) (ts:List Nat),eR τ=false→cI G w τ x cs ts→aR G.I τ x cs∧ts=[]
 | .box τ,_,_,_,h,_=>by cases h
 | .pair a b,x,cs,ts,hb,⟨c1,c2,t1,t2,h,ht,h1,h2⟩=>by
  simp only [eR,Bool.or_eq_false_iff] at hb
  obtain ⟨k1,rfl⟩:=cI.flat a _ _ _ hb.1 h1
  obtain ⟨k2,rfl⟩:=cI.flat b _ _ _ hb.2 h2
  exact ⟨⟨c1,c2,h,k1,k2⟩,ht⟩
 | .int k,x,cs,ts,_,h=>h
 | .bool,x,cs,ts,_,h=>h
 | .str,x,cs,ts,_,h=>h
 | .slc e,x,cs,ts,_,h=>h
 | .arr n e,x,cs,ts,_,h=>h
 | .map a b,x,cs,ts,_,h=>h
theorem cI.of:∀ (τ:Ty) (x:τ.D) (cs:List Value),aR G.I τ x cs→cI G w τ x cs []
 | .box τ,x,cs,⟨h1,h2⟩=>by cases h1;exact ⟨h2,rfl⟩
 | .pair a b,x,cs,⟨c1,c2,h,h1,h2⟩=>⟨c1,c2,[],[],h,rfl,cI.of a _ _ h1,cI.of b _ _ h2⟩
 | .int k,x,cs,h=>⟨h,rfl⟩
 | .bool,x,cs,h=>⟨h,rfl⟩
 | .str,x,cs,h=>⟨h,rfl⟩
 | .slc e,x,cs,h=>⟨h,rfl⟩
 | .arr n e,x,cs,h=>⟨h,rfl⟩
 | .map a b,x,cs,h=>⟨h,rfl⟩
theorem oV:∀ (τ:Ty) (x:τ.D) (cs:List Value) (ts:List Nat),cI G w τ x cs ts→b8 G w (gd τ x) cs ts
 | .box τ,x,cs,ts,h=>h
 | .pair a b,x,cs,ts,h=>by
  cases hb:eR a || eR b with
  | true =>
   obtain ⟨c1,c2,t1,t2,e1,e2,h1,h2⟩:=h
   show b8 G w (bif eR a || eR b then .pr (gd a x.1) (gd b x.2) else .dat (.pair a b) x) cs ts
   rw [hb]
   exact ⟨c1,c2,t1,t2,e1,e2,oV a _ _ _ h1,oV b _ _ _ h2⟩
  | false =>
   show b8 G w (bif eR a || eR b then .pr (gd a x.1) (gd b x.2) else .dat (.pair a b) x) cs ts
   rw [hb]
   exact cI.flat (.pair a b) x cs ts hb h
 | .int k,x,cs,ts,h=>h
 | .bool,x,cs,ts,h=>h
 | .str,x,cs,ts,h=>h
 | .slc e,x,cs,ts,h=>h
 | .arr n e,x,cs,ts,h=>h
 | .map a b,x,cs,ts,h=>h
theorem fC:∀ (τ:Ty) (x:τ.D),(gd τ x).cells=τ.cells∧(gd τ x).agg=τ.agg
 | .pair a b,x=>by
  show (bif eR a || eR b then V.pr (gd a x.1) (gd b x.2) else .dat (.pair a b) x).cells=_∧(bif eR a || eR b then V.pr (gd a x.1) (gd b x.2) else .dat (.pair a b) x).agg=_
  cases eR a || eR b
  ·exact ⟨rfl,rfl⟩
  ·refine ⟨?_,rfl⟩
   show (gd a x.1).cells+(gd b x.2).cells=a.cells+b.cells
   rw [(fC a x.1).1,(fC b x.2).1]
 | .box τ,x=>⟨rfl,rfl⟩
 | .int k,x=>⟨rfl,rfl⟩
 | .bool,x=>⟨rfl,rfl⟩
 | .str,x=>⟨rfl,rfl⟩
 | .slc e,x=>⟨rfl,rfl⟩
 | .arr n e,x=>⟨rfl,rfl⟩
 | .map a b,x=>⟨rfl,rfl⟩
theorem Dr {τ:Ty} {x:τ.D} (h:0<τ.cells):d7 (gd τ x)=false:=by
 cases τ with
 | pair a b =>
  show d7 (bif eR a || eR b then V.pr (gd a x.1) (gd b x.2) else .dat (.pair a b) x)=false
  cases eR a || eR b <;> rfl
 | map a b=>simp [Ty.cells] at h
 | _=>rfl
theorem j9:∀ (τ:Ty) (x:τ.D),(gd τ x).refs=[]
 | .pair a b,x=>by
  show (bif eR a || eR b then V.pr (gd a x.1) (gd b x.2) else .dat (.pair a b) x).refs=_
  cases eR a || eR b
  ·rfl
  ·show (gd a x.1).refs++(gd b x.2).refs=[]
   rw [j9 a x.1,j9 b x.2];rfl
 | .box τ,x=>rfl
 | .int k,x=>rfl
 | .bool,x=>rfl
 | .str,x=>rfl
 | .slc e,x=>rfl
 | .arr n e,x=>rfl
 | .map a b,x=>rfl
theorem Ee (τ:Ty):∀ (v:V) (x:τ.D) (cs:List Value) (ts:List Nat),V.asB τ v=some x→b8 G w v cs ts→∃ ts',(∀ g,bi g ts'≤bi g ts)∧cI G w τ x cs ts':=by
 intro v
 induction v generalizing τ with
 | dat τ' y =>
  intro x cs ts h hv
  simp only [V.asB] at h
  split at h
  ·rename_i e;subst e;injection h with h;subst h;exact ⟨[],fun g=>by simp,cI.of _ _ _ hv.1⟩
  ·cases h
 | own e ys =>
  intro x cs ts h hv
  simp only [V.asB] at h
  split at h
  ·rename_i e;subst e;injection h with h;subst h;exact ⟨[],fun g=>by simp,il.dat hv,rfl⟩
  ·cases h
 | pr a b iha ihb =>
  intro x cs ts h hv
  cases τ with
  | pair ta tb =>
   simp only [V.asB,Option.bind_eq_some_iff] at h
   obtain ⟨x1,h1,x2,h2,e⟩:=h
   injection e with e;subst e
   obtain ⟨c1,c2,t1,t2,e1,e2,g1,g2⟩:=hv
   obtain ⟨u1,k1,k2⟩:=iha ta x1 c1 t1 h1 g1
   obtain ⟨u2,k3,k4⟩:=ihb tb x2 c2 t2 h2 g2
   exact ⟨u1++u2,fun g=>by have:=k1 g;have:=k3 g;subst e2;simp;omega,c1,c2,u1,u2,e1,rfl,k2,k4⟩
  | _=>simp [V.asB] at h
 | box e o =>
  intro x cs ts h hv
  simp only [V.asB] at h
  split at h
  ·rename_i e;subst e;injection h with h;subst h;exact ⟨ts,fun g=>Nat.le_refl _,hv⟩
  ·cases h
 | _=>intro x cs ts h;simp [V.asB] at h
theorem ig (τ:Ty):∀ (v:V) (x:τ.D),V.asB τ v=some x→v.cells=τ.cells∧v.agg=τ.agg:=by
 intro v
 induction v generalizing τ with
 | dat τ' y =>
  intro x h
  simp only [V.asB] at h
  split at h
  ·rename_i e;subst e;exact ⟨rfl,rfl⟩
  ·cases h
 | own e ys =>
  intro x h
  simp only [V.asB] at h
  split at h
  ·rename_i e;subst e;exact ⟨rfl,rfl⟩
  ·cases h
 | pr a b iha ihb =>
  intro x h
  cases τ with
  | pair ta tb =>
   simp only [V.asB,Option.bind_eq_some_iff] at h
   obtain ⟨x1,h1,x2,h2,e⟩:=h
   exact ⟨by show a.cells+b.cells=ta.cells+tb.cells;rw [(iha ta x1 h1).1,(ihb tb x2 h2).1],rfl⟩
  | _=>simp [V.asB] at h
 | box e o =>
  intro x h
  simp only [V.asB] at h
  split at h
  ·rename_i e;subst e;exact ⟨rfl,rfl⟩
  ·cases h
 | _=>intro x h;simp [V.asB] at h
theorem Fo:∀ (v:V) (x:(τ:Ty) × τ.D) (cs:List Value) (ts:List Nat),tD v=some x→b8 G w v cs ts→v.cells=x.1.cells∧∃ ts',(∀ g,bi g ts'≤bi g ts)∧cI G w x.1 x.2 cs ts':=by
 intro v
 induction v with
 | dat τ y =>
  intro x cs ts h hv
  unfold tD at h
  split at h
  ·cases h
  ·rename_i heq;injection heq with e1 e2;subst e1;cases e2;injection h with h;subst h;exact ⟨rfl,[],fun g=>by simp,cI.of _ _ _ hv.1⟩
  all_goals (first | (rename_i heq;cases heq;done) | (cases h;done) | skip)
  all_goals simp_all
 | own e ys =>
  intro x cs ts h hv
  simp only [tD,Option.some.injEq] at h;subst h
  exact ⟨rfl,[],fun g=>by simp,il.dat hv,rfl⟩
 | pr a b iha ihb =>
  intro x cs ts h hv
  simp only [tD] at h
  split at h
  ·rename_i xa xb ha hb
   injection h with h;subst h
   obtain ⟨c1,c2,t1,t2,e1,e2,g1,g2⟩:=hv
   obtain ⟨l1,u1,k1,k2⟩:=iha xa c1 t1 ha g1
   obtain ⟨l2,u2,k3,k4⟩:=ihb xb c2 t2 hb g2
   exact ⟨by show a.cells+b.cells=xa.1.cells+xb.1.cells;rw [l1,l2],u1++u2,fun g=>by have:=k1 g;have:=k3 g;subst e2;simp;omega,c1,c2,u1,u2,e1,rfl,k2,k4⟩
  ·cases h
 | box e o =>
  intro x cs ts h hv
  simp only [tD,Option.some.injEq] at h;subst h
  exact ⟨rfl,ts,fun g=>Nat.le_refl _,hv⟩
 | _=>intro x cs ts h;simp [tD] at h

theorem oH:∀ (p:List Step) (τ:Ty) (x:τ.D) (u:V),V.get (.dat τ x) p=some u→∃ τ' y,u = .dat τ' y
 | [],τ,x,u,h=>by simp only [V.get,Option.some.injEq] at h;exact ⟨τ,x,h.symm⟩
 | st::p,τ,x,u,h=>by
  cases τ with
  | pair a b =>
   cases st with
   | l=>exact oH p a x.1 u h
   | r o =>
    simp only [V.get] at h
    obtain ⟨_,h⟩:=ap h
    exact oH p b x.2 u h
   | ix _ _ _=>simp [V.get] at h
   | el _ _=>simp [V.get] at h
  | arr m e =>
   cases st with
   | ix n sz i =>
    simp only [V.get] at h
    obtain ⟨_,h⟩:=ap h
    exact oH p e _ u h
   | l=>simp [V.get] at h
   | r o=>simp [V.get] at h
   | el _ _=>simp [V.get] at h
  | _=>cases st <;> simp [V.get] at h
theorem mB {τ:Ty} {o:Option τ.D}:∀ (p:List Step) (v u' v':V) (cs:List Value) (ts:List Nat),b8 G w v cs ts→v.get p=some (.box τ o)→V.put p v u'=some v' →
  ∃ cu tu tr,(∀ g,bi g tu+bi g tr≤bi g ts)∧b8 G w (.box τ o) cu tu∧v'.cells=v.cells ∧
   ∀ G' tu',(∀ v0 c t,(∀ k ∈ v0.refs,k ∈ v.refs)→(∀ g ∈ t,g ∈ tr)→b8 G w v0 c t→b8 G' w v0 c t)→b8 G' w u' cu tu'→∃ t',(∀ g,bi g t'≤bi g tr+bi g tu')∧b8 G' w v' cs t'
 | [],v,u',v',cs,ts,hv,hg,hp=>by
  simp only [V.get,Option.some.injEq] at hg;subst hg
  simp only [V.put] at hp
  obtain ⟨hb,hp⟩:=ap hp
  injection hp with hp;subst hp
  simp only [Bool.and_eq_true] at hb
  exact ⟨cs,ts,[],fun g=>by simp,hv,(jr _ u').1.trans (aS.1 hb.1.1.1).symm,fun G' tu' _ hu=>⟨tu',fun g=>by simp,qG hu⟩⟩
 | st::p,v,u',v',cs,ts,hv,hg,hp=>by
  cases v with
  | dat τ' x=>obtain ⟨_,_,h⟩:=oH _ _ _ _ hg;cases h
  | pr a b =>
   obtain ⟨c1,c2,t1,t2,e1,e2,h1,h2⟩:=hv
   cases st with
   | l =>
    simp only [V.get] at hg
    simp only [V.put,Option.map_eq_some_iff] at hp
    obtain ⟨a',ha',rfl⟩:=hp
    obtain ⟨cu,tu,tr,f1,f2,f3,f4⟩:=mB p a u' a' c1 t1 h1 hg ha'
    refine ⟨cu,tu,tr++t2,fun g=>by have:=f1 g;subst e2;simp;omega,f2,by rw [dV,f3];rfl,fun G' tu' H hu=>?_⟩
    obtain ⟨t',k1,k2⟩:=f4 G' tu' (fun v0 c t hr ht hv=>H v0 c t (fun k hk=>by simp [V.refs,hr k hk]) (fun g hg=>by simp [ht g hg]) hv) hu
    exact ⟨t'++t2,fun g=>by have:=k1 g;simp;omega,by rw [e1];exact dY k2 (H b c2 t2 (fun k hk=>by simp [V.refs,hk]) (fun g hg=>by simp [hg]) h2)⟩
   | r q =>
    simp only [V.get] at hg
    obtain ⟨hb,hg⟩:=ap hg
    simp only [V.put] at hp
    obtain ⟨_,hp⟩:=ap hp
    simp only [Option.map_eq_some_iff] at hp
    obtain ⟨b',hb',rfl⟩:=hp
    obtain ⟨cu,tu,tr,f1,f2,f3,f4⟩:=mB p b u' b' c2 t2 h2 hg hb'
    refine ⟨cu,tu,t1++tr,fun g=>by have:=f1 g;subst e2;simp;omega,f2,by rw [dV,f3];rfl,fun G' tu' H hu=>?_⟩
    obtain ⟨t',k1,k2⟩:=f4 G' tu' (fun v0 c t hr ht hv=>H v0 c t (fun k hk=>by simp [V.refs,hr k hk]) (fun g hg=>by simp [ht g hg]) hv) hu
    exact ⟨t1++t',fun g=>by have:=k1 g;simp;omega,by rw [e1];exact dY (H a c1 t1 (fun k hk=>by simp [V.refs,hk]) (fun g hg=>by simp [hg]) h1) k2⟩
   | ix n sz i=>simp [V.get] at hg
   | el sz i=>simp [V.get] at hg
  | _=>cases st <;> simp [V.get] at hg
theorem Base.re (hB:Base X G0 w0 G w) (hI:∀ b o,G'.I b o=G.I b o) (hW:Wf G' w) (hp:∀ j,G'.ρ (1000000+j)=G.ρ (1000000+j))
  (hO:∀ b o,b<w0.heap.size→G'.O b o=G0.O b o∨∃ d,(700000≤d∧d<1000000)∧G'.O b o=some d∧G0.O b o=none) (hx:∀ b o k,b<w0.heap.size→G'.O b o=some k→X b o):Base X G0 w0 G' w :=
 ⟨⟨hB.ev.evo,fun b o v h=>(hI b o).trans (hB.ev.le b o v h),fun b o v h=>hB.ev.grow b o v ((hI b o).symm.trans h),hO⟩,hW,fun j=>(hp j).trans (hB.par j),hx,hB.tab,hB.nm⟩
theorem Bp {tmps:Array Value} {k d:Nat} {p:List Step} {τ:Ty} {x:τ.D} {v v':V} (hR:RS X G0 w0 G s tmps w) (hl:lk s.mem k=some v) (hg:v.get p=some (.box τ (some x))) (hd:d<1000000) (hd7:700000≤d) (hm:lk s.mem d=none) (hn1:cz d s.env=true) (hn2:cz d s.mem=true)
  (hp:V.put p v (.ref d [])=some v'):∃ G',RS X G0 w0 G' ⟨s.env,(d,gd τ x)::eX s.mem k v'⟩ tmps w:=by
 obtain ⟨hB,tE,tM,h1,h2,h3,h4⟩:=hR
 obtain ⟨t1,t2,cs,hc,hv,hcells,howns,hrest⟩:=aM.find k s.mem tM v h2 hl
 obtain ⟨cu,tu,tr,f1,f2,f3,f4⟩:=mB p v _ v' cs t1 hv hg hp
 obtain ⟨g,off,c,ts',e1,e2,a3,a4,a5,a6,a7,a8⟩:=f2
 subst e2
 have hlc:=cI.length τ x c ts' a8
 have hlt:g<w.heap.size:=a3.lt (by omega)
 have hone:bi g (g::ts')=1+bi g ts':=by simp [bi];omega
 have hg1:bi g tE=0∧bi g t2=0∧bi g tr=0∧bi g ts'=0:=by
  have:=hc g;have:=f1 g;have:=h3 g;omega
 have hcons:∀ g',bi g' ts'≤bi g' (g::ts'):=fun g'=>by simp [bi,List.count_cons]
 let G':Gh:={ G with O:=fun b o=>if b=g then some d else G.O b o,ρ:=fun q=>if q=d then (g,off) else G.ρ q }
 have hρd:G'.ρ d=(g,off):=if_pos rfl
 have hρ:∀ q,q ≠ d→G'.ρ q=G.ρ q:=fun q hq=>if_neg hq
 have hI:∀ b o,G'.I b o=G.I b o:=fun _ _=>rfl
 have hOg:∀ o,G'.O g o=some d:=fun o=>if_pos rfl
 have hOn:∀ b o,b ≠ g→G'.O b o=G.O b o:=fun b o hb=>if_neg hb
 have hkey:∀ q,q ∈ bh s.env∨q ∈ bh s.mem∨q ∈ cR s.mem→q ≠ d:=by
  rintro q (h | h | h) rfl
  ·exact cN _ _ hn1 h
  ·exact cN _ _ hn2 h
  ·exact iJ _ _ hm h
 have hkm:k ∈ cR s.mem:=by
  rcases Decidable.em (k ∈ cR s.mem) with h | h
  ·exact h
  ·exfalso
   have:∀ m:List (Nat × V),k ∉ cR m→lk m k=none:=by
    intro m
    induction m with
    | nil=>intro _;rfl
    | cons y r ih =>
     obtain ⟨q,z⟩:=y
     intro hk
     simp only [cR,List.map_cons,List.mem_cons,not_or] at hk
     rw [bR,if_neg (fun e=>hk.1 e.symm)]
     exact ih hk.2
   rw [this _ h] at hl;cases hl
 have hvr:∀ q ∈ v.refs,q ∈ bh s.mem:=by
  have:∀ m:List (Nat × V),lk m k=some v→∀ q ∈ v.refs,q ∈ bh m:=by
   intro m
   induction m with
   | nil=>intro h;cases h
   | cons y r ih =>
    obtain ⟨q,z⟩:=y
    intro h q' hq'
    rw [bR] at h
    simp only [bh,List.mem_append]
    split at h
    ·injection h with h;subst h;exact .inl hq'
    ·exact .inr (ih h q' hq')
  exact this _ hl
 have hrefs:∀ q ∈ bh (rm s.mem k),q ∈ bh s.mem:=by
  have:∀ m:List (Nat × V),∀ q ∈ bh (rm m k),q ∈ bh m:=by
   intro m
   induction m with
   | nil=>intro q h;exact h
   | cons y r ih =>
    obtain ⟨q,z⟩:=y
    intro q' h
    rw [dq] at h
    simp only [bh,List.mem_append]
    split at h
    ·exact .inr (ih q' h)
    ·simp only [bh,List.mem_append] at h
     exact h.imp id (ih q')
  exact this _
 have hkd:k ≠ d:=hkey k (.inr (.inr hkm))
 have hOk:∀ q,q ∈ cR s.mem→∀ b o,G.O b o=some q→G'.O b o=some q:=fun q _ b o ho=>by
  have:b ≠ g:=by intro e;subst e;rw [a6 o] at ho;cases ho
  rw [hOn b o this];exact ho
 have htok:∀ l:List Nat,bi g l=0→(∀ g' ∈ l,∀ o,G.O g' o=none)→∀ g' ∈ l,∀ o,G'.O g' o=none:=fun l hl ho g' hg' o=>by
  have:g' ≠ g:=by intro e;subst e;have:=bb.1 hg';omega
  rw [hOn g' o this];exact ho g' hg' o
 have hX:g<w0.heap.size→∀ o,X g o:=by
  intro hgl
  rcases h4 g (by have:=hc g;have:=f1 g;omega) with h | h
  ·omega
  ·exact h
 have hW:Wf G' w:=by
  refine ⟨hB.wf.holds,fun b o u hu=>?_,fun b o q hq=>?_,fun b o q hq hlt q'=>?_⟩
  ·have:b ≠ g:=by intro e;subst e;have h5:=a5 o;rw [show G.I b o=some u from hu] at h5;cases h5
   rw [hOn b o this];exact hB.wf.io b o u hu
  ·by_cases e:b=g
   ·subst e;exact hlt
   ·rw [hOn b o e] at hq;exact hB.wf.lt b o q hq
  ·by_cases e:b=g
   ·subst e;rw [hOg] at hq ⊢;exact hq
   ·rw [hOn b o e] at hq;rw [hOn b q' e];exact hB.wf.whole b o q hq hlt q'
 have hB':Base X G0 w0 G' w:=hB.re hI hW (fun j=>hρ _ (by omega)) (fun b o hb=>by
  by_cases e:b=g
  ·subst e
   refine .inr ⟨d,⟨hd7,hd⟩,hOg o,?_⟩
   rcases hB.ev.own b o hb with h | ⟨_,_,h,_⟩
   ·rw [← h];exact a6 o
   ·rw [a6 o] at h;cases h
  ·rw [hOn b o e];exact hB.ev.own b o hb) (fun b o q hb hq=>by
  by_cases e:b=g
  ·subst e;exact hX hb o
  ·rw [hOn b o e] at hq;exact hB.xo b o q hb hq)
 have hE':aL G' w tmps s.env tE:=h1.re hI _ tE (fun q hq=>hρ q (hkey q (.inl hq))) (htok tE hg1.1 fun g' hg'=>(aL.owned _ tE h1 g' (bb.1 hg')).2)
 have hM':aM G' w (rm s.mem k) t2:=hrest.re hI _ t2 (fun q hq=>hρ q (hkey q (.inr (.inl (hrefs q hq))))) (fun q hq=>hρ q (hkey q (.inr (.inr (fj k _ q hq).1)))) (htok t2 hg1.2.1 fun g' hg'=>(aM.owned _ t2 hrest g' (bb.1 hg')).2)
  (fun q hq=>hOk q (fj k _ q hq).1)
 have htr:∀ g' ∈ tr,∀ o,G.O g' o=none:=fun g' hg'=>(hv.owned v cs t1 g' (bb.2 (by have:=bb.1 hg';have:=f1 g';omega))).2
 obtain ⟨t',k1,k2⟩:=f4 G' [] (fun v0 c t hr ht hv0=>hv0.re hI v0 c t (fun q hq=>hρ q (hkey q (.inr (.inl (hvr q (hr q hq)))))) (fun g' hg'=>htok tr hg1.2.2.1 htr g' (ht g' hg'))) ⟨by rw [e1];simp [Gh.addr,hρd,cn],trivial,rfl⟩
 have hx':cI G' w τ x c ts':=cI.swap hI τ x c ts' (htok ts' hg1.2.2.2 fun g' hg'=>(cI.owned τ x c ts' a8 g' hg').2) a8
 refine ⟨G',hB',tE,ts'++(t'++t2),hE',⟨ts',t'++t2,c,rfl,oV τ x c ts' hx',by rw [hρd];exact a3,⟨fun j hj=>?_,bH.no (Dr a7)⟩,t',t2,cs,rfl,k2,by rw [hρ k hkd];exact hcells,⟨?_,bH.no (ju hp)⟩,hM'⟩,fun g'=>?_,fun g' hg'=>?_⟩
 ·rw [(fC τ x).1] at hj
  rw [hρd]
  exact ⟨hOg _,a4 j hj⟩
 ·intro j hj
  rw [f3] at hj
  rw [hρ k hkd]
  exact ⟨hOk k hkm _ _ (howns.1 j hj).1,(howns.1 j hj).2⟩
 ·have:=h3 g';have:=hc g';have:=f1 g';have:=k1 g';have:=hcons g'
  simp at *;omega
 ·refine h4 g' ?_
  have:=hc g';have:=f1 g';have:=k1 g';have:=hcons g'
  simp at *;omega
theorem Bl {tmps:Array Value} {k:Nat} {p:List Step} {τ:Ty} {v v':V} (hR:RS X G0 w0 G s tmps w) (hl:lk s.mem k=some v) (hg:v.get p=some (.box τ none)) (hp:V.put p v (.box τ none)=some v'):RS X G0 w0 G ⟨s.env,eX s.mem k v'⟩ tmps w:=by
 obtain ⟨hB,tE,tM,h1,h2,h3,h4⟩:=hR
 obtain ⟨t1,t2,cs,hc,hv,hcells,howns,hrest⟩:=aM.find k s.mem tM v h2 hl
 obtain ⟨cu,tu,tr,f1,f2,f3,f4⟩:=mB p v _ v' cs t1 hv hg hp
 obtain ⟨t',k1,k2⟩:=f4 G tu (fun v0 c t _ _ h=>h) f2
 refine ⟨hB,tE,t'++t2,h1,⟨t',t2,cs,rfl,k2,hcells,⟨by rw [f3];exact howns.1,bH.no (ju hp)⟩,hrest⟩,fun g'=>?_,fun g' hg'=>h4 g' ?_⟩
 ·have:=h3 g';have:=hc g';have:=f1 g';have:=k1 g';simp;omega
 ·have:=hc g';have:=f1 g';have:=k1 g';simp at hg';omega
theorem ji {tmps:Array Value} {α:Type} {K:St→Option α} {r:α}:∀ (l:List (Nat × (List Step × Nat))) (s:St) (G:Gh),RS X G0 w0 G s tmps w→opn l s K=some r→∃ G' s',RS X G0 w0 G' s' tmps w∧K s'=some r
 | [],s,G,hR,h=>⟨G,s,hR,h⟩
 | (k,p,d)::l,s,G,hR,h=>by
  unfold opn at h
  split at h
  ·rename_i v hl
   split at h
   ·rename_i τ o hg
    obtain ⟨hb,h⟩:=ap h
    simp only [Bool.and_eq_true,Option.isNone_iff_eq_none] at hb
    obtain ⟨⟨⟨⟨⟨c1,c2⟩,c3⟩,c4⟩,c5⟩,c6⟩:=hb
    cases o with
    | some x =>
     rw [show Cp (some x)=true from rfl] at h
     obtain ⟨v',hv',h⟩:=Option.bind_eq_some_iff.1 (show ((V.put p v (.ref d [])).bind fun v'=>opn l { s with mem:=(d,gd τ (D4 τ (some x)))::eX s.mem k v' } K)=some r from h)
     obtain ⟨G',hR'⟩:=Bp hR hl hg (Nat.le_of_ble_eq_true c1) (Nat.le_of_ble_eq_true c6) c2 c3 c4 hv'
     exact ji l _ G' hR' h
    | none =>
     rw [show Cp (none:Option τ.D)=false from rfl] at h
     obtain ⟨v',hv',h⟩:=Option.bind_eq_some_iff.1 (show ((V.put p v (.box τ none)).bind fun v'=>opn l { s with mem:=eX s.mem k v' } K)=some r from h)
     exact ji l _ G (Bl hR hl hg hv') h
   ·exact ji l s G hR h
  ·exact ji l s G hR h

theorem mg (k:Nat):∀ m:List (Nat × V),∀ q ∈ bh (rm m k),q ∈ bh m
 | [],q,h=>h
 | (q0,z)::r,q,h=>by
  rw [dq] at h
  simp only [bh,List.mem_append]
  split at h
  ·exact .inr (mg k r q h)
  ·simp only [bh,List.mem_append] at h
   exact h.imp id (mg k r q)
structure Less (G G':Gh) (m:List (Nat × V)):Prop where
 i:∀ b o,G'.I b o=G.I b o
 ρ:G'.ρ=G.ρ
 sub:∀ b o k,G'.O b o=some k→G.O b o=some k
 keep:∀ b o k,G.O b o=some k→k ∉ cR m→G'.O b o=some k
theorem Less.none {m:List (Nat × V)} (h:Less G G' m) {b o:Nat} (hn:G.O b o=none):G'.O b o=none:=by
 cases hk:G'.O b o with
 | none=>rfl
 | some k=>rw [h.sub b o k hk] at hn;cases hn
theorem Less.refl (G:Gh) (m:List (Nat × V)):Less G G m:=⟨fun _ _=>rfl,rfl,fun _ _ _ h=>h,fun _ _ _ h _=>h⟩
def B7 (X:Nat→Nat→Prop) (w0:World) (G:Gh) (N:List Nat):Prop:=(∀ g,bi g N≤1)∧∀ g ∈ N,(∀ o,∃ d,G.O g o=some d)∧(w0.heap.size≤g∨∀ o,X g o)
theorem w9:∀ (v:V) (m:List (Nat × V)) (cs:List Value) (t tM:List Nat) (G:Gh),Base X G0 w0 G w→b8 G w v cs t→aM G w m tM →
  ∃ v' m' G' t' tM' N,(∀ (β:Type) (K:V→List (Nat × V)→β),jj v m K=K v' m')∧Base X G0 w0 G' w∧b8 G' w v' cs t'∧aM G' w m' tM'∧Less G G' m∧(∀ k ∈ cR m',k ∈ cR m)∧(∀ k ∈ bh m',k ∈ bh m) ∧
   B7 X w0 G N∧(∀ g,g ∈ N→∀ o,G'.O g o=none)∧(∀ g,bi g t'+bi g tM'≤bi g t+bi g tM+bi g N)∧v'.cells=v.cells∧(v'=v∨d7 v'=false):=by
 have same:∀ (v:V) (m:List (Nat × V)) (cs:List Value) (t tM:List Nat) (G:Gh),(∀ (β:Type) (K:V→List (Nat × V)→β),jj v m K=K v m)→Base X G0 w0 G w→b8 G w v cs t→aM G w m tM →
  ∃ v' m' G' t' tM' N,(∀ (β:Type) (K:V→List (Nat × V)→β),jj v m K=K v' m')∧Base X G0 w0 G' w∧b8 G' w v' cs t'∧aM G' w m' tM'∧Less G G' m∧(∀ k ∈ cR m',k ∈ cR m)∧(∀ k ∈ bh m',k ∈ bh m) ∧
   B7 X w0 G N∧(∀ g,g ∈ N→∀ o,G'.O g o=none)∧(∀ g,bi g t'+bi g tM'≤bi g t+bi g tM+bi g N)∧v'.cells=v.cells∧(v'=v∨d7 v'=false) :=
  fun v m cs t tM G he hB hv hM=>⟨v,m,G,t,tM,[],he,hB,hv,hM,.refl G m,fun _ h=>h,fun _ h=>h,⟨fun g=>by simp,fun g h=>by cases h⟩,fun g h=>(by cases h),fun g=>by simp,rfl,.inl rfl⟩
 intro v
 induction v with
 | pr a b iha ihb =>
  intro m cs t tM G hB hv hM
  obtain ⟨c1,c2,t1,t2,e1,e2,h1,h2⟩:=hv
  obtain ⟨a',m1,G1,t1',tM1,N1,p1,p2,p3,p4,p5,p6,p7,p8,p9,p10,p11,p12⟩:=iha m c1 t1 tM G hB h1 hM
  have h2':b8 G1 w b c2 t2:=h2.re p5.i b c2 t2 (fun k _=>by rw [p5.ρ]) (fun g hg o=>p5.none ((h2.owned b c2 t2 g hg).2 o))
  obtain ⟨b',m2,G2,t2',tM2,N2,q1,q2,q3,q4,q5,q6,q7,q8,q9,q10,q11,q12⟩:=ihb m1 c2 t2 tM1 G1 p2 h2' p4
  have h1':b8 G2 w a' c1 t1':=p3.re q5.i a' c1 t1' (fun k _=>by rw [q5.ρ]) (fun g hg o=>q5.none ((p3.owned a' c1 t1' g hg).2 o))
  have hdis:∀ g,g ∈ N1→g ∈ N2→False:=fun g h1 h2=>by
   obtain ⟨d,hd⟩:=(q8.2 g h2).1 0
   rw [p9 g h1 0] at hd;cases hd
  refine ⟨gP a' b',m2,G2,t1'++t2',tM2,N1++N2,fun β K=>?_,q2,?_,q4,⟨fun b o=>(q5.i b o).trans (p5.i b o),q5.ρ.trans p5.ρ,fun b o k h=>p5.sub b o k (q5.sub b o k h),fun b o k h hk=>q5.keep b o k (p5.keep b o k h hk) (fun h'=>hk (p6 k h'))⟩,
   fun k h=>p6 k (q6 k h),fun k h=>p7 k (q7 k h),⟨fun g=>?_,fun g hg=>?_⟩,fun g hg o=>?_,fun g=>?_,?_,.inr (fu _ _)⟩
  ·show jj a m (fun a' m1=>jj b m1 fun b' m2=>K (gP a' b') m2)=_
   rw [p1,q1]
  ·rw [e1];exact dY h1' q3
  ·rw [bN]
   have:=p8.1 g;have:=q8.1 g
   rcases Nat.eq_zero_or_pos (bi g N1) with h | h
   ·omega
   ·rcases Nat.eq_zero_or_pos (bi g N2) with h' | h'
    ·omega
    ·exact (hdis g (bb.2 h) (bb.2 h')).elim
  ·rcases List.mem_append.1 hg with h | h
   ·exact p8.2 g h
   ·exact ⟨fun o=>by obtain ⟨d,hd⟩:=(q8.2 g h).1 o;exact ⟨d,p5.sub g o d hd⟩,(q8.2 g h).2⟩
  ·rcases List.mem_append.1 hg with h | h
   ·exact q5.none (p9 g h o)
   ·exact q9 g h o
  ·have:=p10 g;have:=q10 g;subst e2;simp;omega
  ·rw [dV,p11,q11];rfl
 | ref d p =>
  intro m cs t tM G hB hv hM
  cases p with
  | cons st p=>exact same _ m cs t tM G (fun _ _=>rfl) hB hv hM
  | nil =>
   cases hd:Nat.blt d 1000000 with
   | false=>exact same _ m cs t tM G (fun β K=>by simp only [jj,hd,cond_false]) hB hv hM
   | true =>
   cases hl:lk m d with
   | none=>exact same _ m cs t tM G (fun β K=>by simp only [jj,hd,hl,cond_true]) hB hv hM
   | some u =>
   cases ht:tD u with
   | none=>exact same _ m cs t tM G (fun β K=>by simp only [jj,hd,hl,ht,cond_true]) hB hv hM
   | some x =>
   cases hc:Nat.blt 0 x.1.cells with
   | false=>exact same _ m cs t tM G (fun β K=>by simp only [jj,hd,hl,ht,hc,cond_true,cond_false]) hB hv hM
   | true =>
   have hpos:0<x.1.cells:=Nat.le_of_ble_eq_true hc
   have hdl:d<1000000:=Nat.le_of_ble_eq_true hd
   obtain ⟨hv1,_,rfl⟩:=hv
   obtain ⟨t1,t2,cu,hcnt,hu,hcells,howns,hrest⟩:=aM.find d m tM u hM hl
   obtain ⟨hcl,ts',k1,k2⟩:=Fo u x cu t1 ht hu
   obtain ⟨g,hg⟩:∃ g,g=(G.ρ d).1:=⟨_,rfl⟩
   have hO0:=(howns.1 0 (by omega)).1
   have hall:∀ o,G.O g o=some d:=by rw [hg];exact hB.wf.whole _ _ d hO0 hdl
   let G':Gh:={ G with O:=fun b o=>if G.O b o=some d then none else G.O b o }
   have hI:∀ b o,G'.I b o=G.I b o:=fun _ _=>rfl
   have hsub:∀ b o k,G'.O b o=some k→G.O b o=some k∧k ≠ d:=fun b o k h=>by
    have h':(if G.O b o=some d then none else G.O b o)=some k:=h
    by_cases e:G.O b o=some d
    ·rw [if_pos e] at h';cases h'
    ·rw [if_neg e] at h';exact ⟨h',fun e'=>e (e' ▸ h')⟩
   have hkeep:∀ b o k,G.O b o=some k→k ≠ d→G'.O b o=some k:=fun b o k h hk=>by
    show (if G.O b o=some d then none else G.O b o)=some k
    rw [h,if_neg (fun e=>hk (by injection e))]
   have hnone:∀ b o,G.O b o=none→G'.O b o=none:=fun b o h=>by
    show (if G.O b o=some d then none else G.O b o)=none
    rw [h];rfl
   have hgn:∀ o,G'.O g o=none:=fun o=>by
    show (if G.O g o=some d then none else G.O g o)=none
    rw [if_pos (hall o)]
   have hW:Wf G' w:=⟨hB.wf.holds,fun b o u hu=>hnone b o (hB.wf.io b o u hu),fun b o k hk=>hB.wf.lt b o k (hsub b o k hk).1,fun b o k hk hlt q=>hkeep b q k (hB.wf.whole b o k (hsub b o k hk).1 hlt q) (hsub b o k hk).2⟩
   have hB':Base X G0 w0 G' w:=hB.re hI hW (fun _=>rfl) (fun b o hb=>by
    rcases hB.ev.own b o hb with h | ⟨d',h1,h2,h3⟩
    ·refine .inl ?_
     cases hk:G.O b o with
     | none=>rw [← h,hk];exact hnone b o hk
     | some k =>
      have:1000000≤k:=hB.nm b o k (by rw [← h];exact hk)
      rw [← h,hk];exact hkeep b o k hk (by omega)
    ·by_cases e:d'=d
     ·subst e
      refine .inl ?_
      rw [h3]
      show (if G.O b o=some d' then none else G.O b o)=none
      rw [if_pos h2]
     ·exact .inr ⟨d',h1,hkeep b o d' h2 e,h3⟩) (fun b o k hb hk=>hB.xo b o k hb (hsub b o k hk).1)
   have hM':aM G' w (rm m d) t2:=hrest.re hI _ t2 (fun _ _=>rfl) (fun _ _=>rfl) (fun g' hg' o=>hnone g' o ((aM.owned _ t2 hrest g' (bb.1 hg')).2 o)) (fun k hk b o ho=>hkeep b o k ho (fj d m k hk).2)
   have hx:cI G' w x.1 x.2 cu ts':=cI.swap hI x.1 x.2 cu ts' (fun g' hg' o=>hnone g' o ((cI.owned x.1 x.2 cu ts' k2 g' hg').2 o)) k2
   refine ⟨.box x.1 (some x.2),rm m d,G',g::ts',t2,[g],fun β K=>by simp only [jj,hd,hl,ht,hc,cond_true],hB',?_,hM',⟨hI,rfl,fun b o k h=>(hsub b o k h).1,fun b o k h hk=>hkeep b o k h fun e=>?_⟩,fun k hk=>(fj d m k hk).1,mg d m,
    ⟨fun g'=>?_,fun g' hg'=>?_⟩,fun g' hg' o=>?_,fun g'=>?_,rfl,.inr rfl⟩
   ·refine ⟨g,(G.ρ d).2,cu,ts',?_,rfl,?_,fun j hj=>?_,fun q=>?_,hgn,hpos,hx⟩
    ·rw [hv1,Gh.addr,← hg];rfl
    ·rw [hg];exact hcells
    ·rw [hg];exact (howns.1 j (by omega)).2
    ·show G.I g q=none
     cases hq:G.I g q with
     | none=>rfl
     | some z=>have:=hB.wf.io g q z hq;rw [hall q] at this;cases this
   ·subst e
    have:∀ m:List (Nat × V),k ∉ cR m→lk m k=none:=by
     intro m
     induction m with
     | nil=>intro _;rfl
     | cons y r ih =>
      obtain ⟨q,z⟩:=y
      intro hk
      simp only [cR,List.map_cons,List.mem_cons,not_or] at hk
      rw [bR,if_neg (fun e=>hk.1 e.symm)]
      exact ih hk.2
    rw [this m hk] at hl;cases hl
   ·simp only [bi,List.count_cons,List.count_nil];split <;> omega
   ·have:g'=g:=by simpa using hg'
    subst this
    refine ⟨fun o=>⟨d,hall o⟩,?_⟩
    rcases Nat.lt_or_ge g' w0.heap.size with h | h
    ·exact .inr fun o=>hB.xo g' o d h (hall o)
    ·exact .inl h
   ·have:g'=g:=by simpa using hg'
    subst this
    exact hgn o
   ·have:=hcnt g';have:=k1 g'
    simp only [bi,List.count_cons,List.count_nil] at *
    omega
 | _=>intro m cs t tM G hB hv hM;exact same _ m cs t tM G (fun _ _=>rfl) hB hv hM
theorem jS {tmps:Array Value} {env:List (Nat × V)}:∀ (l:List Nat) (m:List (Nat × V)) (G:Gh),RS X G0 w0 G ⟨env,m⟩ tmps w→∃ G',RS X G0 w0 G' ⟨env,sM l m⟩ tmps w
 | [],m,G,hR=>⟨G,hR⟩
 | k::l,m,G,hR=>by
  cases hl:lk m k with
  | none =>
   simp only [sM,hl]
   exact jS l m G hR
  | some v =>
   obtain ⟨hB,tE,tM,h1,h2,h3,h4⟩:=hR
   obtain ⟨t1,t2,cs,hc,hv,hcells,howns,hrest⟩:=aM.find k m tM v h2 hl
   obtain ⟨v',m',G',t',tM',N,p1,p2,p3,p4,p5,p6,p7,p8,p9,p10,p11,p12⟩:=w9 v (rm m k) cs t1 t2 G hB hv hrest
   have hkn:k ∉ cR (rm m k):=fun h=>(fj k m k h).2 rfl
   have hE':aL G' w tmps env tE:=h1.re p5.i _ tE (fun q _=>by rw [p5.ρ]) (fun g hg o=>p5.none ((aL.owned _ tE h1 g (bb.1 hg)).2 o))
   have hown:ky G' w k v':=by
    refine ⟨fun j hj=>?_,?_⟩
    ·rw [p11] at hj
     rw [p5.ρ]
     exact ⟨p5.keep _ _ k (howns.1 j hj).1 hkn,(howns.1 j hj).2⟩
    ·rcases p12 with e | e
     ·rw [e];exact howns.2.re p5.i (by rw [p5.ρ]) (fun b o ho=>p5.keep b o k ho hkn)
     ·exact bH.no e
   have hnew:∀ g,g ∈ N→bi g tE=0∧bi g t1=0∧bi g t2=0:=fun g hg=>by
    obtain ⟨d,hd⟩:=(p8.2 g hg).1 0
    refine ⟨?_,?_,?_⟩
    ·rcases Nat.eq_zero_or_pos (bi g tE) with h | h
     ·exact h
     ·rw [(aL.owned _ tE h1 g h).2 0] at hd;cases hd
    ·rcases Nat.eq_zero_or_pos (bi g t1) with h | h
     ·exact h
     ·rw [(hv.owned v cs t1 g (bb.2 h)).2 0] at hd;cases hd
    ·rcases Nat.eq_zero_or_pos (bi g t2) with h | h
     ·exact h
     ·rw [(aM.owned _ t2 hrest g h).2 0] at hd;cases hd
   have hR':RS X G0 w0 G' ⟨env,(k,v')::m'⟩ tmps w:=by
    refine ⟨p2,tE,t'++tM',hE',⟨t',tM',cs,rfl,p3,by rw [p5.ρ];exact hcells,hown,p4⟩,fun g=>?_,fun g hg=>?_⟩
    ·rw [bN]
     have:=p10 g;have:=h3 g;have:=hc g;have:=p8.1 g
     rcases Nat.eq_zero_or_pos (bi g N) with h | h
     ·omega
     ·have:=hnew g (bb.2 h);omega
    ·rw [bN] at hg
     have:=p10 g;have:=hc g
     rcases Nat.eq_zero_or_pos (bi g N) with h | h
     ·exact h4 g (by omega)
     ·exact (p8.2 g (bb.2 h)).2
   have:=jS l _ G' hR'
   simp only [sM,hl]
   rw [p1]
   exact this
end Go.Proofs.YtfhcammihohmjaaGreatDoor.Pal
end
noncomputable section
/- Code: what the abstract run answers, the machine's run ends in. -/
namespace Go.Proofs.YtfhcammihohmjaaGreatDoor.Pal
open Go
variable [MonoC]
variable {P:Program} {X Y:Nat→Nat→Prop} {G0 G G':Gh} {w0 w w':World} {s:St} {a:Act} {c:Cx} {Q:Exit→Act→World→Prop}

def dy (c:Cx) (N:Nat):Code→Bool
 | .region id ops dr=>ops.toList.all (fun o=>match o.dst with | some t=>Nat.blt t N | none=>true) && (!dr || match lkN c.regs id with | some ri=>lY ops ri.moves ri.quiet && zO ops ri.pre | none=>true)
 | .seq a b=>dy c N a && dy c N b
 | .cond _ a b=>dy c N a && dy c N b
 | .block _ b=>dy c N b
 | .loop b=>dy c N b
 | _=>true
def Ex.toExit:Ex→Exit
 | .normal=>.normal
 | .exit i=>.exit i
 | .ret=>.ret
def yl {α:Type} (X:Nat→Nat→Prop) (G0:Gh) (w0:World) (N:Nat) (ds:List Deferred) (K:Ex→St→Option α) (res:α) (Q:Exit→Act→World→Prop):Prop :=
 ∀ e a' w' G' s',RS X G0 w0 G' s' a'.tmps w'→a'.tmps.size=N→a'.defers=ds→K e s'=some res→Q e.toExit a' w'
section
variable {α:Type} {K:Ex→St→Option α} {res:α} {N:Nat} {ds:List Deferred}
theorem lX {Q1:Act→World→Prop} {g:St→Option α} (hL:yl X G0 w0 N ds K res Q) (h:∀ a' w' G' s',RS X G0 w0 G' s' a'.tmps w'→a'.tmps.size=N→a'.defers=ds→g s'=some res→Q1 a' w') :
  yl X G0 w0 N ds (jU g K) res (Exit.then Q1 Q):=by
 intro e a' w' G' s' h1 h2 h3 h4
 cases e with
 | normal=>exact h a' w' G' s' h1 h2 h3 h4
 | exit i=>exact hL (.exit i) a' w' G' s' h1 h2 h3 h4
 | ret=>exact hL .ret a' w' G' s' h1 h2 h3 h4
theorem wj {id:Nat} (hL:yl X G0 w0 N ds K res Q):yl X G0 w0 N ds (qW id K) res (Exit.inBlock id Q):=by
 intro e a' w' G' s' h1 h2 h3 h4
 cases e with
 | normal=>exact hL .normal a' w' G' s' h1 h2 h3 h4
 | ret=>exact hL .ret a' w' G' s' h1 h2 h3 h4
 | exit i =>
  simp only [qW] at h4
  show Exit.inBlock id Q (.exit i) a' w'
  simp only [Exit.inBlock]
  by_cases e:i=id
  ·rw [if_pos e]
   have:Nat.beq i id=true:=aS.2 e
   rw [this] at h4
   exact hL .normal a' w' G' s' h1 h2 h3 h4
  ·rw [if_neg e]
   have:Nat.beq i id=false:=by rw [Bool.eq_false_iff];intro z;exact e (Nat.eq_of_beq_eq_true z)
   rw [this] at h4
   exact hL (.exit i) a' w' G' s' h1 h2 h3 h4
end
theorem lq (hT:TT P c) (hC:∀ f e,lkN c.fns f=some e→CallOK P f e) (hm:P.follows .mixedOrders=true) {N:Nat} {ds:List Deferred} {α:Type} {res:α} :
  ∀ (code:Code),dy c N code=true→∀ (K:Ex→St→Option α) (Q:Exit→Act→World→Prop) (s:St) (a:Act) (w:World) (G:Gh),yl X G0 w0 N ds K res Q →
   run c code s K=some res→RS X G0 w0 G s a.tmps w→a.tmps.size=N→a.defers=ds→code.wp P Q a w:=by
 intro code
 induction code with
 | skip =>
  intro _ K Q s a w G hL h hR hN hd
  exact wp_skip (hL .normal a w G s hR hN hd h)
 | exit id =>
  intro _ K Q s a w G hL h hR hN hd
  exact wp_exit (hL (.exit id) a w G s hR hN hd h)
 | ret =>
  intro _ K Q s a w G hL h hR hN hd
  exact wp_ret (hL .ret a w G s hR hN hd h)
 | seq x y ihx ihy =>
  intro hok K Q s a w G hL h hR hN hd
  simp only [dy,Bool.and_eq_true] at hok
  refine wp_seq (ihx hok.1 (jU (fun s'=>run c y s' K) K) _ s a w G (lX hL fun a' w' G' s' h1 h2 h3 h4=>ihy hok.2 K Q s' a' w' G' hL h4 h1 h2 h3) h hR hN hd)
 | cond x y z ihx ihy =>
  intro hok K Q s a w G hL h hR hN hd
  simp only [dy,Bool.and_eq_true] at hok
  change ((nl none s x).bind fun v=>match v with
   | .dat .bool t=>br t (run c y s K) (run c z s K)
   | _=>none)=some res at h
  rw [Option.bind_eq_some_iff] at h
  obtain ⟨v,hv,h⟩:=h
  have hr:=ga hR hv
  split at h
  ·rename_i t
   rcases kj h with ⟨rfl,h⟩ | ⟨rfl,h⟩
   ·exact wp_cond_true hr.dat_bool (ihx hok.1 K Q s a w G hL h hR hN hd)
   ·exact wp_cond_false hr.dat_bool (ihy hok.2 K Q s a w G hL h hR hN hd)
  ·cases h
 | block id b ih =>
  intro hok K Q s a w G hL h hR hN hd
  exact wp_block (ih hok (qW id K) _ s a w G (wj hL) h hR hN hd)
 | loop b ih =>
  intro hok K Q s a w G hL h hR hN hd
  change ((lkN c.regs (eI b)).bind fun ri=>rounds (eI b) (run c b) (prune ri.head ri.headM) K c.fuel (prune ri.head ri.headM s))=some res at h
  rw [Option.bind_eq_some_iff] at h
  obtain ⟨ri,_,h⟩:=h
  have key:∀ (n:Nat) (s:St) (a:Act) (w:World) (G:Gh),rounds (eI b) (run c b) (prune ri.head ri.headM) K n s=some res→RS X G0 w0 G s a.tmps w→a.tmps.size=N→a.defers=ds→Code.rounds P b Q n a w:=by
   intro n
   induction n with
   | zero=>intro s a w G h;cases h
   | succ n ihn =>
    intro s a w G h hR hN hd
    rw [rounds_succ]
    refine ih hok _ _ s a w G (lX hL fun a' w' G' s' h1 h2 h3 h4=>?_) h hR hN hd
    exact ihn _ a' w' G' h4 (h1.prune _ _) h2 h3
  exact wp_loop_rounds c.fuel (key c.fuel _ a w G h (hR.prune _ _) hN hd)
 | region id ops dr =>
  intro hok K Q s a w G hL h hR hN hd
  simp only [dy,Bool.and_eq_true,List.all_eq_true] at hok
  obtain ⟨hd1,hfr⟩:=hok
  have hdst:∀ o ∈ ops.toList,∀ t,o.dst=some t→t<N:=by
   intro o ho t ht
   have:=hd1 o ho
   rw [ht] at this
   exact Nat.le_of_ble_eq_true this
  change ((lkN c.regs id).bind fun ri=>ice ri.ice s fun s=>opn ri.opn s fun s =>
   bif dr then bif bP (s.frz ri.frz).env && Ax (jW ops.toList) (s.frz ri.frz).env (s.frz ri.frz).mem then mc c ops ri.moves ri.pre 0 ri.quiet [] ops.toList (s.frz ri.frz) fun past r s1=>bif eW s1.env && eW s1.mem then cS c ops ri.moves ri.lends ri.quiet r s1 fun s'=>K .normal (D2 ri s') else none else none
   else cS c ops ri.moves ri.lends 0 ops.toList (s.frz ri.frz) fun s'=>K .normal (D2 ri s'))=some res at h
  rw [Option.bind_eq_some_iff] at h
  obtain ⟨ri,hri,h⟩:=h
  obtain ⟨G,s,hR,h⟩:=nM ri.ice s G hR h
  obtain ⟨G,s,hR,h⟩:=ji ri.opn s G hR h
  obtain ⟨G,hR⟩:=RS.frz ri.frz s G hR
  generalize hsz:s.frz ri.frz=s at h hR
  clear hsz
  have hQ:∀ a' w' G' s',RS X G0 w0 G' s' a'.tmps w'→a'.tmps.size=N→a'.defers=ds→(fun s':St=>K .normal (D2 ri s')) s'=some res→Q .normal a' w':=by
   intro a' w' G' s' h1 h2 h3 h4
   obtain ⟨G2,k2⟩:=jS ri.shut s'.mem G' h1.settle
   exact hL .normal a' w' G2 _ (k2.prune _ _) h2 h3 h4
  cases dr with
  | false =>
   simp only [cond_false] at h
   refine wp_region ?_
   rw [List.range_eq_range']
   have:=hJ (n:=N) hT hC hdst hQ ops.toList 0 s a w G (by simp) h hR hN hd
   simpa using this
  | true =>
   simp only [cond_true] at h
   obtain ⟨hnl,h⟩:=ap h
   rw [Bool.and_eq_true] at hnl
   obtain ⟨hnl,hno⟩:=hnl
   have hfr0:(lY ops ri.moves ri.quiet && zO ops ri.pre)=true:=by
    simp only [Bool.not_true,Bool.false_or,hri] at hfr;exact hfr
   rw [Bool.and_eq_true] at hfr0
   obtain ⟨hfr',hpr⟩:=hfr0
   have hq:=(iN hfr').1
   obtain ⟨Ls,ms,xs,s1,past,e2,e4,e5,f1,f2,f3,f4,_,f6,_⟩:=pq hC ri.quiet ops.toList 0 [] s (by simp) h hnl
   have hmin:0+min ri.quiet ops.toList.length=ri.quiet:=by rw [Nat.zero_add,Nat.min_eq_left (by simpa using hq)]
   rw [hmin] at e5 f3 f4 f6
   obtain ⟨hnd,e2⟩:=ap e2
   simp only [Bool.and_eq_true] at hnd
   refine wp_region_any hm ?_
   refine yp (s1:=s1) (G0:=G0) (w0:=w0) (X:=X) hT hC hdst hfr' hpr hQ e5 f3 (by rw [f4]) hnd.1 hnd.2 (BP e5 f1 f2 hno) e2 ops.size (Array.replicate ops.size false) a _ G s.env s.mem ?_ ⟨?_,hnl,hN,hd,by simp,fun j _ hj=>by simp [Array.getD,hj],fun j o ho hl=>?_,fun _ _=>by rw [f1],fun j t hj _ hl=>?_,fun j t hj hl=>?_,fun _ _=>by rw [f2],fun j k hj hl=>?_⟩
   ·unfold D5
    simp
   ·exact hR.drew
   ·have:j<ops.size:=(Array.getElem?_eq_some_iff.1 ho).1
    simp [Array.getD,this] at hl
   ·have:j<ops.size:=by omega
    simp [Array.getD,this] at hl
   ·have:j<ops.size:=by omega
    simp [Array.getD,this] at hl
   ·have:j<ops.size:=by omega
    simp [Array.getD,this] at hl
 | _ =>
  intro _ K Q s a w G hL h hR hN hd
  cases h
end Go.Proofs.YtfhcammihohmjaaGreatDoor.Pal
end
noncomputable section
/- Functions: what the abstract run of a body gives, the function's call gives. -/
namespace Go.Proofs.YtfhcammihohmjaaGreatDoor.Pal
open Go
variable [MonoC]
variable {P:Program} {X Y:Nat→Nat→Prop} {G0 G G':Gh} {w0 w w':World} {s:St} {a:Act} {c:Cx} {Q:Exit→Act→World→Prop}

def wQ:List Ty→List V→List V→Prop
 | [],vs,us=>vs=[]∧us=[]
 | τ::r,vs,us=>∃ v vs' y us',vs=v::vs'∧us=gd τ y::us'∧V.asB τ v=some y∧wQ r vs' us'
theorem mP:∀ (ts:List Ty) (vs:List V) (x:Dl ts),Dl.dec ts vs=some x→wQ ts vs (Dl.enc ts x)
 | [],[],x,_=>⟨rfl,rfl⟩
 | [],_::_,x,h=>by simp [Dl.dec] at h
 | [τ],[],x,h=>by simp [Dl.dec] at h
 | [τ],[v],x,h=>⟨v,[],x,[],rfl,rfl,h,rfl,rfl⟩
 | [τ],_::_::_,x,h=>by simp [Dl.dec] at h
 | τ::τ'::r,[],x,h=>by simp [Dl.dec] at h
 | τ::τ'::r,v::vs,x,h=>by
  simp only [Dl.dec,Option.bind_eq_some_iff] at h
  obtain ⟨x1,h1,y,h2,h3⟩:=h
  injection h3 with h3;subst h3
  exact ⟨v,vs,x1,_,rfl,rfl,h1,mP (τ'::r) vs y h2⟩
theorem wQ.lengths:∀ {ts:List Ty} {vs us:List V},wQ ts vs us→vs.length=ts.length∧us.length=ts.length
 | [],_,_,⟨h1,h2⟩=>by subst h1;subst h2;exact ⟨rfl,rfl⟩
 | τ::r,_,_,⟨v,vs,y,us,h1,h2,_,h4⟩=>by subst h1;subst h2;have:=wQ.lengths h4;simp [this]
theorem wQ.split:∀ {t1 t2:List Ty} {v1 v2 us:List V},wQ (t1++t2) (v1++v2) us→v1.length=t1.length→wQ t1 v1 (us.take t1.length)∧wQ t2 v2 (us.drop t1.length)
 | [],t2,v1,v2,us,h,hl=>by
  have:v1=[]:=List.eq_nil_of_length_eq_zero hl
  subst this
  exact ⟨⟨rfl,rfl⟩,h⟩
 | τ::r,t2,[],v2,us,h,hl=>by simp at hl
 | τ::r,t2,v::v1,v2,us,h,hl=>by
  obtain ⟨v',vs',y,us',h1,h2,h3,h4⟩:=h
  simp only [List.cons_append,List.cons.injEq] at h1
  obtain ⟨rfl,rfl⟩:=h1
  subst h2
  obtain ⟨g1,g2⟩:=wQ.split h4 (by simpa using hl)
  exact ⟨⟨v,v1,y,us'.take r.length,rfl,rfl,h3,g1⟩,g2⟩
theorem vk {r:List Ar} {n:Nat} {vs ds:List V} (h:Ar.pull (.ref::r) n vs=some ds):∃ vs',vs = .ref (1000000+n) []::vs'∧Ar.pull r (n+1) vs'=some ds:=by
 cases vs with
 | nil=>simp [Ar.pull] at h
 | cons v vs =>
  cases v <;> try (simp [Ar.pull] at h;done)
  rename_i k p
  cases p with
  | cons _ _=>simp [Ar.pull] at h
  | nil =>
   simp only [Ar.pull] at h
   obtain ⟨hb,h⟩:=ap h
   exact ⟨vs,by rw [aS.1 hb],h⟩
theorem vt {r:List Ar} {n:Nat} {vs ds:List V} (h:Ar.pull (.nil::r) n vs=some ds):∃ vs',vs = .nilp::vs'∧Ar.pull r n vs'=some ds:=by
 cases vs with
 | nil=>simp [Ar.pull] at h
 | cons v vs =>
  cases v <;> try (simp [Ar.pull] at h;done)
  exact ⟨vs,rfl,h⟩
theorem zP {g m:Nat} {r:List Ar} {n:Nat} {vs ds:List V} (h:Ar.pull (.fn g m::r) n vs=some ds):∃ caps vs',vs = .fn g caps::vs'∧ul n m caps=true∧Ar.pull r (n+m) vs'=some ds:=by
 cases vs with
 | nil=>simp [Ar.pull] at h
 | cons v vs =>
  cases v <;> try (simp [Ar.pull] at h;done)
  rename_i g' caps
  simp only [Ar.pull] at h
  obtain ⟨hb,h2⟩:=ap h
  simp only [Bool.and_eq_true] at hb
  have e:=aS.1 hb.1
  exact ⟨caps,vs,by rw [e],hb.2,h2⟩
theorem eK:∀ (ars:List Ar) (n:Nat) (args ds:List V),Ar.pull ars n args=some ds→ds.length=(dz ars).length∧args.length=ars.length
 | [],_,[],ds,h=>by simp [Ar.pull] at h;subst h;exact ⟨rfl,rfl⟩
 | [],_,_::_,ds,h=>by simp [Ar.pull] at h
 | .dat τ::r,n,[],ds,h=>by simp [Ar.pull] at h
 | .dat τ::r,n,v::vs,ds,h=>by
  simp only [Ar.pull,Option.map_eq_some_iff] at h
  obtain ⟨us,h,rfl⟩:=h
  have:=eK r n vs us h
  simp [dz,this]
 | .ref::r,n,vs,ds,h=>by
  obtain ⟨vs',rfl,h2⟩:=vk h
  have:=eK r _ _ ds h2
  simp [dz,this]
 | .nil::r,n,vs,ds,h=>by
  obtain ⟨vs',rfl,h2⟩:=vt h
  have:=eK r _ _ ds h2
  simp [dz,this]
 | .fn g m::r,n,vs,ds,h=>by
  obtain ⟨caps,vs',rfl,_,h2⟩:=zP h
  have:=eK r _ _ ds h2
  simp [dz,this]
theorem Ag {n m:Nat} {caps:List (Nat × List Step)} (h:ul n m caps=true):caps=(List.range m).map fun i=>(1000000+n+i,[]):=by
 simp only [ul,Bool.and_eq_true] at h
 obtain ⟨h1,h2⟩:=h
 have hl:=aS.1 h1
 apply List.ext_getElem
 ·simp [hl]
 ·intro i hi hi'
  rw [List.all_eq_true] at h2
  have hm:i<m:=by omega
  have:=h2 (caps[i],i) (by
   rw [List.mem_iff_getElem]
   exact ⟨i,by simp [hl];exact hm,by simp⟩)
  simp only [Bool.and_eq_true,List.isEmpty_iff] at this
  simp only [List.getElem_map,List.getElem_range]
  exact Prod.ext (aS.1 this.1) this.2
theorem cI.tokI:∀ (τ:Ty) (x:τ.D) (cs:List Value) (ts:List Nat),cI G w τ x cs ts→∀ g ∈ ts,∀ o,G.I g o=none
 | .box τ,o,cs,ts,h,g,hg=>by
  cases o with
  | none=>obtain ⟨_,rfl⟩:=h;cases hg
  | some x =>
   obtain ⟨g',off,c,ts',_,rfl,_,_,h5,_,_,h8⟩:=h
   rcases List.mem_cons.1 hg with rfl | hg
   ·exact h5
   ·exact cI.tokI τ x c ts' h8 g hg
 | .pair a b,x,cs,ts,⟨c1,c2,t1,t2,_,ht,h1,h2⟩,g,hg=>by
  subst ht
  rcases List.mem_append.1 hg with h | h
  ·exact cI.tokI a _ _ _ h1 g h
  ·exact cI.tokI b _ _ _ h2 g h
 | .int k,x,cs,ts,⟨_,e⟩,g,hg=>by subst e;cases hg
 | .bool,x,cs,ts,⟨_,e⟩,g,hg=>by subst e;cases hg
 | .str,x,cs,ts,⟨_,e⟩,g,hg=>by subst e;cases hg
 | .slc e,x,cs,ts,⟨_,e'⟩,g,hg=>by subst e';cases hg
 | .arr n e,x,cs,ts,⟨_,e'⟩,g,hg=>by subst e';cases hg
 | .map a b,x,cs,ts,⟨_,e⟩,g,hg=>by subst e;cases hg
def nP (G:Gh) (ts' ts:List Nat):Prop:=(∀ g,bi g ts'≤bi g ts)∧∀ g ∈ ts',∀ o,G.I g o=none
theorem nP.nil (G:Gh) (ts:List Nat):nP G [] ts:=⟨fun g=>by simp,fun g h=>by cases h⟩
theorem nP.app {G:Gh} {a a' b b':List Nat} (h:nP G a' a) (k:nP G b' b):nP G (a'++b') (a++b) :=
 ⟨fun g=>by have:=h.1 g;have:=k.1 g;simp;omega,fun g hg=>(List.mem_append.1 hg).elim (h.2 g) (k.2 g)⟩
theorem b8.forget {τ:Ty} {v:V} {y:τ.D} {cs:List Value} {ts:List Nat} (hv:V.asB τ v=some y) (h:b8 G w v cs ts):∃ ts',nP G ts' ts∧b8 G w (gd τ y) cs ts':=by
 obtain ⟨ts',h1,h2⟩:=Ee τ v y cs ts hv h
 exact ⟨ts',⟨h1,cI.tokI τ y cs ts' h2⟩,oV τ y cs ts' h2⟩
theorem aY.forget {τ:Ty} {v:V} {y:τ.D} {x:Value} {ts:List Nat} (hv:V.asB τ v=some y) (h:aY G w v x ts):∃ ts',nP G ts' ts∧aY G w (gd τ y) x ts':=by
 obtain ⟨cs,h1,h2⟩:=h
 obtain ⟨ts',k1,k2⟩:=h1.forget hv
 exact ⟨ts',k1,cs,k2,by rw [(fC τ y).2,← (ig τ v y hv).2];exact h2⟩
theorem jF:∀ (ars:List Ar) (n:Nat) (args ds us:List V) (argv:List Value) (ts:List Nat),Ar.pull ars n args=some ds→wQ (dz ars) ds us→cK G w args argv ts→∃ ts',nP G ts' ts∧cK G w (Ar.lay ars n us) argv ts'
 | [],_,[],ds,us,argv,ts,h,hA,⟨h1,h2⟩=>⟨[],.nil G ts,h1,rfl⟩
 | [],_,_::_,ds,us,argv,ts,h,_,_=>by simp [Ar.pull] at h
 | .dat τ::r,n,[],ds,us,argv,ts,h,_,_=>by simp [Ar.pull] at h
 | .dat τ::r,n,v::vs,ds,us,argv,ts,h,hA,⟨x,xs,t1,t2,e1,e2,h1,h2⟩=>by
  simp only [Ar.pull,Option.map_eq_some_iff] at h
  obtain ⟨ds',h,rfl⟩:=h
  obtain ⟨v',vs',y,us',g1,g2,g3,g4⟩:=hA
  simp only [List.cons.injEq] at g1
  obtain ⟨rfl,rfl⟩:=g1
  subst g2
  obtain ⟨u1,k1,k2⟩:=h1.forget g3
  obtain ⟨u2,k3,k4⟩:=jF r n vs ds' us' xs t2 h g4 h2
  exact ⟨u1++u2,by rw [e2];exact k1.app k3,x,xs,u1,u2,e1,rfl,k2,k4⟩
 | .ref::r,n,vs,ds,us,argv,ts,h,hA,hh=>by
  obtain ⟨vs',rfl,hh2⟩:=vk h
  obtain ⟨x,xs,t1,t2,e1,e2,h1,h2⟩:=hh
  obtain ⟨cs,⟨k1,k2,k3⟩,k4⟩:=h1
  obtain ⟨u2,k5,k6⟩:=jF _ _ _ ds us xs t2 hh2 hA h2
  exact ⟨[]++u2,by rw [e2];exact (nP.nil G t1).app k5,x,xs,[],u2,e1,rfl,⟨cs,⟨k1,k2,rfl⟩,k4⟩,k6⟩
 | .nil::r,n,vs,ds,us,argv,ts,h,hA,hh=>by
  obtain ⟨vs',rfl,hh2⟩:=vt h
  obtain ⟨x,xs,t1,t2,e1,e2,h1,h2⟩:=hh
  obtain ⟨cs,⟨k1,k3⟩,k4⟩:=h1
  obtain ⟨u2,k5,k6⟩:=jF _ _ _ ds us xs t2 hh2 hA h2
  exact ⟨[]++u2,by rw [e2];exact (nP.nil G t1).app k5,x,xs,[],u2,e1,rfl,⟨cs,⟨k1,rfl⟩,k4⟩,k6⟩
 | .fn g m::r,n,vs,ds,us,argv,ts,h,hA,hh=>by
  obtain ⟨caps,vs',rfl,hc,hh2⟩:=zP h
  obtain ⟨x,xs,t1,t2,e1,e2,h1,h2⟩:=hh
  have e:=Ag hc
  subst e
  obtain ⟨cs,⟨vs,k1,k2,k3⟩,k4⟩:=h1
  obtain ⟨u2,k5,k6⟩:=jF _ _ _ ds us xs t2 hh2 hA h2
  exact ⟨[]++u2,by rw [e2];exact (nP.nil G t1).app k5,x,xs,[],u2,e1,rfl,⟨cs,⟨vs,k1,k2,rfl⟩,k4⟩,k6⟩
theorem wG {tmps:Array Value}:∀ (vs:List V) (argv:List Value) (k:Nat) (ts:List Nat),cK G w vs argv ts→(∀ i v,argv[i]? = some v→tmps.getD (k+i) undef=v)→aL G w tmps (cW k vs) ts
 | [],_,_,_,⟨_,h⟩,_=>h
 | v::vs,argv,k,ts,⟨x,xs,t1,t2,e1,e2,h1,h2⟩,ht=>by
  subst e1
  have h0:=ht 0 x rfl
  refine (aL.cons (ct h1)).2 ⟨t1,t2,e2,by rw [← h0] at h1;simpa using h1,wG vs xs (k+1) t2 h2 fun i v hv=>?_⟩
  have:=ht (i+1) v (by simpa using hv)
  rwa [show k+(i+1)=k+1+i by omega] at this
theorem ux (a b:Ty) (x:a.D × b.D):d7 (gd (.pair a b) x)=false:=by
 show d7 (bif eR a || eR b then V.pr (gd a x.1) (gd b x.2) else .dat (.pair a b) x)=false
 cases eR a || eR b <;> rfl
theorem bH.as_ {k:Nat} {τ:Ty} {v:V} {y:τ.D} (h:V.asB τ v=some y) (hm:bH G w k v):bH G w k (gd τ y):=by
 cases v with
 | dat τ' x =>
  simp only [V.asB] at h
  split at h
  ·rename_i e;subst e;injection h with h;subst h
   cases τ' with
   | pair a b=>exact bH.no (ux a b x)
   | map a b=>exact hm
   | _=>trivial
  ·cases h
 | own e xs =>
  simp only [V.asB] at h
  split at h
  ·rename_i e2;subst e2;exact bH.no rfl
  ·cases h
 | pr a b =>
  cases τ with
  | pair ta tb=>exact bH.no (ux ta tb y)
  | _=>simp [V.asB] at h
 | box e o =>
  simp only [V.asB] at h
  split at h
  ·rename_i e2;subst e2;exact bH.no rfl
  ·cases h
 | _=>simp [V.asB] at h
def qI:Ty→Bool
 | .map _ _=>true
 | τ=>Nat.blt 0 τ.cells
theorem tm {k:Nat} {τ:Ty} {v:V} {y:τ.D} (ht:qI τ=true) (h:V.asB τ v=some y) (ho:ky G w k v):∃ o,G.O (G.ρ k).1 o=some k:=by
 have hc:=(ig τ v y h).1
 have hm:=ho.2.as_ h
 cases τ with
 | map a b=>obtain ⟨_,h2,_⟩:=hm;exact ⟨0,h2⟩
 | _=>exact ⟨_,(ho.1 0 (by rw [hc];exact Nat.le_of_ble_eq_true ht)).1⟩
theorem mA:∀ (ts:List Ty) (vs us:List V) (k:Nat) (tk:List Nat),wQ ts vs us→aM G w (cW k vs) tk→∃ tk',nP G tk' tk∧aM G w (cW k us) tk'
 | [],_,_,_,tk,⟨h1,h2⟩,_=>by subst h2;exact ⟨[],.nil G tk,rfl⟩
 | τ::r,_,_,k,tk,⟨v,vs,y,us,e1,e2,h3,h4⟩,hM=>by
  subst e1;subst e2
  obtain ⟨t1,t2,cs,e,g1,g2,g3,g4⟩:=hM
  have hc:=(ig τ v y h3).1
  obtain ⟨u1,k1,k2⟩:=g1.forget h3
  obtain ⟨u2,k3,k4⟩:=mA r vs us (k+1) t2 h4 g4
  exact ⟨u1++u2,by rw [e];exact k1.app k3,u1,u2,cs,rfl,k2,g2,⟨by rw [(fC τ y).1,← hc];exact g3.1,g3.2.as_ h3⟩,k4⟩

def Rs.noNew:Rs→Bool
 | .new=>false
 | .raw _=>false
 | .n2 _=>false
 | .newm=>false
 | .n2m=>false
 | .t2 a b=>a.noNew && b.noNew
 | _=>true
theorem oP (n:Nat):∀ (ρ:Rs) (v:V) (x:ρ.D) (cs:List Value) (ts:List Nat),ρ.noNew=true→Rs.dec n ρ v=some x→b8 G w v cs ts →
  (ρ.enc n x).agg=v.agg∧∃ ts',(∀ g,bi g ts'≤bi g ts)∧b8 G w (ρ.enc n x) cs ts'
 | .dat τ,v,x,cs,ts,_,h,hv=>⟨(iw τ v x h).2.symm,[],fun g=>by simp,j4 τ v x cs ts h hv,rfl⟩
 | .own e,v,x,cs,ts,_,h,hv=>by
  cases v <;> simp only [Rs.dec,reduceCtorEq] at h
  split at h
  ·rename_i e2;subst e2
   injection h with h;subst h
   exact ⟨rfl,ts,fun _=>Nat.le_refl _,hv⟩
  ·cases h
 | .t2 .new b,v,x,cs,ts,hn,_,_=>by simp [Rs.noNew] at hn
 | .t2 (.dat τ) b,v,x,cs,ts,hn,h,hv=>by
  cases v <;> simp only [Rs.dec,reduceCtorEq] at h
  rename_i va vb
  simp only [Option.bind_eq_some_iff] at h
  obtain ⟨x1,h1,y,h2,h3⟩:=h
  injection h3 with h3;subst h3
  obtain ⟨xa,xb,ca,cb,t1,t2,e1,e2,g1,g2,g3,g4⟩:=hv
  simp only [Rs.noNew,Bool.true_and] at hn
  obtain ⟨k1,t2',k2,k3⟩:=oP n b vb y cb t2 hn h2 g3
  refine ⟨rfl,[]++t2',fun g=>by have:=k2 g;subst e2;simp;omega,xa,xb,ca,cb,[],t2',e1,rfl,⟨j4 τ va x1 ca t1 h1 g1,rfl⟩,?_,k3,?_⟩
  ·rw [show (V.dat τ x1).agg=va.agg from (iw τ va x1 h1).2.symm];exact g2
  ·rw [k1];exact g4
 | .t2 (.own e) b,v,x,cs,ts,hn,h,hv=>by simp [Rs.dec] at h
 | .t2 (.raw e) b,v,x,cs,ts,hn,h,hv=>by simp [Rs.dec] at h
 | .raw e,v,x,cs,ts,hn,_,_=>by simp [Rs.noNew] at hn
 | .t2 (.t2 p q) b,v,x,cs,ts,hn,h,hv=>by simp [Rs.dec] at h
 | .t2 .unit b,v,x,cs,ts,hn,h,hv=>by simp [Rs.dec] at h
 | .new,v,x,cs,ts,hn,_,_=>by simp [Rs.noNew] at hn
 | .unit,v,x,cs,ts,_,h,hv=>by
  cases v <;> simp only [Rs.dec,reduceCtorEq] at h
  exact ⟨rfl,ts,fun _=>Nat.le_refl _,hv⟩
 | .n2 c,v,x,cs,ts,hn,_,_=>by simp [Rs.noNew] at hn
 | .newm,v,x,cs,ts,hn,_,_=>by simp [Rs.noNew] at hn
 | .n2m,v,x,cs,ts,hn,_,_=>by simp [Rs.noNew] at hn
 | .t2 .newm b,v,x,cs,ts,hn,h,hv=>by simp [Rs.dec] at h
 | .t2 .n2m b,v,x,cs,ts,hn,h,hv=>by simp [Rs.dec] at h
 | .t2 (.n2 c) b,v,x,cs,ts,hn,h,hv=>by simp [Rs.dec] at h
 | .t2 (.t3 _ _ _) b,v,x,cs,ts,hn,h,hv=>by simp [Rs.dec] at h
 | .t3 a b c,v,x,cs,ts,_,h,hv=>by
  cases v <;> simp only [Rs.dec,reduceCtorEq] at h
  rename_i va vb vc
  simp only [Option.bind_eq_some_iff] at h
  obtain ⟨x1,h1,x2,h2,x3,h3,h4⟩:=h
  injection h4 with h4;subst h4
  obtain ⟨xa,xb,xc,ca,cb,cc,t1,t2,t3,e1,e2,g1,g2,g3,g4,g5,g6⟩:=hv
  refine ⟨rfl,[],fun g=>by simp,xa,xb,xc,ca,cb,cc,[],[],[],e1,rfl,⟨j4 a va x1 ca t1 h1 g1,rfl⟩,?_,⟨j4 b vb x2 cb t2 h2 g3,rfl⟩,?_,⟨j4 c vc x3 cc t3 h3 g5,rfl⟩,?_⟩
  ·rw [show (V.dat a x1).agg=va.agg from (iw a va x1 h1).2.symm];exact g2
  ·rw [show (V.dat b x2).agg=vb.agg from (iw b vb x2 h2).2.symm];exact g4
  ·rw [show (V.dat c x3).agg=vc.agg from (iw c vc x3 h3).2.symm];exact g6
def Rs.okR:Rs→Bool
 | .raw _=>true
 | ρ=>ρ.noNew
theorem y6 {m:List (Nat × V)} {n:Nat} {v:V} {os:List V} {p:V × List V} {ρ:Rs} (hn:ρ.okR=true) (h:gD m n v os=some p) (hd:(Rs.dec n ρ p.1).isSome=true):p=(v,os)∧v.refs=[]:=by
 have hr:∀ k,(Rs.dec n ρ (.ref k [])).isSome=false:=by
  intro k
  cases ρ with
  | t2 a b=>cases a <;> simp [Rs.okR,Rs.noNew] at hn <;> simp [Rs.dec]
  | new=>simp [Rs.okR,Rs.noNew] at hn
  | n2 c=>simp [Rs.okR,Rs.noNew] at hn
  | newm=>simp [Rs.okR,Rs.noNew] at hn
  | n2m=>simp [Rs.okR,Rs.noNew] at hn
  | _=>simp [Rs.dec,V.as]
 have hr2:∀ k b,(Rs.dec n ρ (.tup2 (.ref k []) b)).isSome=false:=by
  intro k b
  cases ρ with
  | t2 a b=>cases a <;> simp [Rs.okR,Rs.noNew] at hn <;> simp [Rs.dec,V.as]
  | new=>simp [Rs.okR,Rs.noNew] at hn
  | n2 c=>simp [Rs.okR,Rs.noNew] at hn
  | newm=>simp [Rs.okR,Rs.noNew] at hn
  | n2m=>simp [Rs.okR,Rs.noNew] at hn
  | _=>simp [Rs.dec,V.as]
 have hr3:∀ k k' b,(Rs.dec n ρ (.tup3 (.ref k []) (.ref k' []) b)).isSome=false:=by
  intro k k' b
  cases ρ with
  | t2 a b=>cases a <;> simp [Rs.okR,Rs.noNew] at hn <;> simp [Rs.dec,V.as]
  | new=>simp [Rs.okR,Rs.noNew] at hn
  | n2 c=>simp [Rs.okR,Rs.noNew] at hn
  | newm=>simp [Rs.okR,Rs.noNew] at hn
  | n2m=>simp [Rs.okR,Rs.noNew] at hn
  | _=>simp [Rs.dec,V.as]
 have hr4:∀ k,(Rs.dec n ρ (.mref k)).isSome=false:=by
  intro k
  cases ρ with
  | t2 a b=>cases a <;> simp [Rs.okR,Rs.noNew] at hn <;> simp [Rs.dec,V.as]
  | new=>simp [Rs.okR,Rs.noNew] at hn
  | n2 c=>simp [Rs.okR,Rs.noNew] at hn
  | newm=>simp [Rs.okR,Rs.noNew] at hn
  | n2m=>simp [Rs.okR,Rs.noNew] at hn
  | _=>simp [Rs.dec,V.as]
 have hr5:∀ k k',(Rs.dec n ρ (.tup2 (.mref k) (.mref k'))).isSome=false:=by
  intro k k'
  cases ρ with
  | t2 a b=>cases a <;> simp [Rs.okR,Rs.noNew] at hn <;> simp [Rs.dec,V.as]
  | new=>simp [Rs.okR,Rs.noNew] at hn
  | n2 c=>simp [Rs.okR,Rs.noNew] at hn
  | newm=>simp [Rs.okR,Rs.noNew] at hn
  | n2m=>simp [Rs.okR,Rs.noNew] at hn
  | _=>simp [Rs.dec,V.as]
 have no:∀ {β:Type} {b:Bool} {x:Option β} {r:β},(bif b then none else x)=some r→x=some r:=by
  intro β b x r h
  cases b
  ·exact h
  ·cases h
 unfold gD at h
 split at h
 ·have h:=no h
  simp only [Option.bind_eq_some_iff] at h
  obtain ⟨u,_,h⟩:=h
  obtain ⟨_,h⟩:=ap h
  injection h with h;subst h
  rw [hr] at hd;cases hd
 ·have h:=no h
  simp only [Option.bind_eq_some_iff] at h
  obtain ⟨u,_,h⟩:=h
  obtain ⟨_,h⟩:=ap h
  injection h with h;subst h
  rw [hr2] at hd;cases hd
 ·have h:=no h
  simp only [Option.bind_eq_some_iff] at h
  obtain ⟨u,_,u',_,h⟩:=h
  obtain ⟨_,h⟩:=ap h
  injection h with h;subst h
  rw [hr3] at hd;cases hd
 ·have h:=no h
  simp only [Option.bind_eq_some_iff] at h
  obtain ⟨u,_,h⟩:=h
  obtain ⟨_,h⟩:=ap h
  injection h with h;subst h
  rw [hr4] at hd;cases hd
 ·have h:=no h
  simp only [Option.bind_eq_some_iff] at h
  obtain ⟨u,_,u',_,h⟩:=h
  obtain ⟨_,h⟩:=ap h
  injection h with h;subst h
  rw [hr5] at hd;cases hd
 ·obtain ⟨h1,h2⟩:=ap h
  injection h2 with h2
  exact ⟨h2.symm,by simpa using h1⟩
theorem mW:∀ (n k:Nat) (m:List (Nat × V)) (ts:List Nat) (os:List V),aM G w m ts→fY m k n=some os→os.length=n∧∃ t2,(∀ g,bi g t2≤bi g ts)∧aM G w (cW k os) t2
 | 0,k,m,ts,os,_,h=>by simp only [fY,Option.some.injEq] at h;subst h;exact ⟨rfl,[],fun g=>by simp,rfl⟩
 | n+1,k,m,ts,os,hM,h=>by
  simp only [fY,Option.bind_eq_some_iff,Option.some.injEq] at h
  obtain ⟨v,hv,vs,hvs,rfl⟩:=h
  obtain ⟨t1,t2,cs,e1,e2,e3,e4,e5⟩:=aM.find k m ts v hM hv
  have oth:∀ (n q:Nat),k<q→fY (Pal.rm m k) q n=fY m q n:=by
   intro n
   induction n with
   | zero=>intro q _;rfl
   | succ n ih=>intro q hq;simp only [fY,cm (show k ≠ q by omega),ih (q+1) (by omega)]
  obtain ⟨f1,t3,f2,f3⟩:=mW n (k+1) (Pal.rm m k) t2 vs e5 (by rw [oth n (k+1) (by omega)];exact hvs)
  exact ⟨by simp [f1],t1++t3,fun g=>by have:=e1 g;have:=f2 g;simp;omega,t1,t3,cs,rfl,e2,e3,e4,f3⟩
def sH:ResultVar→Option Nat
 | .tmp t=>some t
 | _=>none
def iZ (a b:ResultVar):Bool:=match sH a,sH b with
 | some x,some y=>!(Nat.beq x y)
 | _,_=>true
def vw:List ResultVar→Bool
 | []=>true
 | [.tmp _]=>true
 | [.cell _ _]=>true
 | [a,b]=>iZ a b
 | [a,b,d]=>iZ a b && (iZ a d && iZ b d)
 | _=>false
theorem j5 {v:V} {cs:List Value} {x:Value} {ts:List Nat} (h:b8 G w v cs ts) (ht:cZ v=false) (hx:if v.agg then x = .agg cs.toArray else cs=[x]):dC v.agg cs x:=by
 unfold dC
 cases hag:v.agg with
 | true=>simp [hag] at hx ⊢;exact hx
 | false =>
  simp [hag] at hx ⊢
  exact ⟨hx,h.plain v cs ts ht x (by simp [hx])⟩
def nt:V→Prop
 | .tup2 a b=>cF a∧cF b
 | .tup3 a b d=>cF a∧cF b∧cF d
 | v=>cF v
theorem oL {n:Nat} {ρ:Rs} {v:V} (h:(Rs.dec n ρ v).isSome=true):cF v:=by
 cases v <;> try trivial
 cases ρ with
 | t2 a b=>cases a <;> simp [Rs.dec] at h
 | _=>simp [Rs.dec,V.as] at h
theorem yI {τ:Ty} {v:V} {x:τ.D} (h:V.as τ v=some x):cF v:=by
 cases v <;> try trivial
 simp [V.as] at h
theorem FA {n:Nat} {ρ:Rs} {v:V} (hn:ρ.okR=true) (h:(Rs.dec n ρ v).isSome=true):nt v:=by
 have h1:=oL h
 cases v <;> try exact h1
 ·rename_i a b
  cases ρ with
  | t2 p q =>
   cases p <;> simp [Rs.okR,Rs.noNew] at hn <;> simp [Rs.dec] at h
   rename_i τ
   rw [Option.isSome_iff_exists] at h
   obtain ⟨z,h⟩:=h
   simp only [Option.bind_eq_some_iff] at h
   obtain ⟨x,hx,y,hy,_⟩:=h
   exact ⟨yI hx,oL (n:=n) (ρ:=q) (by rw [hy];rfl)⟩
  | new=>simp [Rs.okR,Rs.noNew] at hn
  | n2 c=>simp [Rs.okR,Rs.noNew] at hn
  | newm=>simp [Rs.okR,Rs.noNew] at hn
  | n2m=>simp [Rs.okR,Rs.noNew] at hn
  | _=>simp [Rs.dec,V.as] at h
 ·rename_i a b d
  cases ρ with
  | t3 p q r =>
   rw [Option.isSome_iff_exists] at h
   obtain ⟨z,h⟩:=h
   simp only [Rs.dec,Option.bind_eq_some_iff] at h
   obtain ⟨x,hx,y,hy,u,hu,_⟩:=h
   exact ⟨yI hx,yI hy,yI hu⟩
  | t2 p q=>cases p <;> simp [Rs.okR,Rs.noNew] at hn <;> simp [Rs.dec] at h
  | new=>simp [Rs.okR,Rs.noNew] at hn
  | n2 c=>simp [Rs.okR,Rs.noNew] at hn
  | newm=>simp [Rs.okR,Rs.noNew] at hn
  | n2m=>simp [Rs.okR,Rs.noNew] at hn
  | _=>simp [Rs.dec,V.as] at h
def lH (tmps:Array Value):ResultVar→Sem Value
 | .tmp t=>pure (tmps.getD t undef)
 | .cell a t=>do loadVar t (← asAddr (tmps.getD a undef))
def FF (r:ResultVar) (env:List (Nat × V)):List (Nat × V):=match sH r with
 | some t=>Pal.rm env t
 | none=>env
theorem oN {a b:ResultVar} (h:iZ a b=true) (env:List (Nat × V)) (t:Nat) (ht:sH b=some t):lk (FF a env) t=lk env t:=by
 unfold FF
 cases ha:sH a with
 | none=>rfl
 | some x =>
  unfold iZ at h
  rw [ha,ht] at h
  have h:(!(Nat.beq x t))=true:=h
  exact cm (fun e=>by rw [Bool.not_eq_true',Bool.eq_false_iff] at h;exact h (aS.2 e)) env
theorem ll (hT:TT P c) {tmps:Array Value} {v:V} {tE tE' tM:List Nat} {env':List (Nat × V)} (hE:aL G w tmps s.env tE) (hM:aM G w s.mem tM) (hE':aL G w tmps env' tE') {r:ResultVar} (hv:rf c s r=some v)
  (hl:∀ t,sH r=some t→lk env' t=lk s.env t) (hnl:cF v):∃ y t1 t2,(lH tmps r).run P w = .ok y w∧aY G w v y t1∧(∀ g,bi g t1+bi g t2≤bi g tE')∧aL G w tmps (FF r env') t2:=by
 cases r with
 | tmp t =>
  simp only [rf] at hv
  obtain ⟨t1,t2,e1,e2,e3⟩:=aL.find t env' tE' v hE' (by rw [hl t rfl];exact hv) hnl
  exact ⟨tmps.getD t undef,t1,t2,rfl,e2,e1,e3⟩
 | cell x ty =>
  simp only [rf,Option.bind_eq_some_iff] at hv
  obtain ⟨ly,hly,av,hav,h⟩:=hv
  cases av with
  | ref k p =>
   simp only [Option.bind_eq_some_iff] at h
   obtain ⟨u,hu,z,hz,h⟩:=h
   obtain ⟨hb,h⟩:=ap h
   injection h with h;subst h
   simp only [Bool.and_eq_true] at hb
   obtain ⟨t1,t2,_,e2,_⟩:=aL.find x s.env tE _ hE hav trivial
   obtain ⟨hp1,hp2⟩:=e2.ref_
   obtain ⟨t1,t2,cs,_,g1,g2,_,_⟩:=aM.find k s.mem tM u hM hu
   obtain ⟨c1,cu,c2,tu,e1,e2,_,e4⟩:=gC p u z cs t1 g1 hz hp2
   have hcu:fm w (G.ρ k).1 ((G.ρ k).2+cn p) cu:=by
    intro j y hj
    have:=g2 (cn p+j) y (by rw [e1,List.getElem?_append_right (by omega),List.getElem?_append_left (by have:=(List.getElem?_eq_some_iff.1 hj).1;omega)];rw [← hj];congr 1;omega)
    rwa [← Nat.add_assoc] at this
   obtain ⟨y,hy,hyu⟩:=ni (P:=P) hT hly e4 hcu (aS.1 hb.1) (by simpa using hb.2)
   refine ⟨y,[],tE',?_,aY.copy ⟨cu,e4,hyu⟩,fun g=>by simp,hE'⟩
   have hy':(asAddr (tmps.getD x undef) >>= loadVar ty:Sem Value).run P w = .ok y w:=by rw [hp1];exact hy
   exact hy'
  | _=>cases h
theorem vQ {fn:Func} (hT:TT P c) {tmps:Array Value} {v:V} {tE:List Nat} (hok:vw fn.results.toList=true) (hE:aL G w tmps s.env tE) {tM:List Nat} (hM:aM G w s.mem tM) (h:lV c s fn.results.toList=some v) (hnl:nt v) :
  ∃ y ts,(results fn tmps).run P w = .ok y w∧aY G w v y ts∧∀ g,bi g ts≤bi g tE:=by
 obtain ⟨l,hl⟩:∃ l,fn.results=l.toArray:=⟨fn.results.toList,by simp⟩
 rw [hl] at hok h
 simp only [List.toList_toArray] at hok h
 have one:∀ r,l=[r]→∃ y ts,(results fn tmps).run P w = .ok y w∧aY G w v y ts∧∀ g,bi g ts≤bi g tE:=by
  rintro r rfl
  have hnl:cF v:=by cases v <;> first | trivial | exact hnl
  have h:rf c s r=some v:=h
  obtain ⟨y,t1,t2,e1,e2,e3,_⟩:=ll hT hE hM hE h (fun _ _=>rfl) hnl
  refine ⟨y,t1,?_,e2,fun g=>by have:=e3 g;omega⟩
  have hr:(results fn tmps).run P w=(lH tmps r).run P w:=by cases r <;> simp [results,hl,lH]
  rw [hr];exact e1
 match l,hl,hok,h with
 | [],hl,_,h =>
  simp only [lV,Option.some.injEq] at h;subst h
  exact ⟨.tuple #[],[],by simp [results,hl],⟨_,⟨rfl,rfl⟩,rfl⟩,fun g=>by simp⟩
 | [r],hl,_,h=>exact one r rfl
 | [a,b],hl,hok,h =>
  have hok:iZ a b=true:=by cases a <;> exact hok
  simp only [lV,Option.bind_eq_some_iff] at h
  obtain ⟨va,ha,vb,hb,h⟩:=h
  have h:(cZ va || cZ vb)=false∧V.tup2 va vb=v:=by
   cases hc:(cZ va || cZ vb) with
   | false=>rw [hc] at h;injection h with h;exact ⟨rfl,h⟩
   | true=>rw [hc] at h;cases h
  obtain ⟨hc,rfl⟩:=h
  simp only [Bool.or_eq_false_iff] at hc
  obtain ⟨ya,t1,t2,ra,⟨ca,e2,e2'⟩,e1,e3⟩:=ll hT hE hM hE ha (fun _ _=>rfl) hnl.1
  obtain ⟨yb,t3,t4,rb,⟨cb,f2,f2'⟩,f1,_⟩:=ll hT hE hM e3 hb (oN hok s.env) hnl.2
  refine ⟨.tuple #[ya,yb],t1++t3,?_,⟨_,⟨_,_,ca,cb,t1,t3,rfl,rfl,e2,j5 e2 hc.1 e2',f2,j5 f2 hc.2 f2'⟩,rfl⟩,fun g=>by have:=e1 g;have:=f1 g;simp;omega⟩
  have hr:(results fn tmps).run P w=((do let x ← lH tmps a;let y ← lH tmps b;pure (.tuple #[x,y])):Sem Value).run P w:=by
   cases a <;> cases b <;> simp [results,hl,lH]
  rw [hr]
  simp only [Sem.run_bind,ra,rb,Result.andThen_ok,Sem.run_pure]
 | [a,b,d],hl,hok,h =>
  have hok:(iZ a b && (iZ a d && iZ b d))=true:=by cases a <;> exact hok
  simp only [Bool.and_eq_true] at hok
  simp only [lV,Option.bind_eq_some_iff] at h
  obtain ⟨va,ha,vb,hb,vd,hd,h⟩:=h
  have h:(cZ va || cZ vb || cZ vd)=false∧V.tup3 va vb vd=v:=by
   cases hc:(cZ va || cZ vb || cZ vd) with
   | false=>rw [hc] at h;injection h with h;exact ⟨rfl,h⟩
   | true=>rw [hc] at h;cases h
  obtain ⟨hc,rfl⟩:=h
  simp only [Bool.or_eq_false_iff] at hc
  obtain ⟨ya,t1,t2,ra,⟨ca,e2,e2'⟩,e1,e3⟩:=ll hT hE hM hE ha (fun _ _=>rfl) hnl.1
  obtain ⟨yb,t3,t4,rb,⟨cb,f2,f2'⟩,f1,f3⟩:=ll hT hE hM e3 hb (oN hok.1 s.env) hnl.2.1
  obtain ⟨yd,t5,t6,rd',⟨cd,k2,k2'⟩,k1,_⟩:=ll hT hE hM f3 hd (fun t ht=>by rw [oN hok.2.2 _ t ht,oN hok.2.1 _ t ht]) hnl.2.2
  refine ⟨.tuple #[ya,yb,yd],t1++(t3++t5),?_,⟨_,⟨_,_,_,ca,cb,cd,t1,t3,t5,rfl,rfl,e2,j5 e2 hc.1.1 e2',f2,j5 f2 hc.1.2 f2',k2,j5 k2 hc.2 k2'⟩,rfl⟩,fun g=>by have:=e1 g;have:=f1 g;have:=k1 g;simp;omega⟩
  have hr:(results fn tmps).run P w=((do let x ← lH tmps a;let y ← lH tmps b;let z ← lH tmps d;pure (.tuple #[x,y,z])):Sem Value).run P w:=by
   cases a <;> cases b <;> cases d <;> simp [results,hl,lH]
  rw [hr]
  simp only [Sem.run_bind,ra,rb,rd',Result.andThen_ok,Sem.run_pure]
 | _::_::_::_::_,_,hok,_=>simp [vw] at hok

theorem nQ {σ:Sg} {F:σ.In→Option σ.Out} (α:Type) (args objs:List V) (K:V→List V→Option α):(σ.entry F).run α args objs K=((σ.entry F).val args objs).bind fun p=>K p.1 p.2:=by
 unfold Entry.val
 show ((Ar.pull σ.args 0 args).bind fun ds=>_)=(Option.bind ((Ar.pull σ.args 0 args).bind fun ds=>_) _)
 refine aA fun ds=>aA fun x=>?_
 cases F x <;> rfl
theorem nR {σ:Sg} {F:σ.In→Option σ.Out} {args objs os:List V} {v:V} (h:(σ.entry F).val args objs=some (v,os)) :
  ∃ ds x r,Ar.pull σ.args 0 args=some ds∧Dl.dec (dz σ.args++σ.objs) (ds++objs)=some x∧F x=some r∧v=gX σ.res σ.objs.length σ.outs r∧os=fi σ.res σ.outs r:=by
 unfold Entry.val at h
 change ((Ar.pull σ.args 0 args).bind fun ds=>(Dl.dec (dz σ.args++σ.objs) (ds++objs)).bind fun x=>bnd (F x) fun r=>some (gX σ.res σ.objs.length σ.outs r,fi σ.res σ.outs r))=_ at h
 rw [Option.bind_eq_some_iff] at h
 obtain ⟨ds,h1,h⟩:=h
 rw [Option.bind_eq_some_iff] at h
 obtain ⟨x,h2,h⟩:=h
 cases hF:F x with
 | none=>rw [hF] at h;cases h
 | some r =>
  rw [hF] at h
  simp only [bnd,Option.some.injEq,Prod.mk.injEq] at h
  exact ⟨ds,x,r,h1,h2,hF,h.1.symm,h.2.symm⟩
theorem xd {ρ:Rs} {n:Nat}:∀ {ts:List Ty} {v:V} {os:List V} {r:Ct ρ ts},pg ρ n ts v os=some r→∃ x,Rs.dec n ρ v=some x∧gX ρ n ts r=ρ.enc n x∧wQ ts os (fi ρ ts r)
 | [],v,[],r,h=>⟨r,h,rfl,rfl,rfl⟩
 | [],v,_::_,r,h=>by simp [pg] at h
 | τ::q,v,os,r,h=>by
  simp only [pg,Option.bind_eq_some_iff] at h
  obtain ⟨x,hx,y,hy,h⟩:=h
  injection h with h;subst h
  exact ⟨x,hx,rfl,mP _ _ _ hy⟩
theorem DI {n:Nat} {ρ:Rs} {v:V} {x:ρ.D} {y:Value} {ts:List Nat} (hok:ρ.okR=true) (hz:Rs.dec n ρ v=some x) (hW:Wf G w) (hnew:∀ g,0<bi g ts→w0.heap.size≤g∨∀ o,G0.I g o=none) (hW0:Wf G0 w0) (hE:Ev X G0 w0 G w) (hT:aY G w v y ts) :
  ∃ G' ts',Ev X G0 w0 G' w∧Wf G' w∧G'.ρ=G.ρ∧(∀ g,bi g ts'≤bi g ts)∧aY G' w (ρ.enc n x) y ts'∧(ρ.noNew=true→G'=G):=by
 by_cases hn:ρ.noNew=true
 ·obtain ⟨cs,m2,m3⟩:=hT
  obtain ⟨n1,ts',n2,n3⟩:=oP n ρ v x cs ts hn hz m2
  exact ⟨G,ts',hE,hW,rfl,n2,⟨cs,n3,by rw [n1];exact m3⟩,fun _=>rfl⟩
 ·cases ρ with
  | raw e =>
   cases v <;> simp only [Rs.dec,reduceCtorEq] at hz
   ·split at hz
    ·rename_i e1;subst e1
     obtain ⟨hf,hz⟩:=ap hz
     injection hz with hz;subst hz
     obtain ⟨G',g1,g2,g3,g4⟩:=GN hf hW hnew hW0 hE hT
     exact ⟨G',ts,g1,g2,g3,fun _=>Nat.le_refl _,g4,fun h=>absurd h hn⟩
    ·cases hz
   ·split at hz
    ·rename_i e1;subst e1
     injection hz with hz;subst hz
     exact ⟨G,ts,hE,hW,rfl,fun _=>Nat.le_refl _,hT,fun h=>absurd h hn⟩
    ·cases hz
  | _=>exact absurd hok hn
def Gh.named (G:Gh) (k q:Nat):Gh:={ I:=G.I,O:=fun b o=>if G.O b o=some k then some q else G.O b o,ρ:=fun x=>if x=q then G.ρ k else G.ρ x }
theorem pm {k q:Nat} (h:Ev X G0 w0 G w) (hk:∀ b o,b<w0.heap.size→G.O b o ≠ some k):Ev X G0 w0 (G.named k q) w :=
 ⟨h.evo,h.le,h.grow,fun b o hb=>by
  show (if G.O b o=some k then some q else G.O b o)=_
  rw [if_neg (hk b o hb)];exact h.own b o hb⟩
theorem fy {k q b o:Nat} (h:G.O b o=none):(G.named k q).O b o=none:=by
 show (if G.O b o=some k then some q else G.O b o)=none
 rw [h];simp
theorem pk {k q:Nat} (hq:1000000≤q) (h:Wf G w):Wf (G.named k q) w :=
 ⟨h.holds,fun b o v hv=>fy (h.io b o v hv),fun b o x hx=>by
  have hx:(if G.O b o=some k then some q else G.O b o)=some x:=hx
  split at hx
  ·rename_i e;exact h.lt b o k e
  ·exact h.lt b o x hx,fun b o x hx hlt p=>by
  have hx:(if G.O b o=some k then some q else G.O b o)=some x:=hx
  by_cases e:G.O b o=some k
  ·rw [if_pos e] at hx;injection hx with hx;omega
  ·rw [if_neg e] at hx
   have hp:=h.whole b o x hx hlt p
   show (if G.O b p=some k then some q else G.O b p)=some x
   rw [hp,if_neg (fun e'=>e (hx.trans e'))]⟩
theorem named_ρ {k q x:Nat} (h:x ≠ q):(G.named k q).ρ x=G.ρ x:=by
 show (if x=q then G.ρ k else G.ρ x)=_
 rw [if_neg h]
theorem lv {k n:Nat} (hk:k<1000000):∀ (us:List V) (j:Nat) (ts:List Nat),(∀ u ∈ us,u.refs=[])→j+us.length≤n→(∀ g ∈ ts,∀ o,G.O g o=none)→aM G w (cW (1000000+j) us) ts→aM (G.named k (1000000+n)) w (cW (1000000+j) us) ts
 | [],_,_,_,_,_,h=>h
 | u::us,j,ts,hr,hl,hO,⟨t1,t2,cs,e,h1,h2,h3,h4⟩=>by
  simp only [List.length_cons] at hl
  subst e
  have hρ:(G.named k (1000000+n)).ρ (1000000+j)=G.ρ (1000000+j):=named_ρ (by omega)
  refine ⟨t1,t2,cs,rfl,b8.swap (G:=G) (G':=G.named k (1000000+n)) (fun _ _=>rfl) u cs t1 (hr u (by simp)) (fun g hg o=>fy (hO g (by simp [hg]) o)) h1,by rw [hρ];exact h2,⟨fun i hi=>?_,bH.swap (G:=G) (G':=G.named k (1000000+n)) (k:=1000000+j) (fun _ _=>rfl) hρ (fun ho=>by
   show (if _=some k then some (1000000+n) else _)=_
   rw [ho,if_neg (by intro e;injection e with e;omega)]) h3.2⟩,lv hk us (j+1) t2 (fun v hv=>hr v (by simp [hv])) (by omega) (fun g hg=>hO g (by simp [hg])) h4⟩
  rw [hρ]
  obtain ⟨g1,g2⟩:=h3.1 i hi
  refine ⟨?_,g2⟩
  show (if _=some k then some (1000000+n) else _)=_
  rw [g1,if_neg (by intro e;injection e with e;omega)]
def Rs.isNew:Rs→Bool
 | .new=>true
 | .newm=>true
 | .t2 .new b=>b.noNew
 | _=>false
def EY (σ:Sg):Bool:=σ.res.isNew && Nat.beq σ.outs.length (σ.objs.length+1) && (match σ.outs.drop σ.objs.length with | [τ]=>qI τ | _=>false)
def Rs.isN2:Rs→Bool
 | .n2 c=>c.noNew
 | .n2m=>true
 | _=>false
def C0 (σ:Sg):Bool:=σ.res.isN2 && Nat.beq σ.outs.length (σ.objs.length+2) && (match σ.outs.drop σ.objs.length with | [τ,τ']=>qI τ && qI τ' | _=>false)
def F6 (σ:Sg):Bool:=(σ.res.okR && (σ.res.noNew || σ.outs.isEmpty)) || EY σ
def zN (σ:Sg):Bool:=F6 σ || C0 σ
theorem w6 (n:Nat):∀ (b:Rs) (z:b.D),b.noNew=true→(b.enc n z).refs=[]:=by
 intro b
 induction b with
 | t2 p q ihp ihq =>
  intro z hb
  cases p with
  | dat τ' =>
   simp only [Rs.noNew,Bool.true_and] at hb
   show V.refs (.dat τ' z.1)++V.refs (q.enc n z.2)=[]
   rw [ihq z.2 hb];rfl
  | new=>simp [Rs.noNew] at hb
  | n2 _=>simp [Rs.noNew] at hb
  | newm=>simp [Rs.noNew] at hb
  | n2m=>simp [Rs.noNew] at hb
  | _=>rfl
 | new=>intro z hb;simp [Rs.noNew] at hb
 | n2 _=>intro z hb;simp [Rs.noNew] at hb
 | newm=>intro z hb;simp [Rs.noNew] at hb
 | n2m=>intro z hb;simp [Rs.noNew] at hb
 | raw e=>intro z hb;simp [Rs.noNew] at hb
 | _=>intro z hb;rfl
theorem wZ {m:List (Nat × V)} {n:Nat} {v:V} {os:List V} {p:V × List V} {ρ:Rs} (hn:ρ.isN2=true) (h:gD m n v os=some p) (hd:(Rs.dec n ρ p.1).isSome=true) :
  ∃ k k' u u',k<700000∧k'<700000∧k ≠ k'∧lk m k=some u∧lk m k'=some u'∧p.2=os++[u,u'] ∧
   ((∃ b vb,v = .tup3 (.ref k []) (.ref k' []) vb∧ρ = .n2 b∧b.noNew=true∧p.1 = .tup3 (.ref (1000000+n) []) (.ref (1000000+(n+1)) []) vb∧vb.refs=[])∨(v = .tup2 (.mref k) (.mref k')∧ρ = .n2m)):=by
 have no:∀ {β:Type} {b:Bool} {x:Option β} {r:β},(bif b then none else x)=some r→b=false∧x=some r:=by
  intro β b x r h
  cases b
  ·exact ⟨rfl,h⟩
  ·cases h
 have lt:∀ k,Nat.ble 700000 k=false→k<700000:=fun k hq=>Nat.lt_of_not_le fun hle=>by rw [Nat.ble_eq_true_of_le hle] at hq;cases hq
 have two:∀ v:V,v.refs=[]→(Rs.dec n ρ v).isSome=true→False:=by
  intro v hr hd
  cases ρ with
  | n2 c =>
   cases v <;> try (simp only [Rs.dec] at hd;cases hd;done)
   all_goals (rename_i a b d;cases a <;> try (simp only [Rs.dec] at hd;cases hd;done))
   all_goals (simp [V.refs] at hr)
  | n2m =>
   cases v <;> try (simp only [Rs.dec] at hd;cases hd;done)
   all_goals (rename_i a b;cases a <;> try (simp only [Rs.dec] at hd;cases hd;done))
   all_goals (simp [V.refs] at hr)
  | _=>simp [Rs.isN2] at hn
 unfold gD at h
 split at h
 ·obtain ⟨_,h⟩:=no h
  simp only [Option.bind_eq_some_iff] at h
  obtain ⟨u,hu,h⟩:=h
  obtain ⟨_,h⟩:=ap h
  injection h with h;subst h
  cases ρ <;> simp [Rs.isN2] at hn <;> simp [Rs.dec] at hd
 ·obtain ⟨_,h⟩:=no h
  simp only [Option.bind_eq_some_iff] at h
  obtain ⟨u,hu,h⟩:=h
  obtain ⟨_,h⟩:=ap h
  injection h with h;subst h
  cases ρ <;> simp [Rs.isN2] at hn <;> simp [Rs.dec] at hd
 ·rename_i k k' vb
  obtain ⟨hb,h⟩:=no h
  simp only [Option.bind_eq_some_iff] at h
  obtain ⟨u,hu,u',hu',h⟩:=h
  obtain ⟨_,h⟩:=ap h
  injection h with h;subst h
  simp only [Bool.or_eq_false_iff,Bool.not_eq_false',List.isEmpty_iff] at hb
  refine ⟨k,k',u,u',lt k hb.1.1.1,lt k' hb.1.1.2,(fun e:k=k'=>by have:=hb.1.2;rw [aS.2 e] at this;cases this),hu,hu',rfl,.inl ?_⟩
  cases ρ with
  | n2 c=>exact ⟨c,vb,rfl,rfl,hn,rfl,hb.2⟩
  | n2m=>simp [Rs.dec] at hd
  | _=>simp [Rs.isN2] at hn
 ·obtain ⟨_,h⟩:=no h
  simp only [Option.bind_eq_some_iff] at h
  obtain ⟨u,hu,h⟩:=h
  obtain ⟨_,h⟩:=ap h
  injection h with h;subst h
  cases ρ <;> simp [Rs.isN2] at hn <;> simp [Rs.dec] at hd
 ·rename_i k k'
  obtain ⟨hb,h⟩:=no h
  simp only [Option.bind_eq_some_iff] at h
  obtain ⟨u,hu,u',hu',h⟩:=h
  obtain ⟨_,h⟩:=ap h
  injection h with h;subst h
  simp only [Bool.or_eq_false_iff] at hb
  refine ⟨k,k',u,u',lt k hb.1.1,lt k' hb.1.2,(fun e:k=k'=>by have:=hb.2;rw [aS.2 e] at this;cases this),hu,hu',rfl,.inr ⟨rfl,?_⟩⟩
  cases ρ with
  | n2 c=>simp [Rs.dec] at hd
  | n2m=>rfl
  | _=>simp [Rs.isN2] at hn
 ·obtain ⟨hr,h⟩:=ap h
  injection h with h;subst h
  exact (two v (by simpa using hr) hd).elim
theorem mN:∀ (ts:List Ty) (vs us:List V),wQ ts vs us→∀ u ∈ us,u.refs=[]
 | [],_,_,⟨_,h⟩,u,hu=>by subst h;cases hu
 | τ::r,_,_,⟨v,vs,y,us,_,e,_,h⟩,u,hu=>by
  subst e
  rcases List.mem_cons.1 hu with rfl | hu
  ·exact j9 τ y
  ·exact mN r vs us h u hu
theorem Ak {m:List (Nat × V)} {n:Nat} {v:V} {os:List V} {p:V × List V} {ρ:Rs} (hn:ρ.isNew=true) (h:gD m n v os=some p) (hd:(Rs.dec n ρ p.1).isSome=true) :
  ∃ k u,k<700000∧lk m k=some u∧p.2=os++[u]∧(((v = .ref k []∧ρ = .new)∨(v = .mref k∧ρ = .newm))∨∃ b vb,v = .tup2 (.ref k []) vb∧ρ = .t2 .new b∧b.noNew=true∧p.1 = .tup2 (.ref (1000000+n) []) vb∧vb.refs=[]):=by
 have no:∀ {β:Type} {b:Bool} {x:Option β} {r:β},(bif b then none else x)=some r→b=false∧x=some r:=by
  intro β b x r h
  cases b
  ·exact ⟨rfl,h⟩
  ·cases h
 unfold gD at h
 split at h
 ·rename_i k
  obtain ⟨hb,h⟩:=no h
  simp only [Option.bind_eq_some_iff] at h
  obtain ⟨u,hu,h⟩:=h
  obtain ⟨_,h⟩:=ap h
  injection h with h;subst h
  have hk:k<700000:=by
   cases hq:Nat.ble 700000 k with
   | true=>rw [hq] at hb;cases hb
   | false=>exact Nat.lt_of_not_le fun hle=>by rw [Nat.ble_eq_true_of_le hle] at hq;cases hq
  refine ⟨k,u,hk,hu,rfl,.inl (.inl ⟨rfl,?_⟩)⟩
  cases ρ with
  | new=>rfl
  | newm=>simp [Rs.dec] at hd
  | t2 a b=>cases a <;> simp [Rs.isNew] at hn <;> simp [Rs.dec] at hd
  | _=>simp [Rs.isNew] at hn
 ·rename_i k vb
  obtain ⟨hb,h⟩:=no h
  simp only [Option.bind_eq_some_iff] at h
  obtain ⟨u,hu,h⟩:=h
  obtain ⟨_,h⟩:=ap h
  injection h with h;subst h
  simp only [Bool.or_eq_false_iff,Bool.not_eq_false',List.isEmpty_iff] at hb
  have hk:k<700000:=by
   have hq:=hb.1
   exact Nat.lt_of_not_le fun hle=>by rw [Nat.ble_eq_true_of_le hle] at hq;cases hq
  refine ⟨k,u,hk,hu,rfl,.inr ?_⟩
  cases ρ with
  | new=>simp [Rs.dec] at hd
  | newm=>simp [Rs.dec] at hd
  | t2 a b =>
   cases a with
   | new=>exact ⟨b,vb,rfl,rfl,hn,rfl,hb.2⟩
   | _=>simp [Rs.isNew] at hn
  | _=>simp [Rs.isNew] at hn
 ·obtain ⟨_,h⟩:=no h
  simp only [Option.bind_eq_some_iff] at h
  obtain ⟨u,hu,u',hu',h⟩:=h
  obtain ⟨_,h⟩:=ap h
  injection h with h;subst h
  exfalso
  cases ρ with
  | new=>simp [Rs.dec] at hd
  | newm=>simp [Rs.dec] at hd
  | t2 a b =>
   cases a with
   | new=>simp [Rs.dec] at hd
   | _=>simp [Rs.isNew] at hn
  | _=>simp [Rs.isNew] at hn
 ·rename_i k
  obtain ⟨hb,h⟩:=no h
  simp only [Option.bind_eq_some_iff] at h
  obtain ⟨u,hu,h⟩:=h
  obtain ⟨_,h⟩:=ap h
  injection h with h;subst h
  have hk:k<700000:=Nat.lt_of_not_le fun hle=>by rw [Nat.ble_eq_true_of_le hle] at hb;cases hb
  refine ⟨k,u,hk,hu,rfl,.inl (.inr ⟨rfl,?_⟩)⟩
  cases ρ with
  | new=>simp [Rs.dec] at hd
  | newm=>rfl
  | t2 a b=>cases a <;> simp [Rs.isNew] at hn <;> simp [Rs.dec] at hd
  | _=>simp [Rs.isNew] at hn
 ·obtain ⟨_,h⟩:=no h
  simp only [Option.bind_eq_some_iff] at h
  obtain ⟨u,hu,u',hu',h⟩:=h
  obtain ⟨_,h⟩:=ap h
  injection h with h;subst h
  exfalso
  cases ρ with
  | new=>simp [Rs.dec] at hd
  | newm=>simp [Rs.dec] at hd
  | t2 a b =>
   cases a with
   | new=>simp [Rs.dec] at hd
   | _=>simp [Rs.isNew] at hn
  | _=>simp [Rs.isNew] at hn
 ·obtain ⟨hr,h⟩:=ap h
  injection h with h;subst h
  exfalso
  have hr:v.refs=[]:=by simpa using hr
  cases ρ with
  | new =>
   cases v <;> simp only [Rs.dec] at hd <;> first | (cases hd;done) | (simp [V.refs] at hr)
  | newm =>
   cases v <;> simp only [Rs.dec] at hd <;> first | (cases hd;done) | (simp [V.refs] at hr)
  | t2 a b =>
   cases a with
   | new =>
    cases v <;> simp only [Rs.dec] at hd <;> first | (cases hd;done) | (rename_i x y;cases x <;> simp only at hd <;> first | (cases hd;done) | (simp [V.refs] at hr;done))
   | _=>simp [Rs.isNew] at hn
  | _=>simp [Rs.isNew] at hn
def Gh.reset (G:Gh) (h:Nat) (G':Gh):Gh:={ I:=G'.I,O:=fun b o=>if b<h then G.O b o else G'.O b o,ρ:=G'.ρ }
structure Shut (X:Nat→Nat→Prop) (G:Gh) (w:World) (G':Gh) (w':World):Prop where
 ev:Ev X G w G' w'
 wf:Wf G' w'
 par:∀ j,G'.ρ (1000000+j)=G.ρ (1000000+j)
theorem jx (hB:Base X G0 w0 G w) {b o:Nat} (h:G.O b o=none):(G0.reset w0.heap.size G).O b o=none:=by
 show (if b<w0.heap.size then G0.O b o else G.O b o)=none
 by_cases hb:b<w0.heap.size
 ·rw [if_pos hb]
  rcases hB.ev.own b o hb with e | ⟨_,_,e,_⟩
  ·rw [← e];exact h
  ·rw [h] at e;cases e
 ·rw [if_neg hb];exact h
theorem yw (hB:Base X G0 w0 G w) {b o k:Nat} (hk:k<700000∨1000000≤k) (h:G.O b o=some k):(G0.reset w0.heap.size G).O b o=some k:=by
 show (if b<w0.heap.size then G0.O b o else G.O b o)=some k
 by_cases hb:b<w0.heap.size
 ·rw [if_pos hb]
  rcases hB.ev.own b o hb with e | ⟨d,hd,e,_⟩
  ·rw [← e];exact h
  ·rw [h] at e;injection e with e;omega
 ·rw [if_neg hb];exact h
theorem xH (hB:Base X G0 w0 G w) (hW0:Wf G0 w0):Shut X G0 w0 (G0.reset w0.heap.size G) w:=by
 refine ⟨⟨hB.ev.evo,hB.ev.le,hB.ev.grow,fun b o hb=>if_pos hb⟩,⟨hB.wf.holds,fun b o v hv=>jx hB (hB.wf.io b o v hv),fun b o k hk=>?_,fun b o k hk hlt q=>?_⟩,hB.par⟩
 ·have hk:(if b<w0.heap.size then G0.O b o else G.O b o)=some k:=hk
  by_cases hb:b<w0.heap.size
  ·exact Nat.lt_of_lt_of_le hb hB.ev.evo.size
  ·rw [if_neg hb] at hk;exact hB.wf.lt b o k hk
 ·have hk:(if b<w0.heap.size then G0.O b o else G.O b o)=some k:=hk
  by_cases hb:b<w0.heap.size
  ·rw [if_pos hb] at hk
   have:=hB.nm b o k hk
   omega
  ·rw [if_neg hb] at hk
   show (if b<w0.heap.size then G0.O b q else G.O b q)=some k
   rw [if_neg hb];exact hB.wf.whole b o k hk hlt q
def o6 (k:Nat):Bool:=Nat.blt k 700000 || Nat.ble 1000000 k
theorem xQ {k:Nat} (h:o6 k=true):k<700000∨1000000≤k:=by
 unfold o6 at h
 rw [Bool.or_eq_true] at h
 exact h.imp Nat.le_of_ble_eq_true Nat.le_of_ble_eq_true
theorem Cr {k:Nat} (h:k<700000∨1000000≤k):o6 k=true:=by
 unfold o6
 rw [Bool.or_eq_true]
 exact h.imp Nat.ble_eq_true_of_le Nat.ble_eq_true_of_le
def uT (m:List (Nat × V)):List (Nat × V):=m.filter fun x=>o6 x.1
theorem oX {k:Nat} (hk:o6 k=true):∀ m:List (Nat × V),lk (uT m) k=lk m k
 | []=>rfl
 | (q,v)::r=>by
  show lk (List.filter _ _) k=_
  rw [List.filter_cons]
  by_cases hq:o6 q=true
  ·rw [if_pos hq,bR,bR,show lk (List.filter _ r) k=lk r k from oX hk r]
  ·rw [if_neg hq,bR,if_neg (by intro e;subst e;exact hq hk)];exact oX hk r
theorem sG:∀ (m:List (Nat × V)) (ts:List Nat),aM G w m ts→∃ ts',(∀ g,bi g ts'≤bi g ts)∧aM G w (uT m) ts'
 | [],ts,h=>⟨ts,fun _=>Nat.le_refl _,h⟩
 | (q,v)::r,ts,⟨t1,t2,cs,e,h1,h2,h3,h4⟩=>by
  obtain ⟨t',k1,k2⟩:=sG r t2 h4
  show ∃ ts',_∧aM G w (List.filter _ _) ts'
  rw [List.filter_cons]
  subst e
  split
  ·exact ⟨t1++t',fun g=>by have:=k1 g;simp;omega,t1,t',cs,rfl,h1,h2,h3,k2⟩
  ·exact ⟨t',fun g=>by have:=k1 g;simp;omega,k2⟩
theorem wS (m:List (Nat × V)):∀ k ∈ cR (uT m),o6 k=true:=by
 intro k hk
 simp only [cR,uT,List.mem_map,List.mem_filter] at hk
 obtain ⟨x,⟨_,h⟩,rfl⟩:=hk
 exact h
theorem jb {m m':List (Nat × V)}:∀ (n k:Nat),(∀ q,k≤q→lk m' q=lk m q)→fY m' k n=fY m k n
 | 0,_,_=>rfl
 | n+1,k,h=>by
  simp only [fY,h k (Nat.le_refl _),jb n (k+1) fun q hq=>h q (by omega)]
theorem nE {m:List (Nat × V)} {d n k:Nat} (h:d<k):fY (Pal.rm m d) k n=fY m k n:=jb n k fun q hq=>cm (by omega) m
theorem D1 {f : FuncId} {fn : Func} {code : Code} {σ : Sg} {F : σ.In → Option σ.Out} (hT : TT P c)
    (hf : P.funcs[f]? = some fn) (hb : fn.body = some code) (hnm : (fn.name == "runtime.NumGoroutine") = false) (hargs : Nat.ble σ.args.length fn.ntmps = true) (hres : vw fn.results.toList = true) (hnew : zN σ = true)
    (hwp : ∀ (x : σ.In) (r : σ.Out), F x = some r → ∀ (X : Nat → Nat → Prop) (G : Gh) (w : World) (tmps : Array Value) (Q : Exit → Act → World → Prop),
      RS X G w G (FR (Ar.lay σ.args 0 ((Dl.enc (dz σ.args++σ.objs) x).take (dz σ.args).length)) ((Dl.enc (dz σ.args++σ.objs) x).drop (dz σ.args).length)) tmps w→tmps.size=fn.ntmps →
      yl X G w fn.ntmps [] (σ.K c fn.results.toList) r Q→code.wp P Q { tmps:=tmps,defers:=[] } w):CallOK P f (σ.entry F):=by
  refine ⟨fun α args objs K=>nQ α args objs K,fun args objs vr os hval X G w argv tA tM hW hTab hX hA hM hcnt htok=>?_⟩
  obtain ⟨ds,x,r,h1,h2,h3,rfl,rfl⟩:=nR hval
  obtain ⟨hl1,hl2⟩:=eK _ _ _ _ h1
  obtain ⟨hs1,hs2⟩:=(mP _ _ _ h2).split hl1
  have hobj:objs.length=σ.objs.length:=hs2.lengths.1
  have hargv : argv.length = args.length := by
    have : ∀ (args : List V) (argv : List Value) (ts : List Nat), cK G w args argv ts → argv.length = args.length := by
      intro args
      induction args with
      | nil=>intro argv ts h;simp [h.1]
      | cons v vs ih=>intro argv ts ⟨x,xs,t1,t2,e1,_,_,h2⟩;simp [e1,ih xs t2 h2]
    exact this args argv tA hA
  refine .inl ⟨?_,?_⟩
  · unfold callFunc
    have hnm' : ¬ fn.name = "runtime.NumGoroutine" := by simpa using hnm
    simp [hf,hnm',hb]
  · have hlen:args.length≤fn.ntmps:=by have:=Nat.le_of_ble_eq_true hargs;omega
    refine calls_of_wp hf hb ?_
    obtain ⟨tA',hkA,hA'⟩:=jF _ _ _ _ _ _ _ h1 hs1 hA
    obtain ⟨tM',hkM,hM'⟩:=mA (G:=G) (w:=w) _ _ _ 1000000 tM hs2 hM
    let X0:Nat→Nat→Prop:=fun b o=>G.O b o ≠ none∨0<bi b tA'+bi b tM'
    have hX0 : ∀ b o, X0 b o → X b o := fun b o h => by
      rcases h with h | h
      · cases hk:G.O b o with
        | none=>exact absurd hk h
        | some k=>exact (hX b o k hk).1
      · exact htok b (by have:=hkA.1 b;have:=hkM.1 b;omega) o
    have hold : ∀ g, (∀ o, G.O g o = none) → (∀ o, X0 g o) → ∀ o, G.I g o = none := fun g hO hx => by
      rcases hx 0 with h | h
      · exact absurd (hO 0) h
      · rcases Nat.eq_zero_or_pos (bi g tA') with h0 | h0
        · exact hkM.2 g (bb.2 (by omega))
        · exact hkA.2 g (bb.2 h0)
    have hB:Base X0 G w G w:=⟨⟨Evo.refl _ w,Im.le_refl _,fun _ _ _ h=>.inl h,fun _ _ _=>.inl rfl⟩,hW,fun _=>rfl,fun b o k _ hk=>.inl (by rw [hk];simp),hTab,fun b o k hk=>(hX b o k hk).2⟩
    have hE : aL G w (argv.toArray ++ Array.replicate (fn.ntmps - argv.toArray.size) undef) (cW 0 (Ar.lay σ.args 0 ((Dl.enc (dz σ.args ++ σ.objs) x).take (dz σ.args).length))) tA' := by
      refine wG _ argv 0 tA' hA' fun i v hv=>?_
      have hi:=(List.getElem?_eq_some_iff.1 hv).1
      rw [Nat.zero_add,Array.getD_eq_getD_getElem?,Array.getElem?_append_left (by simpa using hi)]
      simp [hv]
    have hR : RS X0 G w G (FR (Ar.lay σ.args 0 ((Dl.enc (dz σ.args ++ σ.objs) x).take (dz σ.args).length)) ((Dl.enc (dz σ.args ++ σ.objs) x).drop (dz σ.args).length)) (argv.toArray ++ Array.replicate (fn.ntmps - argv.toArray.size) undef) w :=
      ⟨hB,tA',tM',hE,hM',fun g=>by have:=hcnt g;have:=hkA.1 g;have:=hkM.1 g;omega,fun g hg=>.inr fun o=>.inr hg⟩
    refine hwp x r h3 X0 G w _ _ hR (by simp;omega) ?_
    intro e a' w' G' s' g1 g2 g3 g4
    obtain ⟨hB0,tE,tM0,k10,k20,k30,k40⟩:=g1
    obtain ⟨G', hB', k1, mR, tMm, hlk, k2, k3, k4, resR⟩ : ∃ G1, Shut X0 G w G1 w' ∧ aL G1 w' a'.tmps s'.env tE ∧ ∃ mR tMm, (∀ k, (k < 700000 ∨ 1000000 ≤ k) → lk mR k = lk s'.mem k) ∧ aM G1 w' mR tMm ∧ (∀ g, bi g tE + bi g tMm ≤ 1) ∧
        (∀ g,0<bi g tE+bi g tMm→w.heap.size≤g∨∀ o,X0 g o)∧∀ v,lV c s' fn.results.toList=some v→nt v→∃ y ts,(results fn a'.tmps).run P w' = .ok y w'∧aY G1 w' v y ts∧∀ g,bi g ts≤bi g tE:=by
      obtain ⟨tMm,hcm,hmm⟩:=sG s'.mem tM0 k20
      refine ⟨G.reset w.heap.size G', xH hB0 hW, aL.re (G := G') (G' := G.reset w.heap.size G') (fun _ _ => rfl) _ tE (fun _ _ => rfl) (fun g hg o => jx hB0 ((aL.owned _ tE k10 g (bb.1 hg)).2 o)) k10, uT s'.mem, tMm, fun k hk => oX (Cr hk) s'.mem,
        aM.re (G:=G') (G':=G.reset w.heap.size G') (fun _ _=>rfl) _ tMm (fun _ _=>rfl) (fun _ _=>rfl) (fun g hg o=>jx hB0 ((aM.owned _ tMm hmm g (bb.1 hg)).2 o)) (fun k hk b o ho=>yw hB0 (xQ (wS s'.mem k hk)) ho) hmm,fun g=>by have:=k30 g;have:=hcm g;omega,fun g hg=>k40 g (by have:=hcm g;omega),fun v hv hnl=>?_⟩
      obtain ⟨y,ts,m1,⟨cs,m2,m3⟩,m4⟩:=vQ (P:=P) (s:=s') hT hres k10 k20 hv hnl
      exact ⟨y,ts,m1,⟨cs,b8.re (G:=G') (G':=G.reset w.heap.size G') (fun _ _=>rfl) v cs ts (fun _ _=>rfl) (fun g hg o=>jx hB0 ((m2.owned v cs ts g hg).2 o)) m2,m3⟩,m4⟩
    clear hB0 k10 k20 k30 k40 tM0
    have fresh:∀ g,0<bi g tE+bi g tMm→w.heap.size≤g∨∀ o,X g o:=fun g hg=>(k4 g hg).imp id fun h o=>hX0 g o (h o)
    have hmain : ∃ y, (results fn a'.tmps).run P w' = .ok y w' ∧ ∃ G', uo X G w objs.length (gX σ.res σ.objs.length σ.outs r) (fi σ.res σ.outs r) y argv.head? G' w' := by
      have g4' : ((lV c s' fn.results.toList).bind fun v => (fY s'.mem 1000000 σ.objs.length).bind fun os => (gD s'.mem σ.objs.length v os).bind fun p => pg σ.res σ.objs.length σ.outs p.1 p.2) = some r := by
        cases e with
        | exit i=>cases g4
        | normal=>exact g4
        | ret=>exact g4
      simp only [Option.bind_eq_some_iff] at g4'
      obtain ⟨v,hv,os,hos,p,hp,hd⟩:=g4'
      obtain ⟨z,hz,hz1,hz2⟩:=xd hd
      unfold zN at hnew
      rw [Bool.or_eq_true] at hnew
      rcases hnew with hnew | hnew
      case inr =>
        simp only [C0,Bool.and_eq_true] at hnew
        obtain ⟨⟨hn1,hn2⟩,hn3⟩:=hnew
        have hn2:=Nat.eq_of_beq_eq_true hn2
        obtain ⟨τ, τ', hτ, hτc, hτc'⟩ : ∃ τ τ', σ.outs.drop σ.objs.length = [τ, τ'] ∧ qI τ = true ∧ qI τ' = true := by
          split at hn3
          · rename_i τ τ' e
            simp only [Bool.and_eq_true] at hn3
            exact ⟨τ,τ',e,hn3.1,hn3.2⟩
          · cases hn3
        obtain ⟨k,k',u,u',hk,hk',hkk,hu,hu',hp2,hcase⟩:=wZ hn1 hp (by rw [hz];rfl)
        have hnl : nt v := by
          rcases hcase with ⟨b,vb,rfl,hρs,hbn,hp1,hvr⟩ | ⟨rfl,_⟩
          · refine ⟨trivial,trivial,?_⟩
            have hzs:(Rs.dec σ.objs.length σ.res p.1).isSome=true:=by rw [hz];rfl
            rw [hρs,hp1] at hzs
            simp only [Rs.dec] at hzs
            refine oL (n:=σ.objs.length) (ρ:=b) ?_
            cases hq:(Nat.beq (1000000+σ.objs.length) (1000000+σ.objs.length) && Nat.beq (1000000+(σ.objs.length+1)) (1000000+(σ.objs.length+1))) with
            | true=>rw [hq] at hzs;exact hzs
            | false=>rw [hq] at hzs;cases hzs
          · exact ⟨trivial,trivial⟩
        obtain ⟨y,ts,m1,m2,m4⟩:=resR v hv hnl
        obtain ⟨u1,u2,ucs,w1,v1,v2,v3,v4⟩:=aM.find k mR tMm u k2 (by rw [hlk k (.inl hk)];exact hu)
        obtain ⟨u1',u2',ucs',w1',v1',v2',v3',v4'⟩:=aM.find k' (Pal.rm mR k) u2 u' v4 (by rw [cm hkk,hlk k' (.inl hk')];exact hu')
        obtain ⟨q1,t2,q2,q3⟩:=mW σ.objs.length 1000000 _ _ os v4' (by rw [nE (by omega),nE (by omega),jb _ _ fun q hq=>hlk q (.inr hq)];exact hos)
        have hOk : ∀ k, k < 700000 → ∀ b o, b < w.heap.size → G'.O b o ≠ some k := fun k hk b o hb h => by
          rw [hB'.ev.own b o hb] at h
          have:=(hX b o k h).2;omega
        obtain ⟨EO,hEO⟩:∃ l,l=fi σ.res σ.outs r:=⟨_,rfl⟩
        rw [hp2,← hEO] at hz2
        have hz3:wQ (σ.outs.take σ.objs.length++[τ,τ']) (os++[u,u']) EO:=by rw [← hτ,List.take_append_drop];exact hz2
        have htl:(σ.outs.take σ.objs.length).length=σ.objs.length:=by rw [List.length_take];omega
        obtain ⟨s1,s2⟩:=hz3.split (by rw [htl];exact q1)
        rw [htl] at s1 s2
        obtain ⟨uv,uvs,uy,ur,e1,e2,e3,uv',uvs',uy',ur',e1',e2',e3',e4',e5'⟩:=s2
        simp only [List.cons.injEq] at e1
        obtain ⟨rfl,rfl⟩:=e1
        simp only [List.cons.injEq] at e1'
        obtain ⟨rfl,rfl⟩:=e1'
        subst e5';subst e2'
        have hcu:=(ig τ u uy e3).1
        have hcu':=(ig τ' u' uy' e3').1
        obtain ⟨o0,own0⟩:=tm hτc e3 v3
        obtain ⟨o0',own0'⟩:=tm hτc' e3' v3'
        have hnewb:w.heap.size≤(G'.ρ k).1:=Nat.le_of_not_lt fun hlt=>hOk k hk _ _ hlt own0
        have hnewb':w.heap.size≤(G'.ρ k').1:=Nat.le_of_not_lt fun hlt=>hOk k' hk' _ _ hlt own0'
        obtain ⟨Gn,hGn⟩:∃ Gn,Gn=(G'.named k (1000000+σ.objs.length)).named k' (1000000+(σ.objs.length+1)):=⟨_,rfl⟩
        have hρ1 : Gn.ρ (1000000 + σ.objs.length) = G'.ρ k := by
          rw [hGn,named_ρ (by omega)]
          show (if _ then _ else _)=_;rw [if_pos rfl]
        have hρ2 : Gn.ρ (1000000 + (σ.objs.length + 1)) = G'.ρ k' := by
          rw [hGn]
          show (if _ then (G'.named k (1000000+σ.objs.length)).ρ k' else _)=_
          rw [if_pos rfl,named_ρ (by omega)]
        have hO1 : ∀ b o, G'.O b o = some k → Gn.O b o = some (1000000 + σ.objs.length) := fun b o h => by
          rw [hGn]
          have h1 : (G'.named k (1000000 + σ.objs.length)).O b o = some (1000000 + σ.objs.length) := by
            show (if _=some k then some (1000000+σ.objs.length) else _)=_
            rw [if_pos h]
          show (if (G'.named k (1000000+σ.objs.length)).O b o=some k' then _ else _)=_
          rw [h1,if_neg (by intro e;injection e with e;omega)]
        have hO2 : ∀ b o, G'.O b o = some k' → Gn.O b o = some (1000000 + (σ.objs.length + 1)) := fun b o h => by
          rw [hGn]
          have h1 : (G'.named k (1000000 + σ.objs.length)).O b o = some k' := by
            show (if G'.O b o=some k then some (1000000+σ.objs.length) else G'.O b o)=_
            rw [h,if_neg (by intro e;injection e with e;exact hkk e.symm)]
          show (if (G'.named k (1000000+σ.objs.length)).O b o=some k' then _ else _)=_
          rw [h1,if_pos rfl]
        have hOn:∀ b o,G'.O b o=none→Gn.O b o=none:=fun b o h=>by rw [hGn];exact fy (fy h)
        have hval : ∃ tv, (∀ g, bi g tv ≤ bi g ts) ∧ aY Gn w' (gX σ.res σ.objs.length σ.outs r) y tv := by
          rw [hz1]
          have hadr:Gn.addr (1000000+σ.objs.length) []=G'.addr k []:=by unfold Gh.addr;rw [hρ1]
          have hadr':Gn.addr (1000000+(σ.objs.length+1)) []=G'.addr k' []:=by unfold Gh.addr;rw [hρ2]
          rcases hcase with ⟨b,vb,rfl,hρs,hbn,hp1,hvr⟩ | ⟨rfl,hρs⟩
          · skip
            obtain ⟨cs,⟨va,vb',vd,ca,cb,cd,t1,t2,t3,c1,c2,c3,c4,c5,c6,c8,c9⟩,c7⟩:=m2
            rw [hp1] at hz
            clear hz1 hn1
            revert z
            rw [hρs]
            intro z hz
            simp only [Rs.dec] at hz
            obtain ⟨_,hz⟩:=ap hz
            obtain ⟨hag,tb,hcb,hvb⟩:=oP σ.objs.length b vb z cd t3 hbn hz c8
            obtain ⟨d1,d2,d3⟩:=c3
            obtain ⟨d4,d5,d6⟩:=c5
            subst d3;subst d6
            have hrefs:(b.enc σ.objs.length z).refs=[]:=w6 _ b z hbn
            refine ⟨tb,fun g=>by have:=hcb g;subst c2;simp;omega,cs,⟨va,vb',vd,ca,cb,cd,[],[],tb,c1,rfl,⟨by rw [hadr];exact d1,trivial,rfl⟩,c4,⟨by rw [hadr'];exact d4,trivial,rfl⟩,c6,?_,?_⟩,c7⟩
            · refine b8.swap (G:=G') (G':=Gn) (fun _ _=>by rw [hGn];rfl) _ _ _ hrefs (fun g hg o=>hOn _ _ ?_) hvb
              have h1:=bb.1 hg
              have h2:=hcb g
              have h3:bi g t3≤bi g tE:=by have:=m4 g;rw [c2] at this;simp at this;omega
              exact (aL.owned _ _ k1 g (by omega)).2 o
            · rw [hag];exact c9
          · obtain ⟨cs,⟨va,vb',ca,cb,t1,t2,c1,c2,⟨d1,d3⟩,c4,⟨d4,d6⟩,c6⟩,c7⟩:=m2
            subst d3;subst d6
            clear hz1 hz hn1
            revert z
            rw [hρs]
            intro z
            exact ⟨[],fun g=>by simp,cs,⟨va,vb',ca,cb,[],[],c1,rfl,⟨by rw [hρ1];exact d1,rfl⟩,c4,⟨by rw [hρ2];exact d4,rfl⟩,c6⟩,c7⟩
        obtain ⟨tv,htv,hval⟩:=hval
        rw [← hEO]
        obtain ⟨tu,hku,hvu⟩:=v1.forget e3
        obtain ⟨tu',hku',hvu'⟩:=v1'.forget e3'
        obtain ⟨tO,hkO,hob⟩:=mA (G:=G') (w:=w') _ _ _ 1000000 t2 s1 q3
        have hIn:∀ b o,Gn.I b o=G'.I b o:=fun _ _=>by rw [hGn];rfl
        have hw1:∀ q,G'.O (G'.ρ k).1 q=some k:=fun q=>hB'.wf.whole _ _ _ own0 (by omega) q
        have hw2:∀ q,G'.O (G'.ρ k').1 q=some k':=fun q=>hB'.wf.whole _ _ _ own0' (by omega) q
        refine ⟨y,m1,Gn,?_,?_,?_,tv,tO,tu++tu',hval,?_,?_,fun g=>?_,fun g hg=>fresh g ?_⟩
        · rw [hGn]
          refine (pm (pm hB'.ev (hOk k hk)) fun b o hb h=>?_).mono hX0
          have h:(if G'.O b o=some k then some (1000000+σ.objs.length) else G'.O b o)=some k':=h
          split at h
          · injection h with h;omega
          · exact hOk k' hk' b o hb h
        · rw [hGn];exact pk (by omega) (pk (by omega) hB'.wf)
        · intro j hj
          rw [hGn,named_ρ (by omega),named_ρ (by omega)];exact hB'.par j
        · rw [hobj]
          have htO:∀ g ∈ tO,∀ o,G'.O g o=none:=fun g hg=>(aM.owned _ _ hob g (bb.1 hg)).2
          have h1:=lv (G:=G') (w:=w') (k:=k) (n:=σ.objs.length) (by omega) (EO.take σ.objs.length) 0 tO (mN _ _ _ s1) (by rw [List.length_take];omega) htO hob
          have h2:=lv (G:=G'.named k (1000000+σ.objs.length)) (w:=w') (k:=k') (n:=σ.objs.length+1) (by omega) (EO.take σ.objs.length) 0 tO (mN _ _ _ s1) (by rw [List.length_take];omega) (fun g hg o=>fy (htO g hg o)) h1
          rw [hGn];exact h2
        · rw [hobj,e2]
          have hR2 : aM Gn w' [(1000000 + σ.objs.length, gd τ uy), (1000000 + (σ.objs.length + 1), gd τ' uy')] (tu ++ tu') := by
            refine ⟨tu,tu',ucs,rfl,hvu.swap hIn _ _ _ (j9 τ uy) (fun g hg o=>hOn _ _ ((hvu.owned _ _ _ g hg).2 o)),by rw [hρ1];exact v2,⟨fun j hj=>?_,bH.swap (G:=G') (k:=k) hIn hρ1 (fun ho=>hO1 _ _ ho) (v3.2.as_ e3)⟩,tu',[],ucs',by simp,hvu'.swap hIn _ _ _ (j9 τ' uy') (fun g hg o=>hOn _ _ ((hvu'.owned _ _ _ g hg).2 o)),by rw [hρ2];exact v2',⟨fun j hj=>?_,bH.swap (G:=G') (k:=k') hIn hρ2 (fun ho=>hO2 _ _ ho) (v3'.2.as_ e3')⟩,rfl⟩
            · rw [hρ1]
              obtain ⟨g1,g2⟩:=v3.1 j (by rw [hcu,← (fC τ uy).1];exact hj)
              exact ⟨hO1 _ _ g1,g2⟩
            · rw [hρ2]
              obtain ⟨g1,g2⟩:=v3'.1 j (by rw [hcu',← (fC τ' uy').1];exact hj)
              exact ⟨hO2 _ _ g1,g2⟩
          have hW1:w.heap.size≤(Gn.ρ (1000000+σ.objs.length)).1∧∀ q,Gn.O (Gn.ρ (1000000+σ.objs.length)).1 q=some (1000000+σ.objs.length):=by rw [hρ1];exact ⟨hnewb,fun q=>hO1 _ _ (hw1 q)⟩
          have hW2:w.heap.size≤(Gn.ρ (1000000+(σ.objs.length+1))).1∧∀ q,Gn.O (Gn.ρ (1000000+(σ.objs.length+1))).1 q=some (1000000+(σ.objs.length+1)):=by rw [hρ2];exact ⟨hnewb',fun q=>hO2 _ _ (hw2 q)⟩
          generalize gd τ uy=z1 at hR2 ⊢
          generalize gd τ' uy'=z2 at hR2 ⊢
          cases z1 <;> exact ⟨hW1,hW2,hR2⟩
        · have:=htv g;have:=m4 g;have:=k3 g;have:=w1 g;have:=w1' g;have:=q2 g;have:=hku.1 g;have:=hku'.1 g;have:=hkO.1 g;simp;omega
        · have:=htv g;have:=m4 g;have:=w1 g;have:=w1' g;have:=q2 g;have:=hku.1 g;have:=hku'.1 g;have:=hkO.1 g;simp at hg;omega
      unfold F6 at hnew
      rw [Bool.or_eq_true] at hnew
      rcases hnew with hnew | hnew
      case inr =>
        simp only [EY,Bool.and_eq_true] at hnew
        obtain ⟨⟨hn1,hn2⟩,hn3⟩:=hnew
        have hn2:=Nat.eq_of_beq_eq_true hn2
        obtain ⟨τ, hτ, hτc⟩ : ∃ τ, σ.outs.drop σ.objs.length = [τ] ∧ qI τ = true := by
          split at hn3
          · rename_i τ e;exact ⟨τ,e,hn3⟩
          · cases hn3
        obtain ⟨k,u,hk,hu,hp2,hcase⟩:=Ak hn1 hp (by rw [hz];rfl)
        have hnl : nt v := by
          rcases hcase with (⟨rfl,_⟩ | ⟨rfl,_⟩) | ⟨b,vb,rfl,hρ,_,hp1,_⟩
          · trivial
          · trivial
          · refine ⟨trivial,?_⟩
            have hzs:(Rs.dec σ.objs.length σ.res p.1).isSome=true:=by rw [hz];rfl
            rw [hρ,hp1] at hzs
            simp only [Rs.dec] at hzs
            refine oL (n:=σ.objs.length) (ρ:=b) ?_
            cases hq:Nat.beq (1000000+σ.objs.length) (1000000+σ.objs.length) with
            | true=>rw [hq] at hzs;exact hzs
            | false=>rw [hq] at hzs;cases hzs
        obtain ⟨y,ts,m1,m2,m4⟩:=resR v hv hnl
        obtain ⟨u1,u2,ucs,w1,v1,v2,v3,v4⟩:=aM.find k mR tMm u k2 (by rw [hlk k (.inl hk)];exact hu)
        obtain ⟨q1,t2,q2,q3⟩:=mW σ.objs.length 1000000 _ _ os v4 (by rw [nE (by omega),jb _ _ fun q hq=>hlk q (.inr hq)];exact hos)
        have hOk : ∀ b o, b < w.heap.size → G'.O b o ≠ some k := fun b o hb h => by
          rw [hB'.ev.own b o hb] at h
          have:=(hX b o k h).2;omega
        obtain ⟨EO,hEO⟩:∃ l,l=fi σ.res σ.outs r:=⟨_,rfl⟩
        rw [hp2,← hEO] at hz2
        have hz3:wQ (σ.outs.take σ.objs.length++[τ]) (os++[u]) EO:=by rw [← hτ,List.take_append_drop];exact hz2
        have htl:(σ.outs.take σ.objs.length).length=σ.objs.length:=by rw [List.length_take];omega
        obtain ⟨s1,s2⟩:=hz3.split (by rw [htl];exact q1)
        rw [htl] at s1 s2
        obtain ⟨uv,uvs,uy,ur,e1,e2,e3,e4,e5⟩:=s2
        injection e1 with e1 e1'
        subst e1
        subst e5
        have hcu:=(ig τ u uy e3).1
        obtain ⟨o0,own0⟩:=tm hτc e3 v3
        have hnewb:w.heap.size≤(G'.ρ k).1:=Nat.le_of_not_lt fun hlt=>hOk _ _ hlt own0
        have hval : ∃ tv, (∀ g, bi g tv ≤ bi g ts) ∧ aY (G'.named k (1000000 + σ.objs.length)) w' (gX σ.res σ.objs.length σ.outs r) y tv := by
          rw [hz1]
          have hρ : (G'.named k (1000000 + σ.objs.length)).ρ (1000000 + σ.objs.length) = G'.ρ k := by
            show (if _ then _ else _)=_;rw [if_pos rfl]
          have hadr : (G'.named k (1000000 + σ.objs.length)).addr (1000000 + σ.objs.length) [] = G'.addr k [] := by
            unfold Gh.addr;rw [hρ]
          rcases hcase with (⟨hv',hρs⟩ | ⟨hv',hρs⟩) | ⟨b,vb,hv',hρs,hbn,hp1,hvr⟩
          case inl.inr =>
            subst hv'
            obtain ⟨cs,⟨c1,c3⟩,c4⟩:=m2
            subst c3
            clear hz1 hz hn1
            revert z
            rw [hρs]
            intro z
            exact ⟨[],fun g=>by simp,cs,⟨by rw [hρ];exact c1,rfl⟩,c4⟩
          · subst hv'
            obtain ⟨cs,⟨c1,c2,c3⟩,c4⟩:=m2
            subst c3
            refine ⟨[],fun g=>by simp,cs,?_,?_⟩
            · rw [show σ.res.enc σ.objs.length z = .ref (1000000 + σ.objs.length) [] by
                clear hz1 hz
                revert z
                rw [hρs];intro z;rfl]
              exact ⟨by rw [hadr];exact c1,trivial,rfl⟩
            · rw [show (σ.res.enc σ.objs.length z).agg = false by
                clear hz1 hz
                revert z
                rw [hρs];intro z;rfl]
              exact c4
          · subst hv'
            obtain ⟨cs,⟨va,vb',ca,cb,t1,t2,c1,c2,c3,c4,c5,c6⟩,c7⟩:=m2
            rw [hp1] at hz
            clear hz1 hn1
            revert z
            rw [hρs]
            intro z hz
            simp only [Rs.dec] at hz
            obtain ⟨_,hz⟩:=ap hz
            obtain ⟨hag,tb,hcb,hvb⟩:=oP σ.objs.length b vb z cb t2 hbn hz c5
            obtain ⟨d1,d2,d3⟩:=c3
            subst d3
            have hrefs : (b.enc σ.objs.length z).refs = [] := by
              exact w6 _ b z hbn
            refine ⟨tb,fun g=>by have:=hcb g;subst c2;simp;omega,cs,⟨va,vb',ca,cb,[],tb,c1,rfl,⟨by rw [hadr];exact d1,trivial,rfl⟩,c4,?_,?_⟩,c7⟩
            · refine b8.swap (G:=G') (G':=G'.named k (1000000+σ.objs.length)) (fun _ _=>rfl) _ _ _ hrefs (fun g hg o=>fy ?_) hvb
              have h1:=bb.1 hg
              have h2:=hcb g
              have h3:bi g t2≤bi g tE:=by have:=m4 g;rw [c2] at this;simp at this;omega
              exact (aL.owned _ _ k1 g (by omega)).2 o
            · rw [hag];exact c6
        obtain ⟨tv,htv,hval⟩:=hval
        rw [← hEO]
        obtain ⟨tu,hku,hvu⟩:=v1.forget e3
        obtain ⟨tO,hkO,hob⟩:=mA (G:=G') (w:=w') _ _ _ 1000000 t2 s1 q3
        have hw1:∀ q,G'.O (G'.ρ k).1 q=some k:=fun q=>hB'.wf.whole _ _ _ own0 (by omega) q
        have hO1 : ∀ b o, G'.O b o = some k → (G'.named k (1000000 + σ.objs.length)).O b o = some (1000000 + σ.objs.length) := fun b o h => by
          show (if _=some k then some (1000000+σ.objs.length) else _)=_
          rw [if_pos h]
        refine ⟨y,m1,G'.named k (1000000+σ.objs.length),(pm hB'.ev hOk).mono hX0,pk (by omega) hB'.wf,fun j hj=>by rw [named_ρ (by omega)];exact hB'.par j,tv,tO,tu,hval,?_,?_,fun g=>?_,fun g hg=>fresh g ?_⟩
        · rw [hobj]
          have htO:∀ g ∈ tO,∀ o,G'.O g o=none:=fun g hg=>(aM.owned _ _ hob g (bb.1 hg)).2
          have:=lv (G:=G') (w:=w') (k:=k) (n:=σ.objs.length) (by omega) (EO.take σ.objs.length) 0 tO (mN _ _ _ s1) (by rw [List.length_take];omega) htO hob
          exact this
        · rw [hobj,e2]
          have hρ : (G'.named k (1000000 + σ.objs.length)).ρ (1000000 + σ.objs.length) = G'.ρ k := by
            show (if _ then _ else _)=_;rw [if_pos rfl]
          have hR2 : aM (G'.named k (1000000 + σ.objs.length)) w' [(1000000 + σ.objs.length, gd τ uy)] tu := by
            refine ⟨tu,[],ucs,by simp,b8.swap (G:=G') (G':=G'.named k (1000000+σ.objs.length)) (fun _ _=>rfl) _ _ _ (j9 τ uy) (fun g hg o=>fy ((hvu.owned _ _ _ g hg).2 o)) hvu,by rw [hρ];exact v2,⟨fun j hj=>?_,bH.swap (G:=G') (k:=k) (fun _ _=>rfl) hρ (fun ho=>hO1 _ _ ho) (v3.2.as_ e3)⟩,rfl⟩
            rw [hρ]
            obtain ⟨g1,g2⟩:=v3.1 j (by rw [hcu,← (fC τ uy).1];exact hj)
            exact ⟨hO1 _ _ g1,g2⟩
          have hW1 : w.heap.size ≤ ((G'.named k (1000000 + σ.objs.length)).ρ (1000000 + σ.objs.length)).1 ∧ ∀ q, (G'.named k (1000000 + σ.objs.length)).O ((G'.named k (1000000 + σ.objs.length)).ρ (1000000 + σ.objs.length)).1 q = some (1000000 + σ.objs.length) := by
            rw [hρ];exact ⟨hnewb,fun q=>hO1 _ _ (hw1 q)⟩
          have hnr : ∀ e xs, gd τ uy ≠ .raw e xs := fun e xs h => by
            cases τ <;> simp only [gd] at h <;> first | (cases h;done) | skip
            rename_i pa pb
            cases hh:eR pa || eR pb <;> rw [hh] at h <;> cases h
          generalize gd τ uy=z1 at hR2 hnr ⊢
          cases z1 <;> first | exact ⟨hW1,hR2⟩ | exact absurd rfl (hnr _ _)
        · have:=htv g;have:=m4 g;have:=k3 g;have:=w1 g;have:=q2 g;have:=hku.1 g;have:=hkO.1 g;omega
        · have:=htv g;have:=m4 g;have:=w1 g;have:=q2 g;have:=hku.1 g;have:=hkO.1 g;omega
      rw [Bool.and_eq_true] at hnew
      obtain ⟨rfl,hvr⟩:=y6 hnew.1 hp (by rw [hz];rfl)
      obtain ⟨y,ts,m1,m2,m4⟩:=resR v hv (FA hnew.1 (by rw [hz];rfl))
      obtain ⟨q1,t2,q2,q3⟩:=mW _ _ _ _ _ k2 (by rw [jb _ _ fun q hq=>hlk q (.inr hq)];exact hos)
      obtain ⟨G2, ts', p1, p2, p3, n2, n3, p4⟩ := DI (X := X0) (w0 := w) (G0 := G) hnew.1 hz hB'.wf (fun g hg => by
        rcases k4 g (by have:=m4 g;omega) with h | h
        · exact .inl h
        · by_cases hb:g<w.heap.size
          · refine .inr (hold g (fun o=>?_) h)
            rw [← hB'.ev.own g o hb]
            exact (m2.owned hg).2 o
          · exact .inl (by omega)) hW hB'.ev m2
      have hl:=hz2.lengths
      have hlo:(fi σ.res σ.outs r).length=σ.objs.length:=by rw [hl.2,← hl.1,q1]
      obtain ⟨tO, hkO, hob⟩ : ∃ tO, (∀ g, bi g tO ≤ bi g t2) ∧ aM G2 w' (cW 1000000 (fi σ.res σ.outs r)) tO := by
        have h6:=hnew.2
        rw [Bool.or_eq_true] at h6
        rcases h6 with h | h
        · obtain ⟨tO,hkO,hob⟩:=mA (G:=G') (w:=w') _ _ _ 1000000 t2 hz2 q3
          exact ⟨tO,hkO.1,by rw [p4 h];exact hob⟩
        · have h0:σ.outs=[]:=by simpa using h
          have:fi σ.res σ.outs r=[]:=List.eq_nil_of_length_eq_zero (by rw [hl.2,h0];rfl)
          rw [this];exact ⟨[],fun g=>by simp,rfl⟩
      refine ⟨y,m1,G2,p1.mono hX0,p2,fun j _=>by rw [p3];exact hB'.par j,ts',tO,[],by rw [hz1];exact n3,?_,?_,fun g=>?_,fun g hg=>fresh g ?_⟩
      · rw [hobj,List.take_of_length_le (by omega)];exact hob
      · rw [hobj,List.drop_eq_nil_of_le (by omega)];rfl
      · have:=n2 g;have:=m4 g;have:=k3 g;have:=hkO g;have:=q2 g;simp;omega
      · have:=n2 g;have:=m4 g;have:=hkO g;have:=q2 g;simp at hg;omega
    obtain ⟨y,h5,h6⟩:=hmain
    cases e with
    | exit i=>cases g4
    | normal=>exact ⟨g3,y,h5,h6⟩
    | ret=>exact ⟨g3,y,h5,h6⟩
theorem aF {f:FuncId} {fn:Func} {code:Code} {σ:Sg} {F:σ.In→Option σ.Out} (hT:TT P c) (hC:∀ f e,lkN c.fns f=some e→CallOK P f e) (hm:P.follows .mixedOrders=true)
  (hf : P.funcs[f]? = some fn) (hb : fn.body = some code) (hnm : (fn.name == "runtime.NumGoroutine") = false) (hargs : Nat.ble σ.args.length fn.ntmps = true) (hres : vw fn.results.toList = true) (hnew : zN σ = true)
  (hcode:dy c fn.ntmps code=true) (hF:∀ x,F x=σ.fn c code fn.results.toList x):CallOK P f (σ.entry F) :=
 D1 hT hf hb hnm hargs hres hnew fun x _ h3 _ G w _ _ hR hsz hL=>lq (N:=fn.ntmps) (ds:=[]) hT hC hm code hcode (σ.K c fn.results.toList) _ _ _ w G hL ((hF _).symm.trans h3) hR hsz rfl
theorem pf {f:FuncId} {σ:Sg} {a b:Entry} (ha:CallOK P f a) (hb:CallOK P f b):CallOK P f (Entry.alt σ a b):=by
 have key:∀ (α:Type) args objs (K:V→List V→Option α),(Entry.alt σ a b).run α args objs K=bif (Ar.pull σ.args 0 args).isSome then a.run α args objs K else b.run α args objs K:=fun _ _ _ _=>rfl
 refine ⟨fun α args objs K=>?_,fun args objs vr os hval=>?_⟩
 ·unfold Entry.val
  rw [key,key]
  cases (Ar.pull σ.args 0 args).isSome with
  | true=>exact ha.nat α args objs K
  | false=>exact hb.nat α args objs K
 ·unfold Entry.val at hval
  rw [key] at hval
  cases hh:(Ar.pull σ.args 0 args).isSome with
  | true=>rw [hh] at hval;exact ha.ok args objs vr os hval
  | false=>rw [hh] at hval;exact hb.ok args objs vr os hval
end Go.Proofs.YtfhcammihohmjaaGreatDoor.Pal
end
noncomputable section
/- A pointer to a part of a variable, handed lR: the part is a variable for the one that is called. -/
namespace Go.Proofs.YtfhcammihohmjaaGreatDoor.Pal
open Go
variable [MonoC]
variable {P:Program} {X Y:Nat→Nat→Prop} {G0 G G':Gh} {w0 w w':World} {s:St} {a:Act} {c:Cx}
end Go.Proofs.YtfhcammihohmjaaGreatDoor.Pal
end
noncomputable section
/- A list of functions of which all is promised. -/
namespace Go.Proofs.YtfhcammihohmjaaGreatDoor.Pal
open Go
variable [MonoC]
variable {P:Program}
def GQ (P:Program):List (Nat × Entry)→Prop
 | []=>True
 | (f,e)::r=>CallOK P f e∧GQ P r
theorem am:∀ {l:List (Nat × Entry)},GQ P l→∀ f e,lkN l f=some e→CallOK P f e
 | [],_,_,_,h=>by simp [lkN] at h
 | (g,e')::r,⟨h1,h2⟩,f,e,h=>by
  simp only [lkN] at h
  cases hb:Nat.beq g f with
  | true =>
   rw [hb] at h
   simp only [cond_true,Option.some.injEq] at h
   have:=aS.1 hb
   subst this;subst h;exact h1
  | false=>rw [hb] at h;exact am h2 f e h
def Fe (I:Im):Prop:=(∀ c,c<256→I 0 c=some (.int .u8 (Go.Lib.firstT c)))∧∀ i,i<16→I 1 (2 * i)=some (.int .u8 (Go.Lib.accLo i))∧I 1 (2 * i+1)=some (.int .u8 (Go.Lib.accHi i))
instance (priority:=low) monoOff:MonoC:=⟨False,Fe,fun _ _ h ht=>⟨fun c hc=>h _ _ _ (ht.1 c hc),fun i hi=>⟨h _ _ _ (ht.2 i hi).1,h _ _ _ (ht.2 i hi).2⟩⟩⟩
theorem kl:¬ @MonoC.on monoOff:=fun h=>h
end Go.Proofs.YtfhcammihohmjaaGreatDoor.Pal
end
noncomputable section
/- Plain facts about what is reckoned with data. -/
namespace Go.Proofs.YtfhcammihohmjaaGreatDoor.Pal
open Go
theorem ac {α:Type} (x y:Option α):br true x y=x:=rfl
theorem aa {α:Type} (x y:Option α):br false x y=y:=rfl
theorem ae {α β:Type} (a:α) (f:α→Option β):bnd (some a) f=f a:=rfl
theorem wrap_i64 {n:Int} (h1:-(2:Int) ^ 63≤n) (h2:n<2 ^ 63):IntKind.wrap .i64 n=n:=by
 have e1:((2:Int) ^ 63)=9223372036854775808:=by decide
 rw [e1] at h1 h2
 simp only [IntKind.wrap,IntKind.signed,IntKind.bits]
 simp
 omega
theorem aB {i:Nat} (h:i<4611686018427387904):aH .i64 (i:Int) 1=((i+1:Nat):Int):=by
 have e1:((2:Int) ^ 63)=9223372036854775808:=by decide
 show IntKind.wrap .i64 ((i:Int)+1)=_
 rw [wrap_i64 (by rw [e1];omega) (by rw [e1];omega)]
 omega
theorem aO (i:Nat) {α:Type} (xs:List α):aq (i:Int) (af xs)=decide (i<xs.length):=by simp [aq,af]
theorem bA (i j:Nat):aq (i:Int) (j:Int)=decide (i<j):=by simp [aq]
theorem aQ (i:Nat) {α:Type} (xs:List α):bO (i:Int) xs=decide (i<xs.length):=by simp [bO]
theorem dS (i n:Nat):gh (i:Int) n=decide (i<n):=by simp [gh]
theorem au (i:Nat):aj (i:Int)=i:=rfl
theorem aW (a b:Int):az a b=decide (a=b):=by simp [az];rfl
theorem mM {α β:Type} (xs:List α) (ys:List β):az (af xs) (af ys)=decide (xs.length=ys.length):=by
 rw [aW];simp only [af];congr 1;exact propext ⟨fun h=>by omega,fun h=>by omega⟩
theorem bB (p:Prop) [Decidable p]:ai (decide p)=decide (¬ p):=by simp [ai]
theorem mJ (a b:List UInt8):seq a b=decide (a=b):=by
 simp only [seq];by_cases h:a=b <;> simp [h]
theorem aT {e:Ty} {xs:List e.D} {i:Nat} (h:i<xs.length):rd e xs i=xs[i]:=by simp [rd,List.getD,h]
theorem rV {α:Type} {f:α→α→Bool} (hf:∀ x y,f x y=true ↔ x=y):∀ xs ys:List α,jN f xs ys=true ↔ xs=ys
 | [],[]=>by simp [jN]
 | [],y::ys=>by simp [jN]
 | x::xs,[]=>by simp [jN]
 | x::xs,y::ys=>by
  have ih:=rV hf xs ys
  simp only [jN,Bool.and_eq_true,beq_iff_eq] at ih
  simp only [jN,List.length_cons,List.zip_cons_cons,List.all_cons,Bool.and_eq_true,beq_iff_eq,hf,List.cons.injEq,Nat.add_right_cancel_iff]
  rw [← ih]
  exact ⟨fun ⟨a,b,c⟩=>⟨b,a,c⟩,fun ⟨b,a,c⟩=>⟨a,b,c⟩⟩
theorem lp:∀ (τ:Ty),τ.hasEq0=true→∀ x y:τ.D,eQ τ x y=true ↔ x=y
 | .int k,_,x,y=>by show az x y=true ↔ x=y;simp [az]
 | .bool,_,x,y=>by show Fx x y=true ↔ x=y;simp [Fx]
 | .str,_,x,y=>by show seq x y=true ↔ x=y;simp [seq]
 | .slc e,h,_,_=>by simp [Ty.hasEq0] at h
 | .arr n e,h,x,y=>rV (lp e h) x y
 | .pair a b,h,x,y=>by
  simp only [Ty.hasEq0,Bool.and_eq_true] at h
  show (eQ a x.1 y.1 && eQ b x.2 y.2)=true ↔ x=y
  rw [Bool.and_eq_true,lp a h.1,lp b h.2]
  exact ⟨fun ⟨h1,h2⟩=>Prod.ext h1 h2,fun h=>by rw [h];exact ⟨rfl,rfl⟩⟩
theorem pO {α:Type} {xs:List α} {i:Nat} (h:i<xs.length) (p:α→Bool):(xs.drop i).all p=(p xs[i] && (xs.drop (i+1)).all p):=by
 rw [List.drop_eq_getElem_cons h,List.all_cons]
def tK {α β:Type} (p:α→β→Bool) (xs:List α) (ys:List β):Bool:=(xs.zip ys).all fun q=>p q.1 q.2
theorem rW {α β:Type} {xs:List α} {ys:List β} {i:Nat} (h:i<xs.length) (h':i<ys.length) (p:α→β→Bool) :
  tK p (xs.drop i) (ys.drop i)=(p xs[i] ys[i] && tK p (xs.drop (i+1)) (ys.drop (i+1))):=by
 rw [List.drop_eq_getElem_cons h,List.drop_eq_getElem_cons h'];rfl
theorem vL {α β:Type} {xs:List α} {ys:List β} {i:Nat} (h:xs.length≤i) (p:α→β→Bool):tK p (xs.drop i) (ys.drop i)=true:=by
 rw [List.drop_eq_nil_of_le h];rfl
theorem ui {α:Type} [DecidableEq α]:∀ (xs ys:List α),xs.length=ys.length→tK (fun x y=>decide (x=y)) xs ys=decide (xs=ys)
 | [],[],_=>by simp [tK]
 | [],y::ys,h=>by simp at h
 | x::xs,[],h=>by simp at h
 | x::xs,y::ys,h=>by
  have ih:=ui xs ys (by simpa using h)
  have:tK (fun x y=>decide (x=y)) (x::xs) (y::ys)=(decide (x=y) && tK (fun x y=>decide (x=y)) xs ys):=rfl
  rw [this,ih,← Bool.decide_and]
  congr 1;simp
theorem uj {τ:Ty} [DecidableEq τ.D] (h:τ.hasEq0=true) (x y:τ.D):eQ τ x y=decide (x=y):=by
 have:=lp τ h x y
 by_cases e:x=y
 ·simp [e,(lp τ h y y).2 rfl]
 ·simp [e];cases hd:eQ τ x y with
  | false=>rfl
  | true=>exact absurd (this.1 hd) e
end Go.Proofs.YtfhcammihohmjaaGreatDoor.Pal
end
noncomputable section
/- Loops of plain equations: what they come to. -/
namespace Go.Proofs.YtfhcammihohmjaaGreatDoor.Pal
open Go
theorem iz (N:Nat) (L:Nat→Nat→Option Bool) (p:Nat→Prop) (hs:∀ n i,i<N→(p i∧L (n+1) i=L n (i+1))∨(¬ p i∧L (n+1) i=some false)) (e:Option Bool) (q:Prop) (hq:∃ b,e=some b∧(b=true ↔ q)) (he:∀ n,L (n+1) N=e) :
  ∀ n i,i≤N→N<n+i→∃ b,L n i=some b∧(b=true ↔ (∀ j,i≤j→j<N→p j)∧q)
 | 0,i,h,h'=>by omega
 | n+1,i,h,h'=>by
  by_cases hi:i<N
  ·rcases hs n i hi with ⟨h1,h2⟩ | ⟨h1,h2⟩
   ·obtain ⟨b,hb,hbi⟩:=iz N L p hs e q hq he n (i+1) (by omega) (by omega)
    refine ⟨b,h2.trans hb,hbi.trans ⟨fun hh=>⟨fun j h3 h4=>?_,hh.2⟩,fun hh=>⟨fun j h3 h4=>hh.1 j (by omega) h4,hh.2⟩⟩⟩
    by_cases ej:j=i
    ·subst ej;exact h1
    ·exact hh.1 j (by omega) h4
   ·exact ⟨false,h2,⟨fun hh=>(by cases hh),fun hh=>absurd (hh.1 i (Nat.le_refl _) hi) h1⟩⟩
  ·have:i=N:=by omega
   subst this
   obtain ⟨b,hb,hbi⟩:=hq
   exact ⟨b,(he n).trans hb,hbi.trans ⟨fun hh=>⟨fun j h3 h4=>by omega,hh⟩,fun hh=>hh.2⟩⟩
theorem ep (N:Nat) (L:Nat→Nat→Option Bool) (p:Nat→Prop) (hs:∀ n i,i<N→(p i∧L (n+1) i=L n (i+1))∨(¬ p i∧L (n+1) i=some false)) (he:∀ n,L (n+1) N=some true) (n i:Nat) (h:i≤N) (h':N<n+i) :
  ∃ b,L n i=some b∧(b=true ↔ ∀ j,i≤j→j<N→p j):=by
 obtain ⟨b,hb,hbi⟩:=iz N L p hs (some true) True ⟨true,rfl,by simp⟩ he n i h h'
 exact ⟨b,hb,by rw [hbi];simp⟩
theorem j6 {α:Type} [DecidableEq α] (xs ys:List α) (hl:xs.length=ys.length) (L:Nat→Nat→Option Bool) (hs:∀ n i (h:i<xs.length) (h':i<ys.length),L (n+1) i=if xs[i]=ys[i] then L n (i+1) else some false) (he:∀ n,L (n+1) xs.length=some true) (n:Nat) (h':xs.length<n):L n 0=some (decide (xs=ys)):=by
 obtain ⟨b,hb,hbi⟩:=ep xs.length L (fun i=>xs[i]? = ys[i]?) (fun n i hi=>by
  have hi':i<ys.length:=by omega
  have:=hs n i hi hi'
  rw [List.getElem?_eq_getElem hi,List.getElem?_eq_getElem hi']
  by_cases e:xs[i]=ys[i]
  ·rw [if_pos e] at this;exact .inl ⟨by rw [e],this⟩
  ·rw [if_neg e] at this;exact .inr ⟨fun h=>e (Option.some.inj h),this⟩) he n 0 (by omega) (by omega)
 rw [hb];congr 1
 rw [Bool.eq_iff_iff,hbi,decide_eq_true_iff]
 constructor
 ·intro h
  apply List.ext_getElem? ;intro i
  by_cases hi:i<xs.length
  ·exact h i (by omega) hi
  ·rw [List.getElem?_eq_none (by omega),List.getElem?_eq_none (by omega)]
 ·intro h;subst h;intros;rfl
theorem cT {α:Type} (p:Prop) [Decidable p] (x y:Option α):br (decide p) x y=if p then x else y:=by
 by_cases h:p
 ·rw [if_pos h,decide_eq_true h];rfl
 ·rw [if_neg h,decide_eq_false h];rfl
theorem iR {α β:Type} {xs:List α} {ys:List β} (h:xs.length+ys.length≤4294967296):bm xs ys=true:=decide_eq_true h
theorem md {α:Type} (x:α) (xs:List α):ba (x::xs) 1 (af (x::xs))=xs:=by
 unfold ba af
 simp only [Int.toNat_natCast,List.take_length]
 rfl
theorem pX {α:Type} (x:α) (xs:List α):eE 1 (af (x::xs)) (af (x::xs))=true:=by
 have h:(1:Int)≤((x::xs).length:Int):=by rw [List.length_cons];omega
 show (decide ((0:Int)≤1) && decide ((1:Int)≤((x::xs).length:Int)) && decide (((x::xs).length:Int)≤((x::xs).length:Int)))=true
 rw [decide_eq_true h,decide_eq_true (Int.le_refl _)];rfl
theorem Fs {α:Type} (x:α) (xs:List α):bO 0 (x::xs)=true:=by simp [bO]
theorem GP {e:Ty} (x:e.D) (xs:List e.D):rd e (x::xs) (aj 0)=x:=rfl
theorem DE {α:Type} (xs:List α):aq 0 (af xs)=decide (0<xs.length):=by simp [aq,af]
theorem uM {α:Type} (xs:List α):az (af xs) 0=decide (xs.length=0):=by
 rw [aW];simp only [af];congr 1;exact propext ⟨fun h=>by omega,fun h=>by omega⟩
end Go.Proofs.YtfhcammihohmjaaGreatDoor.Pal
end
noncomputable section
/- A call with plain data alone. -/
namespace Go.Proofs.YtfhcammihohmjaaGreatDoor.Pal
open Go Go.Sort
variable {P:Program} {X Y:Nat→Nat→Prop} {G0 G G':Gh} {w0 w w':World} {s:St} {a:Act} {c:Cx} {Q:Exit→Act→World→Prop}
theorem pT {g:Nat} {ce:Entry} {args:List V} {argv:List Value} {v:V} (hg:@CallOK (.just True) P g ce) (eg:∀ args w,(callFunc g args).run P w = .ok (.enter g args) w) (hv:ce.val args []=some (v,[]))
  (hA:∀ G,cK G w args argv []):Calls P g argv.toArray w fun e' w'=>(∃ G' y t,e' = .returned y∧aY G' w' v y t)∧∃ q os,w'=grow (w.drewN q) os:=by
 letI:MonoC:=.just True
 let G:Gh:={ I:=fun _ _=>none,O:=fun _ _=>none,ρ:=fun _=>(0,0) }
 have hdo:=hg.ok args [] v [] hv (fun _ _=>False) G w argv [] [] ⟨fun _ _ _ h=>(by cases h),fun _ _ _ h=>(by cases h),fun _ _ _ h=>(by cases h),fun _ _ _ h=>(by cases h)⟩ trivial (fun _ _ _ h=>(by cases h)) (hA G) rfl (fun g=>by simp) (fun g hg=>by simp at hg)
 rcases hdo with ⟨_,h⟩ | ⟨v',w',h,_⟩
 ·refine Calls.mono h fun e' w' he=>?_
  cases e' with
  | returned y =>
   obtain ⟨G',hE,_,_,tV,tM,tX,hT,_⟩:=he
   refine ⟨⟨G',y,tV,rfl,hT⟩,w'.drawn - w.drawn,w'.heap.extract w.heap.size w'.heap.size,?_⟩
   have hheap:w'.heap=w.heap++w'.heap.extract w.heap.size w'.heap.size:=by
    apply Array.ext_getElem?
    intro i
    rcases Nat.lt_or_ge i w.heap.size with hi | hi
    ·rw [Array.getElem?_append_left hi]
     rcases hE.evo.block i hi with h | ⟨c,c',t,fr,h1,h2,h3,h4⟩ | ⟨_,_,_,_,_,_,h⟩
     ·exact h
     ·have:c'=c:=Array.ext_getElem? fun j=>h4 j (fun h=>h)
      rw [h1,h2,this]
     ·exact h.elim
    ·rw [Array.getElem?_append_right hi,Array.getElem?_extract]
     split
     ·congr 1;omega
     ·rename_i h5
      rw [Array.getElem?_eq_none]
      have:=hE.evo.size
      rcases Nat.lt_or_ge i w'.heap.size with h6 | h6
      ·exfalso;apply h5;omega
      ·exact h6
   have e1:=hE.evo.os;have e2:=hE.evo.tape;have e3:=hE.evo.output;have e4:=hE.evo.drawn trivial
   unfold grow World.drewN
   cases w' with
   | mk h1 t1 d1 o1 p1 =>
    cases w with
    | mk h0 t0 d0 o0 p0 =>
     simp only at e1 e2 e3 e4 hheap ⊢
     subst e1;subst e2;subst e3
     have:d0+(d1 - d0)=d1:=by omega
     rw [this,← hheap]
  | _=>exact he.elim
 ·rw [eg] at h;cases h
end Go.Proofs.YtfhcammihohmjaaGreatDoor.Pal
end
noncomputable section
/- The row: what comes in is data; what the law's run says, the statement says. -/
namespace Go.Proofs.YtfhcammihohmjaaGreatDoor.Pal
open Go
variable [MonoC]
variable {H:Type} {enc:TypeId × Value→H} {P:Program} {W:World} {base:Nat} {spare:Nat→Bool} {held:Bool}

def AT (W:World):Im:=fun b o=>W.cell? ⟨b,o,none⟩
def gL:(τ:Ty)→τ.D→Prop
 | .int k,n=>(Lit.int k n).wf=true
 | .bool,_=>True
 | .str,s=>s.length≤maxLen
 | .slc e,xs=>List.length xs≤maxLen∧∀ x ∈ xs,gL e x
 | .arr n e,xs=>List.length xs=n∧∀ x ∈ xs,gL e x
 | .pair a b,x=>gL a x.1∧gL b x.2
 | .map _ _,_=>True
 | .box _,_=>True
def Ec:Ty→Bool
 | .box _=>false
 | .slc e=>Ec e
 | .arr _ e=>Ec e
 | .pair a b=>Ec a && Ec b
 | _=>true
theorem zR {n:Nat} {T:TypeId} {a b:Ty} (h:gf P n T (.map a b)=true):False:=by
 obtain ⟨m,rfl⟩:=gV h
 obtain ⟨d,hd,h⟩:=nj h
 cases d <;> simp_all [kL]
theorem gp {n:Nat} {T:TypeId} {τ:Ty} (h:gf P n T τ=true):P.cellsOf T=τ.cells:=by
 obtain ⟨i,hi,hs,_⟩:=(dI h).info
 simp [Program.cellsOf,hi,hs]
theorem qf {α β:Type} {f:Nat→Option β} {R:Nat→α→Prop}:∀ (n:Nat),(∀ i,i<n→∃ x,R i x)→∃ xs:List α,xs.length=n∧∀ i x,xs[i]? = some x→R i x
 | 0,_=>⟨[],rfl,fun i x h=>by simp at h⟩
 | n+1,h=>by
  obtain ⟨xs,h1,h2⟩:=qf (f:=f) n fun i hi=>h i (by omega)
  obtain ⟨x,hx⟩:=h n (by omega)
  refine ⟨xs++[x],by simp [h1],fun i y hy=>?_⟩
  rcases Nat.lt_or_ge i n with hi | hi
  ·rw [List.getElem?_append_left (by omega)] at hy;exact h2 i y hy
  ·have:i=n:=by have:=(List.getElem?_eq_some_iff.1 hy).1;simp at this;omega
   subst this
   rw [List.getElem?_append_right (by omega)] at hy
   simp [h1] at hy;subst hy;exact hx
theorem vv {α:Type} {R:α→List Value→Prop} {sz:Nat}:∀ (xs:List α) (cs:List Value),cs.length=xs.length * sz→(∀ i x,xs[i]? = some x→R x ((cs.drop (i * sz)).take sz))→bC R xs cs
 | [],cs,h,_=>List.eq_nil_of_length_eq_zero (by simpa using h)
 | x::xs,cs,h,hR=>by
  have h0:=hR 0 x rfl
  simp only [Nat.zero_mul,List.drop_zero] at h0
  refine ⟨cs.take sz,cs.drop sz,(List.take_append_drop sz cs).symm,h0,vv (sz:=sz) xs (cs.drop sz) (by simp [h,Nat.add_mul]) fun i y hy=>?_⟩
  have:=hR (i+1) y (by simpa using hy)
  rw [List.drop_drop]
  rwa [show sz+i * sz=(i+1) * sz by rw [Nat.add_mul];omega]
theorem sP {fuel:Nat} (IH:∀ (τ:Ty) (n:Nat) (T:TypeId) (cs:List Value) (y:DataW H × List MemPlace),gf P n T τ=true→Ec τ=true→DataW.trod enc P W base spare held fuel T cs=some y→∃ x,aR (AT W) τ x cs∧gL τ x) {n:Nat} {cs:List Value} :
  ∀ (fs:List Field) (o:Nat) (τ:Ty),fQ (gf P n) fs o τ=true→Ec τ=true→(∀ f ∈ fs,∃ y,DataW.trod enc P W base spare held fuel f.type ((cs.drop f.offset).take (P.cellsOf f.type))=some y) →
   ∃ x,aR (AT W) τ x ((cs.drop o).take τ.cells)∧gL τ x
 | [],_,_,h,_,_=>by simp [fQ] at h
 | [g],o,τ,h,hn,ht=>by
  simp only [fQ,Bool.and_eq_true] at h
  obtain ⟨⟨h1,h2⟩,_⟩:=h
  obtain ⟨y,hy⟩:=ht g (by simp)
  rw [aS.1 h1,gp h2] at hy
  exact IH τ n g.type _ y h2 hn hy
 | g::g'::r,o,τ,h,hn,ht=>by
  cases τ with
  | pair a b =>
   simp only [Ec,Bool.and_eq_true] at hn
   simp only [fQ,Bool.and_eq_true] at h
   obtain ⟨⟨⟨h1,h2⟩,_⟩,h4⟩:=h
   obtain ⟨y,hy⟩:=ht g (by simp)
   rw [aS.1 h1,gp h2] at hy
   obtain ⟨x1,k1,k2⟩:=IH a n g.type _ y h2 hn.1 hy
   obtain ⟨x2,k3,k4⟩:=sP IH (g'::r) (o+a.cells) b h4 hn.2 fun f hf=>ht f (by simp at hf ⊢;exact .inr hf)
   refine ⟨(x1,x2),⟨_,_,?_,k1,k3⟩,k2,k4⟩
   rw [← List.drop_drop]
   show List.take (a.cells+b.cells) (cs.drop o)=_
   rw [List.take_add]
  | _=>simp [fQ] at h
theorem AB:∀ (fuel:Nat) (τ:Ty) (n:Nat) (T:TypeId) (cs:List Value) (y:DataW H × List MemPlace),gf P n T τ=true→Ec τ=true→DataW.trod enc P W base spare held fuel T cs=some y→∃ x,aR (AT W) τ x cs∧gL τ x:=by
 intro fuel
 induction fuel with
 | zero=>intro τ n T cs y _ _ h;simp [DataW.trod] at h
 | succ fuel IH =>
  intro τ n T cs y ht hn h
  cases τ with
  | map a b=>exact (zR ht).elim
  | box e=>cases hn
  | int k =>
   obtain ⟨z,h1,_,h3⟩:=DataW.trod_int (jG ht) h
   exact ⟨z,h1,h3⟩
  | bool =>
   obtain ⟨z,h1,_⟩:=DataW.trod_bool (jY ht) h
   exact ⟨z,h1,trivial⟩
  | str =>
   obtain ⟨z,h1,_,h3⟩:=DataW.trod_string (hD ht) h
   refine ⟨z.data.toList,by rw [h1];simp [aR],?_⟩
   show z.data.toList.length≤maxLen
   have:=h3
   simp only [ByteArray.size] at this
   simpa using this
  | slc e =>
   obtain ⟨E,m,hu,hE⟩:=dW ht
   have hsz:=gp hE
   have hpos:=(dI hE).pos
   rcases DataW.trod_slice hu h with ⟨h1,_⟩ | ⟨a,len,cap,elems,rest,n',hf,h1,_,_,hlc,hcm,hel,hels,_⟩
   ·exact ⟨[],⟨none,0,0,h1,rfl,Nat.le_refl _,.inl rfl⟩,Nat.zero_le _,fun x hx=>by cases hx⟩
   ·have hf':n'=fuel:=by omega
    subst hf'
    have key:∀ i,i<len→∃ x:e.D,∃ c,aR (AT W) e x c∧gL e x∧W.cells? base (a.add (i * e.cells)) e.cells=some c:=by
     intro i hi
     have:=hels i hi
     rw [List.getElem?_eq_getElem (by omega),Option.bind_eq_some_iff] at this
     obtain ⟨c,hc,ht'⟩:=this
     obtain ⟨x,k1,k2⟩:=IH e m E c _ hE hn ht'
     exact ⟨x,c,k1,k2,by rw [← hsz];exact hc⟩
    obtain ⟨xs,hl,hxs⟩:=qf (f:=fun _=>(none:Option Nat)) (R:=fun i (x:e.D)=>∃ c,aR (AT W) e x c∧gL e x∧W.cells? base (a.add (i * e.cells)) e.cells=some c) len key
    refine ⟨xs,⟨some a,len,cap,h1,hl,hlc,?_⟩,?_,fun x hx=>?_⟩
    ·rcases Nat.eq_zero_or_pos len with h0 | h0
     ·exact .inl (List.eq_nil_of_length_eq_zero (by omega))
     ·refine .inr ⟨a.block,a.off,?_,fun i x hx=>?_⟩
      ·obtain ⟨x,c,_,_,hc⟩:=key 0 h0
       have:=(World.cells?_some hc).2.2 0 hpos
       have hlc:=(World.cells?_some hc).2.1
       simp only [Nat.zero_mul,Addr.add,if_true] at this
       rw [List.getElem?_eq_getElem (by omega)] at this
       have hs:=World.cell?_spot this
       cases a;simp at hs;subst hs;rfl
      ·obtain ⟨c,k1,_,hc⟩:=hxs i x hx
       obtain ⟨_,h2,h3⟩:=World.cells?_some hc
       refine ⟨c,k1,fun j v hj=>?_⟩
       have hjl:j<e.cells:=by rw [← h2];exact (List.getElem?_eq_some_iff.1 hj).1
       have:=h3 j hjl
       rw [hj] at this
       have hs:=World.cell?_spot this
       show W.cell? ⟨a.block,a.off+i * e.cells+j,none⟩=some v
       rw [← this]
       congr 1
       have hb:((a.add (i * e.cells)).add j).block=a.block∧((a.add (i * e.cells)).add j).off=a.off+i * e.cells+j:=by
        unfold Addr.add;split <;> split <;> simp_all
       cases hh:(a.add (i * e.cells)).add j with
       | mk b' o' s'=>rw [hh] at hb hs;simp at hb hs;rw [hb.1,hb.2,hs]
    ·show List.length xs≤maxLen;rw [hl];omega
    ·obtain ⟨i,hi⟩:=List.getElem?_of_mem hx
     obtain ⟨c,_,k2,_⟩:=hxs i x hi
     exact k2
  | arr q e =>
   obtain ⟨E,m,hu,hE⟩:=gY ht
   have hsz:=gp hE
   have hszT:=gp ht
   obtain ⟨ys,m',hf,_,hlen,hyl,hys⟩:=DataW.trod_array hu h
   have hf':m'=fuel:=by omega
   subst hf'
   have key:∀ i,i<q→∃ x:e.D,aR (AT W) e x ((cs.drop (i * e.cells)).take e.cells)∧gL e x:=by
    intro i hi
    have:=hys i hi
    rw [List.getElem?_eq_getElem (by omega),hsz] at this
    exact IH e m E _ _ hE hn this
   obtain ⟨xs,hl,hxs⟩:=qf (f:=fun _=>(none:Option Nat)) (R:=fun i (x:e.D)=>aR (AT W) e x ((cs.drop (i * e.cells)).take e.cells)∧gL e x) q key
   refine ⟨xs,⟨hl,vv xs cs ?_ fun i x hx=>(hxs i x hx).1⟩,hl,fun x hx=>?_⟩
   ·rw [hlen,hszT,hl];rfl
   ·obtain ⟨i,hi⟩:=List.getElem?_of_mem hx
    exact (hxs i x hi).2
  | pair a b =>
   obtain ⟨fs,m,hu,_,hfl,_⟩:=gF ht
   have hszT:=gp ht
   obtain ⟨ys,m',hf,_,hlen,hyl,hys⟩:=DataW.trod_struct hu h
   have hf':m'=fuel:=by omega
   subst hf'
   obtain ⟨x,k1,k2⟩:=sP (cs:=cs) IH fs.toList 0 (.pair a b) hfl hn fun f hf=>by
    obtain ⟨i,hi⟩:=List.getElem?_of_mem hf
    have hi':fs[i]? = some f:=by simpa using hi
    have:=hys i f hi'
    rw [List.getElem?_eq_getElem (by rw [hyl];exact (Array.getElem?_eq_some_iff.1 hi').1)] at this
    exact ⟨_,this⟩
   rw [List.drop_zero,List.take_of_length_le (by rw [hlen,hszT];exact Nat.le_refl _)] at k1
   exact ⟨x,k1,k2⟩
def Do (W:World):Gh:={ I:=AT W,O:=fun _ _=>none,ρ:=fun _=>(0,0) }
theorem mI {r:Reach} {b0:Nat} {n:Nat} {T:TypeId} {τ:Ty} {v:Value} {d:DataW H} {ps:List MemPlace} (ht:gf P n T τ=true) (hval:Value.okWide P W r b0 T v) (hd:DataW.Trod enc P W base spare held T v d ps) (hn:Ec τ=true:=by rfl) :
  ∃ x,aY (Do W) W (.dat τ x) v []∧gL τ x:=by
 obtain ⟨fuel,hf⟩:=hd
 obtain ⟨x,h1,h2⟩:=AB fuel τ n T _ _ ht hn hf
 refine ⟨x,⟨v.cells.toList,⟨h1,rfl⟩,?_⟩,h2⟩
 have scalar:(∀ cs,v ≠ .agg cs)→v.cells.toList=[v]:=by
  intro h
  cases v <;> first | rfl | exact absurd rfl (h _)
 cases τ with
 | map a b=>exact (zR ht).elim
 | box e=>cases hn
 | int k =>
  refine scalar fun cs e=>?_
  subst e;simp [Value.okWide,jG ht,Cell.okWide,Cell.ok] at hval
 | bool =>
  refine scalar fun cs e=>?_
  subst e;simp [Value.okWide,jY ht,Cell.okWide,Cell.ok] at hval
 | str =>
  refine scalar fun cs e=>?_
  subst e;simp [Value.okWide,hD ht,Cell.okWide,Cell.ok] at hval
 | slc e =>
  obtain ⟨E,m,hu,_⟩:=dW ht
  refine scalar fun cs e=>?_
  subst e;simp [Value.okWide,hu,Cell.okWide,Cell.ok] at hval
 | arr q e =>
  obtain ⟨E,m,hu,_⟩:=gY ht
  simp only [Value.okWide,hu] at hval
  obtain ⟨cs,rfl,_⟩:=hval
  show Value.agg cs = .agg cs.toList.toArray;simp
 | pair a b =>
  obtain ⟨fs,m,hu,_⟩:=gF ht
  simp only [Value.okWide,hu] at hval
  obtain ⟨cs,rfl,_⟩:=hval
  show Value.agg cs = .agg cs.toList.toArray;simp
theorem H8 (W:World):Wf (Do W) W:=⟨fun _ _ _ h=>h,fun _ _ _ _=>rfl,fun _ _ _ h=>(by cases h),fun _ _ _ h=>(by cases h)⟩
theorem Az {f : FuncId} {fn : Func} {code : Code} {e : Entry} {args : List V} {argv : List Value} (hOK : CallOK P f e) (hf : P.funcs[f]? = some fn) (hb : fn.body = some code) (hnm : (fn.name == "runtime.NumGoroutine") = false)
  (hv:e.val args []=some (.dat .bool true,[])) (hA:cK (Do W) W args argv []) (hTab:MonoC.tab (AT W):=by trivial):Calls P f argv.toArray W fun e w'=>e = .returned (.bool true)∧RowKit.Below W.heap.size W w':=by
 have hdo:=hOK.ok args [] _ _ hv (fun _ _=>False) (Do W) W argv [] [] (H8 W) hTab (fun _ _ _ h=>by cases h) hA rfl (fun g=>by simp) (fun g hg=>by simp at hg)
 have hen:(callFunc f argv.toArray).run P W = .ok (.enter f argv.toArray) W:=by
  have hnm' : ¬ fn.name = "runtime.NumGoroutine" := by simpa using hnm
  unfold callFunc
  simp [hf,hnm',hb]
 rcases hdo with ⟨_,h⟩ | ⟨v,w',h,_⟩
 ·refine Calls.mono h fun e w' he=>?_
  cases e with
  | returned v =>
   obtain ⟨G',hE,_,_,tV,tM,tX,hT,_⟩:=he
   refine ⟨by rw [hT.dat_bool],hE.evo.os,hE.evo.tape,hE.evo.output,hE.evo.size,fun k hk=>?_⟩
   rcases hE.evo.block k hk with h | ⟨c,c',t,fr,h1,h2,h3,h4⟩ | ⟨_,_,_,_,_,_,h⟩
   ·exact h
   ·have:c'=c:=Array.ext_getElem? fun j=>h4 j (fun h=>h)
    rw [h1,h2,this]
   ·exact h.elim
  | _=>exact he.elim
 ·rw [hen] at h;cases h
theorem xP {f : FuncId} {fn : Func} {code : Code} {σ : Sg} {F : σ.In → Option σ.Out} {args : List V} {argv : List Value} {x : σ.In} {r : σ.Out} (hOK : CallOK P f (σ.entry F)) (hf : P.funcs[f]? = some fn) (hb : fn.body = some code) (hnm : (fn.name == "runtime.NumGoroutine") = false)
  (hp:Ar.pull σ.args 0 args=some args) (hd:Dl.dec (dz σ.args++σ.objs) args=some x) (hF:F x=some r) (hv:gX σ.res σ.objs.length σ.outs r = .dat .bool true) (ho:fi σ.res σ.outs r=[])
  (hA:cK (Do W) W args argv []) (hTab:MonoC.tab (AT W):=by trivial):Calls P f argv.toArray W fun e w'=>e = .returned (.bool true)∧RowKit.Below W.heap.size W w':=by
 refine Az hOK hf hb hnm ?_ hA hTab
 unfold Entry.val
 show ((Ar.pull σ.args 0 args).bind fun ds=>(Dl.dec (dz σ.args++σ.objs) (ds++[])).bind fun x=>bnd (F x) fun r=>some (gX σ.res σ.objs.length σ.outs r,fi σ.res σ.outs r))=_
 rw [hp]
 simp only [Option.bind_some,List.append_nil]
 rw [hd]
 simp only [Option.bind_some]
 rw [hF]
 simp only [bnd]
 rw [hv,ho]
end Go.Proofs.YtfhcammihohmjaaGreatDoor.Pal
end
noncomputable section
/- slices.Clone: a list of the call's own. -/
namespace Go.Proofs.YtfhcammihohmjaaGreatDoor.Pal
open Go
variable [MonoC]
variable {P:Program} {X Y:Nat→Nat→Prop} {G0 G G':Gh} {w0 w w':World} {s:St} {a:Act} {c:Cx} {Q:Exit→Act→World→Prop}

abbrev ed (i:Nat) (g:Ground):Edge:={ on:=i,ground:=g }
def nh (T : Nat) : Code := .region 0 #[{ dst := some 2, op := .assign (.const (.slice none 0 0)), type := T, pos := "slices.go:355", after := #[], guard := none }] false
def iq (T B : Nat) : Array Oper := #[{ dst := some 3, op := .move (.tmp 0), type := T, pos := "slices.go:357", after := #[], guard := none },
          { dst := some 4, op := .binOp .eql T (.tmp 3) (.const (.slice none 0 0)) T, type := B, pos := "slices.go:357", after := #[ed 0 .data], guard := none }]
def iF (T : Nat) : Code := .cond (.tmp 4) (.seq (.region 2 #[{ dst := some 2, op := .assign (.const (.slice none 0 0)), type := T, pos := "slices.go:358", after := #[], guard := none }] false) .ret) .skip
def fk (T : Nat) : Code := .seq (.region 3 #[{ dst := some 5, op := .buildSlice T 0 #[], type := T, pos := "slices.go:362", after := #[], guard := none },
          { dst := some 6, op := .move (.tmp 0), type := T, pos := "slices.go:362", after := #[], guard := none },
          { dst := some 7, op := .call { callee := .builtin .append, args := #[.tmp 5, .tmp 6], argTypes := #[T, T] }, type := T, pos := "slices.go:362", after := #[ed 0 .data, ed 1 .data], guard := none },
          { dst := some 2, op := .assign (.tmp 7), type := T, pos := "slices.go:362", after := #[ed 2 .data, ed 2 .chain, ed 0 .phase, ed 1 .phase, ed 2 .phase], guard := none }] false) .ret
def gx (T B:Nat):Code:=.seq (nh T) (.seq (.seq (.region 1 (iq T B) false) (iF T)) (fk T))
def bL (T:Nat) (e:Ty):Cx:=⟨[(T,⟨.slc e,0⟩)],[],[],[(0,⟨[0],[],[],[],0,[],[],[],[],[],[],[]⟩),(2,⟨[2],[],[],[],0,[],[],[],[],[],[],[]⟩),(3,⟨[2],[],[2,3],[],0,[],[],[],[],[],[],[]⟩)],0,[]⟩
@[reducible] def GK (e:Ty):Sg:=⟨[.dat (.slc e)],[],.raw e,[]⟩
@[reducible] def j7 (e:Ty):Sg:=⟨[.dat (.slc e)],[],.own e,[]⟩
def GR:Ex→St→Option St
 | .normal,s=>some s
 | _,_=>none
theorem Bs {T B N:Nat} {e:Ty} (hT:TT P (bL T e)) (hty:(bL T e).ty T=some (.slc e)) (hm:P.follows .mixedOrders=true) (hok:dy (bL T e) N (gx T B)=true) {xs:List e.D} {tmps:Array Value} {α:Type} {K:Ex→St→Option α} {r:α}
  (hR:RS X G0 w0 G (FR [.dat (.slc e) xs] []) tmps w) (hsz:tmps.size=N) (hL:yl X G0 w0 N [] K r Q)
  (h0:run (bL T e) (nh T) (FR [.dat (.slc e) xs] []) GR=some ⟨[(0,.dat (.slc e) xs)],[]⟩)
  (hnil:xs=[]→run (bL T e) (iF T) ⟨[(4,.dat .bool true),(3,.dat (.slc e) xs),(0,.dat (.slc e) xs)],[]⟩ (jU (fun s'=>run (bL T e) (fk T) s' K) K)=some r)
  (hsome:run (bL T e) (iF T) ⟨[(4,.dat .bool false),(3,.dat (.slc e) xs),(0,.dat (.slc e) xs)],[]⟩ (jU (fun s'=>run (bL T e) (fk T) s' K) K)=some r) :
  (gx T B).wp P Q { tmps:=tmps,defers:=[] } w:=by
 have hC:∀ f e',lkN (bL T e).fns f=some e'→CallOK P f e':=fun f e' h=>by cases h
 obtain ⟨E,m,hu,_⟩:=dW (hT.ty hty).1
 have hok2:dy (bL T e) N (nh T)=true∧(dy (bL T e) N (.region 1 (iq T B) false)=true∧dy (bL T e) N (iF T)=true)∧dy (bL T e) N (fk T)=true:=by
  unfold gx at hok
  rw [dy,Bool.and_eq_true] at hok
  rw [dy,Bool.and_eq_true] at hok
  rw [dy,Bool.and_eq_true] at hok
  exact hok
 obtain ⟨k0,⟨k1,k2⟩,k3⟩:=hok2
 have hd34:3<N∧4<N:=by
  simp only [dy,iq,List.all_cons,Bool.and_eq_true] at k1
  exact ⟨Nat.le_of_ble_eq_true k1.1.1,Nat.le_of_ble_eq_true k1.1.2.1⟩
 unfold gx
 refine wp_seq (lq hT hC hm (N:=N) (ds:=[]) (nh T) k0 GR _ _ _ w G ?_ h0 hR hsz rfl)
 intro ex a1 w1 G1 s1 g1 g2 g3 g4
 cases ex with
 | exit i=>cases g4
 | ret=>cases g4
 | normal =>
  injection g4 with g4;subst g4
  show (Code.seq _ _).wp P Q a1 w1
  refine wp_seq (wp_seq (wp_region ?_))
  show wpOps P (iq T B) _ [0,1] a1 w1
  have hmv : fc (bL T e) false false { dst := some 3, op := .move (.tmp 0), type := T, pos := "slices.go:357", after := #[], guard := none } ⟨[(0, .dat (.slc e) xs)], []⟩ some = some ⟨[(3, .dat (.slc e) xs), (0, .dat (.slc e) xs)], []⟩ := rfl
  have s3:=cJ (P:=P) (Q:=Exit.then ((iF T).wp P (Exit.then ((fk T).wp P Q) Q)) (Exit.then ((fk T).wp P Q) Q)) hT hC g1 hmv (fun t ht=>by injection ht with ht;subst ht;show 3<a1.tmps.size;rw [g2];exact hd34.1)
  rw [wpOps_cons]
  unfold wpOp
  rw [show (iq T B)[0]? = some { dst := some 3, op := .move (.tmp 0), type := T, pos := "slices.go:357", after := #[], guard := none } from rfl]
  simp only [Region.wanted,if_true]
  refine .inl (Oper.wp_mono (fun a2 w2 hN=>?_) s3)
  obtain ⟨G2,s2,f1,f2,f3,f4⟩:=hN
  injection f4 with f4;subst f4
  have hsz2:a2.tmps.size=N:=f2.trans g2
  obtain ⟨ts,hv3⟩:=f1.find (t:=3) (v:=.dat (.slc e) xs) rfl trivial
  obtain ⟨ad,len,cap,hx,hl,hlc,hE⟩:=hv3.dat_slc
  have hx':a2.eval (.tmp 3) = .slice ad len cap:=hx
  have hop : (execOp a2.eval { dst := some 4, op := .binOp .eql T (.tmp 3) (.const (.slice none 0 0)) T, type := B, pos := "slices.go:357", after := #[ed 0 .data], guard := none }).run P w2 = .ok (.value (.bool ad.isNone)) w2 := by
   simp only [execOp,hx']
   refine gA ?_
   have hg:=eG (P:=P) (w:=w2) (op:=.eql) (t:=T) (x:=.tmp 3) (y:=.const (.slice none 0 0)) (u:=.slice ad len cap) (v:=.slice none 0 0) (fun cs ds h=>by cases h.1) (fun h=>by cases h.1)
   have hb:=Go.run_eql_slice_nil (P:=P) w2 T E ad len cap hu
   simp only [Sem.run_bind]
   first
    | (rw [show a2.eval (.const (.slice none 0 0)) = .slice none 0 0 from rfl,hg];exact hb)
    | (show Result.andThen _ _=_;rw [hg];exact hb)
  show wpOps P (iq T B) _ [1] a2 w2
  rw [wpOps_cons]
  unfold wpOp
  rw [show (iq T B)[1]? = some { dst := some 4, op := .binOp .eql T (.tmp 3) (.const (.slice none 0 0)) T, type := B, pos := "slices.go:357", after := #[ed 0 .data], guard := none } from rfl]
  simp only [Region.wanted,if_true]
  refine .inl (Oper.wp_mono (fun a3 w3 hN=>?_) (iA (P:=P) (Q:=Exit.then ((iF T).wp P (Exit.then ((fk T).wp P Q) Q)) (Exit.then ((fk T).wp P Q) Q)) (K:=some) (r:=⟨[(4,.dat .bool ad.isNone),(3,.dat (.slc e) xs),(0,.dat (.slc e) xs)],[]⟩) hop (f1.withV (aY.bool ad.isNone)) (fun t ht=>by injection ht with ht;subst ht;show 4<a2.tmps.size;rw [hsz2];exact hd34.2) rfl))
  obtain ⟨G3,s3,p1,p2,p3,p4⟩:=hN
  injection p4 with p4;subst p4
  show (iF T).wp P _ a3 w3
  have hlast:run (bL T e) (iF T) ⟨[(4,.dat .bool ad.isNone),(3,.dat (.slc e) xs),(0,.dat (.slc e) xs)],[]⟩ (jU (fun s'=>run (bL T e) (fk T) s' K) K)=some r:=by
   cases ad with
   | none =>
    refine hnil ?_
    rcases hE with h | ⟨b,o,h,_⟩
    ·exact h
    ·cases h
   | some x=>exact hsome
  refine lq hT hC hm (N:=N) (ds:=[]) (iF T) k2 _ _ _ a3 w3 G3 ?_ hlast p1 (p2.trans hsz2) (p3.trans (f3.trans g3))
  exact lX hL fun a' w' G' s' h1 h2 h3 h4=>lq hT hC hm (fk T) k3 K Q s' a' w' G' hL h4 h1 h2 h3
def qh {α:Type} (xs:List α):Option (List α):=br (bm ([]:List α) xs) (some (app [] xs)) none
end Go.Proofs.YtfhcammihohmjaaGreatDoor.Pal
end
noncomputable section
/- slices.Clone: its contracts, at any type. -/
namespace Go.Proofs.YtfhcammihohmjaaGreatDoor.Pal
open Go
variable [MonoC]
variable {P:Program}
theorem Ay (e:Ty):iX e=(j7 e).entry (fun xs=>qh xs):=by
 unfold iX Sg.entry
 congr 1
 funext α args objs K
 cases args with
 | nil=>rfl
 | cons v vs =>
  cases vs with
  | cons u us=>simp [Ar.pull]
  | nil =>
   cases objs with
   | nil =>
    show (V.as (.slc e) v).bind _=(V.asB (.slc e) v).bind _
    rw [Fg (.slc e) v rfl]
    cases h:V.as (.slc e) v with
    | none=>rfl
    | some xs =>
     simp only [Option.bind_some]
     show br (bm ([]:List Int) (id xs:List e.D)) (K (.own e (id xs:List e.D)) []) none=bnd (qh (id xs:List e.D)) fun r=>K (.own e r) []
     unfold qh
     have:bm ([]:List Int) (id xs:List e.D)=bm ([]:List e.D) (id xs:List e.D):=rfl
     rw [this]
     cases bm ([]:List e.D) (id xs:List e.D) <;> rfl
   | cons o os =>
    simp [Ar.pull,dz,Dl.dec]
theorem nV {f T B:Nat} {e:Ty} {fn:Func} (hT:TT P (bL T e)) (hty:(bL T e).ty T=some (.slc e)) (hm:P.follows .mixedOrders=true)
  (hf : P.funcs[f]? = some fn) (hb : fn.body = some (gx T B)) (hnm : (fn.name == "runtime.NumGoroutine") = false) (hn : fn.ntmps = 8) (hr : fn.results = #[.tmp 2])
  (hok:dy (bL T e) 8 (gx T B)=true)
  (h0:∀ xs:List e.D,run (bL T e) (nh T) (FR [.dat (.slc e) xs] []) GR=some ⟨[(0,.dat (.slc e) xs)],[]⟩)
  (hnil:run (bL T e) (iF T) ⟨[(4,.dat .bool true),(3,.dat (.slc e) []),(0,.dat (.slc e) [])],[]⟩ (jU (fun s'=>run (bL T e) (fk T) s' ((j7 e).K (bL T e) [.tmp 2])) ((j7 e).K (bL T e) [.tmp 2]))=qh [])
  (hsome:∀ xs:List e.D,run (bL T e) (iF T) ⟨[(4,.dat .bool false),(3,.dat (.slc e) xs),(0,.dat (.slc e) xs)],[]⟩ (jU (fun s'=>run (bL T e) (fk T) s' ((j7 e).K (bL T e) [.tmp 2])) ((j7 e).K (bL T e) [.tmp 2]))=qh xs):CallOK P f (iX e):=by
 rw [Ay]
 refine D1 (c:=bL T e) (code:=gx T B) hT hf hb hnm (by rw [hn];rfl) (by rw [hr];rfl) rfl ?_
 intro xs r hF X G w tmps Q hR hsz hL
 rw [hr] at hL
 rw [hn] at hsz hL
 refine Bs hT hty hm hok (K:=(j7 e).K (bL T e) [.tmp 2]) hR hsz hL (h0 xs) ?_ ?_
 ·intro h;subst h;exact hnil.trans hF
 ·exact (hsome xs).trans hF
end Go.Proofs.YtfhcammihohmjaaGreatDoor.Pal
end
noncomputable section
/- slices.SortFunc: what it leaves in a row of the call's own. -/
namespace Go.Proofs.YtfhcammihohmjaaGreatDoor.Pal
open Go Go.Sort
variable [MonoC]
variable {P:Program} {X Y:Nat→Nat→Prop} {G0 G G':Gh} {w0 w w':World} {s:St} {a:Act} {c:Cx} {Q:Exit→Act→World→Prop}

def eM:Ty→Bool
 | .int _ | .bool | .str=>true
 | .slc _ | .arr .. | .map .. | .box _=>false
 | .pair a b=>eM a && eM b
def eD:(τ:Ty)→τ.D→List Value
 | .int k,n=>[.int k n]
 | .bool,b=>[.bool b]
 | .str,s=>[.string ⟨s.toArray⟩]
 | .slc _,_=>[]
 | .arr ..,_=>[]
 | .map ..,_=>[]
 | .box _,_=>[]
 | .pair a b,x=>eD a x.1++eD b x.2
theorem fV {I:Im}:∀ (τ:Ty) (x:τ.D) (cs:List Value),eM τ=true→(aR I τ x cs ↔ cs=eD τ x)
 | .int _,_,_,_=>Iff.rfl
 | .bool,_,_,_=>Iff.rfl
 | .str,_,_,_=>Iff.rfl
 | .slc _,_,_,h=>by simp [eM] at h
 | .arr _ _,_,_,h=>by simp [eM] at h
 | .map _ _,_,_,h=>by simp [eM] at h
 | .box _,_,_,h=>by simp [eM] at h
 | .pair a b,x,cs,h=>by
  simp only [eM,Bool.and_eq_true] at h
  constructor
  ·rintro ⟨c1,c2,e,h1,h2⟩
   rw [e,(fV a x.1 c1 h.1).1 h1,(fV b x.2 c2 h.2).1 h2];rfl
  ·intro e
   exact ⟨eD a x.1,eD b x.2,e,(fV a _ _ h.1).2 rfl,(fV b _ _ h.2).2 rfl⟩
theorem qt (τ:Ty) (h:eM τ=true) (x:τ.D):(eD τ x).length=τ.cells:=aR.length (I:=fun _ _=>none) τ x _ ((fV τ x _ h).2 rfl)
theorem i9 {I:Im} {e:Ty} (h:eM e=true):∀ (xs:List e.D) (cc:List Value),bC (aR I e) xs cc ↔ cc=xs.flatMap (eD e)
 | [],cc=>Iff.rfl
 | x::xs,cc=>by
  constructor
  ·rintro ⟨c1,c2,e1,h1,h2⟩
   rw [e1,(fV e x c1 h).1 h1,(i9 h xs c2).1 h2];rfl
  ·intro e1
   exact ⟨eD e x,xs.flatMap (eD e),e1,(fV e x _ h).2 rfl,(i9 h xs _).2 rfl⟩
theorem om {e:Ty} (h:eM e=true) (xs:List e.D):(xs.flatMap (eD e)).length=xs.length * e.cells:=by
 have:=bC.len ((i9 (I:=fun _ _=>none) h xs _).2 rfl)
 exact this
theorem iL {e:Ty} (h:eM e=true):∀ (xs:List e.D) (j:Nat),j<xs.length * e.cells→∃ x,xs[j / e.cells]? = some x∧(xs.flatMap (eD e))[j]? = (eD e x)[j % e.cells]?
 | [],j,hj=>by simp at hj
 | x::xs,j,hj=>by
  have hl:=qt e h x
  rcases Nat.lt_or_ge j e.cells with h1 | h1
  ·refine ⟨x,by rw [Nat.div_eq_of_lt h1];rfl,?_⟩
   rw [List.flatMap_cons,List.getElem?_append_left (by omega),Nat.mod_eq_of_lt h1]
  ·have hpos:0<e.cells:=by
    rcases Nat.eq_zero_or_pos e.cells with h0 | h0
    ·rw [h0] at hj;simp at hj
    ·exact h0
   obtain ⟨y,g1,g2⟩:=iL h xs (j - e.cells) (by simp only [List.length_cons,Nat.add_mul] at hj;omega)
   have hd:j / e.cells=(j - e.cells) / e.cells+1:=by rw [Nat.div_eq_sub_div hpos h1]
   have hm:j % e.cells=(j - e.cells) % e.cells:=Nat.mod_eq_sub_mod h1
   refine ⟨y,by rw [hd];simpa using g1,?_⟩
   rw [List.flatMap_cons,List.getElem?_append_right (by omega),hl,hm];exact g2
theorem pA {α:Type} (lt:α→α→Bool) (x:α):∀ l,(FP lt x l).Perm (x::l)
 | []=>List.Perm.refl _
 | y::r=>by
  simp only [FP]
  cases lt y x with
  | true=>exact ((pA lt x r).cons y).trans (List.Perm.swap x y r)
  | false=>exact List.Perm.refl _
theorem dH {α:Type} (lt:α→α→Bool):∀ l,(fH lt l).Perm l
 | []=>List.Perm.refl _
 | x::r=>(pA lt x _).trans ((dH lt r).cons x)
theorem oW {α:Type} {lt:α→α→Bool} (hO:SWO lt) (x:α):∀ l,l.Pairwise (fun a b=>lt b a=false)→(FP lt x l).Pairwise (fun a b=>lt b a=false)
 | [],_=>List.pairwise_singleton _ _
 | y::r,h=>by
  simp only [FP]
  rw [List.pairwise_cons] at h
  have asym:∀ a b,lt a b=true→lt b a=false:=fun a b hab=>by
   cases hba:lt b a with
   | false=>rfl
   | true=>have:=hO.trans a b a hab hba;rw [hO.irrefl] at this;cases this
  cases hyx:lt y x with
  | true =>
   simp only [cond_true]
   refine List.pairwise_cons.2 ⟨fun z hz=>?_,oW hO x r h.2⟩
   have hz':=(pA lt x r).mem_iff.1 hz
   rcases List.mem_cons.1 hz' with rfl | hz'
   ·exact asym _ _ hyx
   ·exact h.1 z hz'
  | false =>
   simp only [cond_false]
   refine List.pairwise_cons.2 ⟨fun z hz=>?_,List.pairwise_cons.2 h⟩
   rcases List.mem_cons.1 hz with rfl | hz
   ·exact hyx
   ·exact hO.ntrans z y x (h.1 z hz) hyx
theorem eS {α:Type} {lt:α→α→Bool} (hO:SWO lt):∀ l,(fH lt l).Pairwise (fun a b=>lt b a=false)
 | []=>List.Pairwise.nil
 | x::r=>oW hO x _ (eS hO r)
theorem iU {α:Type} {lt:α→α→Bool} (hT:∀ x y,lt x y=false→lt y x=false→x=y) {l1 l2:List α} (hp:l1.Perm l2) (h1:l1.Pairwise (fun a b=>lt b a=false)) (h2:l2.Pairwise (fun a b=>lt b a=false)):l1=l2 :=
 List.Perm.eq_of_pairwise (fun x y _ _ hx hy=>hT x y hy hx) h1 h2 hp

theorem tj (e:Ty) (hp:eM e=true) (ha:e.agg=true) (G:Gh) (w:World) (x:e.D):aY G w (.dat e x) (.agg (eD e x).toArray) []:=by
 refine ⟨eD e x,⟨(fV e x _ hp).2 rfl,rfl⟩,?_⟩
 show (if e.agg then _ else _)
 rw [ha];rfl
instance inhD (e:Ty):Inhabited e.D:=⟨e.zero⟩
theorem By {g:Nat} {ce:Entry} {e:Ty} {cf:e.D→e.D→Int} (hp:eM e=true) (ha:e.agg=true) (hg:@CallOK (.just True) P g ce) (eg:∀ args w,(callFunc g args).run P w = .ok (.enter g args) w)
  (hcf:∀ x y,ce.val [.dat e x,.dat e y] []=some (.dat (.int .i64) (cf x y),[])) (blk off size:Nat) (w:World):CmpLays P g #[] (eD e) e.cells cf blk off size w:=by
 intro m os dk _ x y
 have h:=pT (w:=sortWorldK (eD e) e.cells w blk off m dk os) (argv:=[.agg (eD e x).toArray,.agg (eD e y).toArray]) hg eg (hcf x y)
  (fun G=>⟨_,_,[],[],rfl,rfl,tj e hp ha _ _ x,_,_,[],[],rfl,rfl,tj e hp ha _ _ y,rfl,rfl⟩)
 have h':Calls P g (#[.agg (eD e x).toArray,.agg (eD e y).toArray] ++ #[]) (sortWorldK (eD e) e.cells w blk off m dk os) _:=h
 refine Calls.mono h' fun e' w' hh=>?_
 obtain ⟨⟨G',y',t,h1,h2⟩,h3⟩:=hh
 exact ⟨by rw [h1,h2.dat_int],h3⟩
theorem rK {I:Im} {e:Ty} (hp:eM e=true) {gb:Nat} {xs:List e.D} {m:Nat} (h:Cf I w gb e xs m):HoldsK (eD e) e.cells w gb 0 xs.toArray∧gb<w.heap.size:=by
 obtain ⟨cells,t,cc,hg,hs,hA,hc⟩:=h
 refine ⟨fun j hj=>?_,(Array.getElem?_eq_some_iff.1 hg).1⟩
 simp only [size_flatK,List.size_toArray] at hj
 have hcc:=(i9 hp xs cc).1 hA
 obtain ⟨x,g1,g2⟩:=iL hp xs j hj
 have hpos:0<e.cells:=by
  rcases Nat.eq_zero_or_pos e.cells with h0 | h0
  ·rw [h0] at hj;simp at hj
  ·exact h0
 have hm:j % e.cells<(eD e x).length:=by rw [qt e hp];exact Nat.mod_lt _ hpos
 constructor
 ·rw [bF hg,Nat.zero_add,get_flatK _ _ _ _ (by simpa using hj)]
  have h1:(xs.toArray)[j / e.cells]! = x:=by
   rw [Array.getElem!_eq_getD,Array.getD_eq_getD_getElem?];simp [g1]
  rw [h1]
  have h2:cc[j]? = some ((eD e x)[j % e.cells]):=by rw [hcc,g2,List.getElem?_eq_getElem hm]
  rw [hc j _ h2,getElem!_pos (eD e x) (j % e.cells) hm];rfl
 ·simp only [World.frozen?,hg];simp

theorem vG {gb:Nat} {F:Array Value} {cells:Array Value} {t:TypeId} {fr:Nat × Nat} (hg:w.heap[gb]? = some (.cells cells t fr)) (n:Nat) (os:Array Obj) :
  (grow (putRow id (Sort.ahead w n) gb 0 F) os).heap[gb]? = some (.cells (putCells id 0 F cells) t fr)∧(∀ b,b<w.heap.size→b ≠ gb→(grow (putRow id (Sort.ahead w n) gb 0 F) os).heap[b]? = w.heap[b]?)∧w.heap.size≤(grow (putRow id (Sort.ahead w n) gb 0 F) os).heap.size:=by
 have hlt:=(Array.getElem?_eq_some_iff.1 hg).1
 refine ⟨?_,fun b hb hne=>?_,?_⟩
 ·show ((w.heap.modify gb _)++os)[gb]? = _
  rw [Array.getElem?_append_left (by simpa using hlt),Array.getElem?_modify,if_pos rfl,hg];rfl
 ·show ((w.heap.modify gb _)++os)[b]? = _
  rw [Array.getElem?_append_left (by simpa using hb),Array.getElem?_modify,if_neg (by omega)]
 ·show w.heap.size≤((w.heap.modify gb _)++os).size
  simp
theorem DY {ρ : Shelf.Ren} {e : Ty} {g : Nat} {ce : Entry} {cf : e.D → e.D → Int} (L : SlLaysF0.n6 P ρ) (hp : eM e = true) (ha : e.agg = true) (aE : ∀ w, (isAgg (ρ.t 24)).run P w = .ok true w) (zE : ∀ w, (Go.sizeOf (ρ.t 24)).run P w = .ok e.cells w)
    (hO:SWO (ltOf cf)) (hT:∀ x y,ltOf cf x y=false→ltOf cf y x=false→x=y) (hg:@CallOK (.just True) P g ce) (eg:∀ args w,(callFunc g args).run P w = .ok (.enter g args) w) (ef:∀ args w,(callFunc (ρ.f 6) args).run P w = .ok (.enter (ρ.f 6) args) w)
    (hcf:∀ x y,ce.val [.dat e x,.dat e y] []=some (.dat (.int .i64) (cf x y),[])):CallOK P (ρ.f 6) (qV e g (ltOf cf)):=by
  have val : ∀ args objs v os, (qV e g (ltOf cf)).val args objs = some (v, os) → ∃ xs : List e.D, args = [.raw e xs, .fn g []] ∧ objs = [] ∧ xs.length ≤ 4294967296 ∧ v = .unit ∧ os = [.raw e (fH (ltOf cf) xs)] := by
    intro args objs v os h
    unfold Entry.val qV at h
    simp only at h
    split at h
    · rename_i e' xs g'
      split at h
      · rename_i he;subst he
        obtain ⟨hb,h⟩:=ap h
        obtain ⟨hr,h⟩:=cw h
        injection h with h;injection h with h1 h2
        have:=aS.1 hb
        subst this
        exact ⟨xs,rfl,rfl,by have:=hr;simp only [bm,List.length_nil,Nat.zero_add,decide_eq_true_eq] at this;exact this,h1.symm,h2.symm⟩
      · cases h
    · cases h
  refine ⟨fun α args objs K=>?_,fun args objs vr os hval X G w argv tA tM hW hTab hX hA hM hcnt htok=>?_⟩
  · unfold Entry.val qV
    simp only
    split
    · split
      · rw [bD];congr 1
        rw [bX];rfl
      · rfl
    · rfl
  · obtain ⟨xs,rfl,rfl,hlen,rfl,rfl⟩:=val _ _ _ _ hval
    obtain ⟨x0,r0,t1,t2,rfl,rfl,⟨cs,⟨ad,len,cap,e1,e2,e3,e4⟩,hx⟩,x1,r1,t3,t4,rfl,rfl,⟨cs1,⟨cv,f1,f2,f3⟩,hx1⟩,rfl,rfl⟩:=hA
    simp only [V.agg,Bool.false_eq_true,if_false] at hx hx1
    rw [e1] at hx;rw [f1] at hx1
    simp only [List.cons.injEq,and_true] at hx hx1
    subst hx;subst hx1;subst f3
    have hcv:cv=#[]:=by apply Array.ext';simpa [dB] using f2
    subst hcv
    obtain ⟨hM1,hM2⟩:tM=[]∧True:=⟨hM,trivial⟩
    have post : ∀ w', Evo X w w' → (∀ b o v, G.I b o = some v → w'.cell? ⟨b, o, none⟩ = some v) → iV G w' e (fH (ltOf cf) xs) [.slice ad len cap] t1 →
        ∃ G',uo X G w 0 .unit [.raw e (fH (ltOf cf) xs)] (.tuple #[]) (some (.slice ad len cap)) G' w':=by
      intro w' hE hc hr
      refine ⟨G,⟨hE,Im.le_refl _,fun _ _ _ h=>.inl h,fun _ _ _=>rfl⟩,⟨hc,hW.io,fun b o k h=>Nat.lt_of_lt_of_le (hW.lt b o k h) hE.size,hW.whole⟩,fun _ _=>rfl,[],[],t1,pM,rfl,?_,fun q=>?_,fun q hq=>?_⟩
      · exact ⟨_,rfl,[.slice ad len cap],hr,rfl⟩
      · have:=hcnt q;simp at this ⊢;omega
      · exact .inr (htok q (by simp at hq ⊢;omega))
    refine .inl ⟨ef _ _,?_⟩
    rcases Nat.eq_zero_or_pos len with h0 | h0
    · have hxs:xs=[]:=List.eq_nil_of_length_eq_zero (by omega)
      subst hxs;subst h0
      refine Calls.mono (AnyF.slices_SortFunc_none L ad cap (.func (.func g) #[] #[]) w) fun e' w' hh=>?_
      obtain ⟨rfl,rfl⟩:=hh
      exact post w' (Evo.refl _ _) hW.holds ⟨ad,0,cap,rfl,rfl,e3,e4⟩
    · rcases e4 with ⟨hc0,_⟩ | ⟨gb,rfl,rfl,hraw,hI,hO'⟩
      · omega
      · obtain ⟨hH,hlt⟩:=rK hp hraw
        obtain ⟨cells,ty,cc,hgc,hs,hA2,hcc⟩:=hraw
        have hsz:xs.toArray.size=len:=by simpa using e2
        have hcon := AnyQ.slices_SortFunc L e.cells aE zE (eD e) (qt e hp) (fun x v hv => dO (aR.plain (I := fun _ _ => none) e x _ ((fV e x _ hp).2 rfl) v hv)) cf hO g #[] gb 0 cap xs.toArray w eg
          (By hp ha hg eg hcf gb 0 _ w) hH hlt (by rw [hsz];omega)
        rw [hsz] at hcon
        refine Calls.mono hcon fun e' w' hh=>?_
        obtain ⟨rfl,d',n,os,hperm,hsort,rfl⟩:=hh
        have hd' : d'.toList = fH (ltOf cf) xs := by
          have hs2:d'.size=len:=by rw [hperm.1];exact hsz
          have hp2 : d'.toList.Perm xs := by
            have:=hperm.2.2
            have e5:d'.extract 0 len=d':=by rw [← hs2];simp
            have e6:xs.toArray.extract 0 len=xs.toArray:=by rw [← hsz];simp
            rw [e5,e6] at this
            simpa using this
          refine iU hT (hp2.trans (dH _ xs).symm) ?_ (eS hO xs)
          rw [List.pairwise_iff_getElem]
          intro i j hi hj hij
          have:=hsort i j (Nat.zero_le _) hij (by rw [← hs2];simpa using hj)
          have gi:d'[i]! = d'.toList[i]:=by rw [getElem!_pos d' i (by simpa using hi)];simp
          have gj:d'[j]! = d'.toList[j]:=by rw [getElem!_pos d' j (by simpa using hj)];simp
          rw [gi,gj] at this
          exact this
        have hlen':(fH (ltOf cf) xs).length=len:=by rw [(dH (ltOf cf) xs).length_eq];exact e2
        obtain ⟨k1,k2,k3⟩:=vG (F:=flatK (eD e) e.cells d') hgc n os
        have hone:bi gb [gb]=1:=by simp [bi]
        have hX1:∀ o,X gb o:=htok gb (by simp only [bN];omega)
        refine post _ ⟨rfl,rfl,rfl,k3,fun b hb=>?_,fun _=>Nat.le_add_right _ _⟩ (fun b o v hv=>?_) ⟨_,len,cap,rfl,hlen',e3,.inr ⟨gb,rfl,rfl,⟨_,ty,_,k1,by simp [putCells,hs],(i9 hp _ _).2 rfl,fun j v hj=>?_⟩,hI,hO'⟩⟩
        · by_cases hb':b=gb
          · subst hb'
            exact .inr (.inl ⟨cells,_,ty,(0,0),hgc,k1,by simp [putCells],fun j hj=>absurd (hX1 j) hj⟩)
          · exact .inl (k2 b hb hb')
        · have hb':b ≠ gb:=fun e=>by subst e;rw [hI o] at hv;cases hv
          have hh:=hW.holds b o v hv
          have hlt':=World.block_lt_of_cell? w _ hh
          have:(sortWorldK (eD e) e.cells w gb 0 n d' os).cell? ⟨b,o,none⟩=w.cell? ⟨b,o,none⟩:=World.cell?_of_block (w:=w) (k2 b hlt' hb')
          rw [this];exact hh
        · have hjl : j < (fH (ltOf cf) xs).length * e.cells := by
            have:=(List.getElem?_eq_some_iff.1 hj).1
            rwa [om hp] at this
          obtain ⟨x,q1,q2⟩:=iL hp _ j hjl
          rw [q2] at hj
          have hds:d'.size=len:=by rw [hperm.1];exact hsz
          have hjd:j<d'.size * e.cells:=by rw [hds,← hlen'];exact hjl
          have hjc : j < cells.size := by
            rw [hs]
            exact Nat.lt_of_lt_of_le hjd (Nat.mul_le_mul_right _ (by omega))
          have hx : d'[j / e.cells]! = x := by
            rw [← hd'] at q1
            rw [Array.getElem!_eq_getD,Array.getD_eq_getD_getElem?]
            have:d'[j / e.cells]? = some x:=by simpa using q1
            rw [this];rfl
          have hm:=(List.getElem?_eq_some_iff.1 hj)
          simp only [putCells,Array.getElem?_mapIdx,Array.getElem?_eq_getElem hjc,Option.map_some,size_flatK,Nat.zero_add,Nat.sub_zero]
          rw [if_pos ⟨Nat.zero_le _,hjd⟩,get_flatK _ _ _ _ hjd,hx,getElem!_pos (eD e x) (j % e.cells) hm.1]
          exact congrArg some hm.2
end Go.Proofs.YtfhcammihohmjaaGreatDoor.Pal
end
noncomputable section
/- What slices.Insert and slices.Clone lean on: copies of rows, and what is given back. -/
namespace Go.Proofs.YtfhcammihohmjaaGreatDoor
open Go.Shelf Go.RowKit Go.Lib
theorem eP {P:Program} (k:Nat) (w:World) (dT sT ty elem:TypeId) (b o dLen dCap:Nat) (a:Addr) (sLen sCap:Nat) (cs:List Value)
  (hu:P.underlying dT=some (.slice elem)) (hs:(P.info? elem).map (·.size)=some k) (bi:Nat) (hm:Nat.min sLen dLen=bi) (hn:cs.length=bi * k)
  (hsrc:∀ (j:Nat) (v:Value),cs[j]? = some v→w.cell? (a.add j)=some v) (hc:∀ j,j<cs.length→(w.cell? ⟨b,o+j,none⟩).isSome=true) (hf:∀ j,j<cs.length→w.frozen? ⟨b,o+j,none⟩=false) (h1:∀ v ∈ cs,v.oneCell'=true) :
  (Builtin.copy_ #[dT,sT] ty #[.slice (some ⟨b,o,none⟩) dLen dCap,.slice (some a) sLen sCap]).run P w = .ok (goInt bi) (w.setCells b o cs):=by
 subst hm
 have hl:=run_loadCells_list (P:=P) w a cs hsrc
 have hst:=run_storeCells_cells (P:=P) b o cs 0 w (by simpa using hc) (by simpa using hf) h1
 rw [hn] at hl
 cases hq:P.info? elem with
 | none=>simp [hq] at hs
 | some i =>
  have hi:i.size=k:=by simpa [hq] using hs
  simp [Builtin.copy_,run_underlying hu,Builtin.lenOf,Builtin.firstCells,sizeOf,typeInfo,hq,hi,hl,hst]
def yJ (k:Nat) (i:TypeInfo):Bool:=(match i.zero with | some z=>z.cells.size == k | none=>false) && i.size == k && Nat.ble i.bytes 16384
theorem fZ {P:Program} {k t:Nat} (h:(P.info? t).map (yJ k)=some true):∃ i z,P.info? t=some i∧i.zero=some z∧i.size=k∧i.bytes≤16384∧z.cells.size=k:=by
 cases hq:P.info? t with
 | none=>rw [hq] at h;cases h
 | some i =>
  rw [hq] at h;injection h with h
  unfold yJ at h
  simp only [Bool.and_eq_true,beq_iff_eq] at h
  cases hz:i.zero with
  | none=>rw [hz] at h;cases h.1.1
  | some z=>rw [hz] at h;exact ⟨i,z,rfl,hz,h.1.2,Nat.le_of_ble_eq_true h.2,by simpa using h.1.1⟩
theorem jX {P:Program} (w:World) (tS tR e:TypeId) (ht:P.underlying tS=some (.slice e)) (size:Nat) (hz:∀ w,(Go.sizeOf e).run P w = .ok size w)
  (a b:Addr) (la ca lb cb:Nat) (hne:a.block ≠ b.block) (tA tB:TypeId) (kA kB:Nat)
  (hsa:w.shape? a.block=some (tA,kA)) (hsb:w.shape? b.block=some (tB,kB)) (hkA:kA ≠ 0)
  (hfb:w.frozen? b=false) (hfe:w.frozen? { block:=b.block,off:=kB }=false) :
  (Extern.SlicesOverlaps.overlaps #[tS,tS] #[tR] #[.slice (some a) la ca,.slice (some b) lb cb]).run P w = .ok (.bool false) w:=by
 have hnb:(a.block != b.block)=true:=by simpa using hne
 have hnb':(a.block == b.block)=false:=by simpa using hne
 change Sem.run P (α:=Value) (do
  let some t := (#[tS, tS] : Array TypeId)[0]? | stuck "slices.overlaps: no parameter types"
  let .slice elem ← underlying t | stuck "slices.overlaps: slice type expected"
  let size ← sizeOf elem
  match (some a:Option Addr),(some b:Option Addr) with
  | some a,some b =>
   if la=0∨lb=0∨size=0 then pure (Value.bool false)
   else if a.block != b.block && (← frozen a) && (← frozen b) then unsupported .addressObserved
   else do
    if a.block != b.block then do
     noView a;noView b
     if ← mayBeOne a b then return Value.bool ((← choose (.extern "sameAddr.stringBytes" 2)) == 1)
    pure (Value.bool (a.block == b.block && a.off<b.off+lb * size && b.off<a.off+la * size))
  | _,_=>pure (Value.bool false)) w=_
 by_cases h0:la=0∨lb=0∨size=0
 ·simp [run_underlying ht,hz,h0]
 ·cases kA with
  | zero=>exact absurd rfl hkA
  | succ kA =>
   by_cases hf1:w.frozen? a=true <;> by_cases hf2:w.frozen? { block:=a.block,off:=kA+1 }=true <;>
    simp [run_underlying ht,hz,h0,hnb,hnb',frozen,noView,viewAt,mayBeOne,stringish,shape,Sem.run,hsa,hsb,hfb,hfe,hf1,hf2]
end Go.Proofs.YtfhcammihohmjaaGreatDoor
namespace Go.Proofs.YtfhcammihohmjaaGreatDoor.Pal
open Go Go.Sort
variable {P:Program}
theorem fU {X:Nat→Nat→Prop} {G:Gh} {w w':World} {e:Ty} {zs:List e.D} {g cap:Nat} {cells:Array Value} {t:TypeId} {cc:List Value} {ax:Option Value} (hW:Wf G w) (hE:Evo X w w')
  (hk:∀ b,b<w.heap.size→b ≠ g→w'.heap[b]? = w.heap[b]?) (hg:w'.heap[g]? = some (.cells cells t (0,0))) (hs:cells.size=cap * e.cells) (hcap:zs.length≤cap∧cap≤9223372036854775807)
  (hA:bC (aR G.I e) zs cc) (hcc:∀ (j:Nat) (v:Value),cc[j]? = some v→w'.cell? ⟨g,j,none⟩=some v)
  (hI:∀ o,G.I g o=none) (hO:∀ o,G.O g o=none) (hX:w.heap.size≤g∨∀ o,X g o) :
  ∃ G',uo X G w 0 (.own e zs) [] (.slice (some ⟨g,0,none⟩) zs.length cap) ax G' w':=by
 have hcl:=hA.len
 have hold:∀ b o v,G.I b o=some v→w'.cell? ⟨b,o,none⟩=some v∧b ≠ g:=fun b o v hv=>by
  have hb':b ≠ g:=fun e=>by subst e;rw [hI o] at hv;cases hv
  have hh:=hW.holds b o v hv
  exact ⟨by rw [World.cell?_of_block (w:=w) (hk b (World.block_lt_of_cell? w _ hh) hb')];exact hh,hb'⟩
 let G':Gh:={ G with I:=fun b o=>if b=g then cc[o]? else G.I b o }
 have hI':∀ b o,b ≠ g→G'.I b o=G.I b o:=fun b o hb=>by show (if b=g then cc[o]? else G.I b o)=_;rw [if_neg hb]
 have hIg:∀ o,G'.I g o=cc[o]?:=fun o=>by show (if g=g then cc[o]? else _)=_;rw [if_pos rfl]
 refine ⟨G',⟨hE,fun b o v hv=>by rw [hI' b o (hold b o v hv).2];exact hv,fun b o v hv=>?_,fun _ _ _=>rfl⟩,⟨fun b o v hv=>?_,fun b o v hv=>?_,fun b o k h=>Nat.lt_of_lt_of_le (hW.lt b o k h) hE.size,hW.whole⟩,fun _ _=>rfl,[g],[],[],?_,rfl,rfl,fun q=>?_,fun q hq=>?_⟩
 ·by_cases hb:b=g
  ·subst hb;rcases hX with h | h
   ·exact .inr (.inl h)
   ·exact .inr (.inr (h o))
  ·rw [hI' b o hb] at hv;exact .inl hv
 ·by_cases hb:b=g
  ·subst hb;rw [hIg] at hv;exact hcc o v hv
  ·rw [hI' b o hb] at hv;exact (hold b o v hv).1
 ·by_cases hb:b=g
  ·subst hb;exact hO o
  ·rw [hI' b o hb] at hv;exact hW.io b o v hv
 ·have hat:ym G'.I g 0 cc:=fun j v hj=>by rw [Nat.zero_add,hIg];exact hj
  refine ⟨_,⟨_,zs.length,cap,rfl,rfl,hcap,.inr ⟨g,rfl,rfl,?_,⟨cells,t,hg,hs⟩,fun o ho=>?_,hO⟩⟩,rfl⟩
  ·exact d8.mono (Im.le_refl _) (fun x c h=>aR.mono (fun b o v hv=>by rw [hI' b o (hold b o v hv).2];exact hv) e x c h) (bC.elems (fun x c=>aR.length e x c) zs cc g 0 hA hat)
  ·rw [hIg,List.getElem?_eq_none (by rw [hcl];exact ho)]
 ·have:bi q [g]≤1:=by simp only [bi];exact List.count_le_length
  simpa using this
 ·have:q=g:=by simpa [bb.symm] using hq
  subst this;exact hX
theorem bU (b:Nat):∀ (vs:List Value) (o:Nat) (w:World) (cells:Array Value) (t:TypeId) (fr:Nat × Nat),w.heap[b]? = some (.cells cells t fr)→∃ cells',(w.setCells b o vs).heap[b]? = some (.cells cells' t fr)∧cells'.size=cells.size
 | [],_,w,cells,t,fr,h=>⟨cells,h,rfl⟩
 | v::vs,o,w,cells,t,fr,h=>by
  have h1:(w.setCell ⟨b,o,none⟩ v).heap[b]? = some (.cells (cells.setIfInBounds o v) t fr):=by
   have hlt:=(Array.getElem?_eq_some_iff.1 h).1
   show (w.heap.modify b _)[b]? = _
   rw [Array.getElem?_modify,if_pos rfl,h];rfl
  obtain ⟨c',k1,k2⟩:=bU b vs (o+1) _ _ _ _ h1
  exact ⟨c',k1,by rw [k2];simp⟩
theorem bT (b:Nat):∀ (vs:List Value) (o:Nat) (w:World) (b':Nat),b' ≠ b→(w.setCells b o vs).heap[b']? = w.heap[b']?
 | [],_,_,_,_=>rfl
 | v::vs,o,w,b',h=>by
  show ((w.setCell ⟨b,o,none⟩ v).setCells b (o+1) vs).heap[b']? = _
  rw [bT b vs (o+1) _ b' h]
  show (w.heap.modify b _)[b']? = _
  rw [Array.getElem?_modify,if_neg (by omega)]
theorem zV (cs vs:List Value) (k l:Nat) (hk:k≤cs.length) (hl:vs.length=l) (j:Nat) (v:Value) (h:(cs.take k++(vs++cs.drop k))[j]? = some v) :
  (j<k∧cs[j]? = some v)∨(k≤j∧j<k+l∧vs[j - k]? = some v)∨(k+l≤j∧(cs.drop k)[j - (k+l)]? = some v):=by
 have h1:(cs.take k).length=k:=by simp;omega
 rcases Nat.lt_or_ge j k with hj | hj
 ·rw [List.getElem?_append_left (by omega),List.getElem?_take,if_pos hj] at h
  exact .inl ⟨hj,h⟩
 ·rw [List.getElem?_append_right (by omega),h1] at h
  rcases Nat.lt_or_ge j (k+l) with hj2 | hj2
  ·rw [List.getElem?_append_left (by omega)] at h
   exact .inr (.inl ⟨hj,hj2,h⟩)
  ·rw [List.getElem?_append_right (by omega)] at h
   refine .inr (.inr ⟨hj2,?_⟩)
   rw [← h];congr 1;omega
theorem gR (b:Nat):∀ (vs:List Value) (o:Nat) (w:World),(w.setCells b o vs).os=w.os
 | [],_,_=>rfl
 | v::vs,o,w=>gR b vs (o+1) _
theorem fe (b:Nat):∀ (vs:List Value) (o:Nat) (w:World),(w.setCells b o vs).tape=w.tape
 | [],_,_=>rfl
 | v::vs,o,w=>fe b vs (o+1) _
theorem dZ (b:Nat):∀ (vs:List Value) (o:Nat) (w:World),(w.setCells b o vs).output=w.output
 | [],_,_=>rfl
 | v::vs,o,w=>dZ b vs (o+1) _
theorem eO (b:Nat):∀ (vs:List Value) (o:Nat) (w:World),(w.setCells b o vs).drawn=w.drawn
 | [],_,_=>rfl
 | v::vs,o,w=>eO b vs (o+1) _
theorem oK {W:World} {b o:Nat} {l:List Value} (hs:∀ j,j<l.length→(W.cell? ⟨b,o+j,none⟩).isSome=true) {j:Nat} {v:Value} (h1:o≤j) (h:l[j - o]? = some v):(W.setCells b o l).cell? ⟨b,j,none⟩=some v:=by
 have hj:=(List.getElem?_eq_some_iff.1 h)
 have:=World.cell?_setCells_in b l o W hs (j - o) hj.1
 rw [show o+(j - o)=j by omega] at this
 rw [this,← h,List.getElem?_eq_getElem hj.1]
theorem gM {W:World} {b o:Nat} {l:List Value} {j:Nat} (h1:j<o∨o+l.length≤j):(W.setCells b o l).cell? ⟨b,j,none⟩=W.cell? ⟨b,j,none⟩ :=
 World.cell?_setCells_out b l o W ⟨b,j,none⟩ (fun _ _=>h1)
theorem zl {W:World} {b k l:Nat} {cs vs:List Value} (hk:k≤cs.length) (hl:vs.length=l) (hs:∀ j,j<cs.length+l→(W.cell? ⟨b,j,none⟩).isSome=true) (hp:∀ (j:Nat) (v:Value),j<k→cs[j]? = some v→W.cell? ⟨b,j,none⟩=some v)
  (j:Nat) (v:Value) (h:(cs.take k++(vs++cs.drop k))[j]? = some v):((W.setCells b (k+l) (cs.drop k)).setCells b k vs).cell? ⟨b,j,none⟩=some v:=by
 have hd:(cs.drop k).length=cs.length - k:=by simp
 rcases zV cs vs k l hk hl j v h with ⟨h1,h2⟩ | ⟨h1,h2,h3⟩ | ⟨h1,h2⟩
 ·rw [gM (by omega),gM (by omega)];exact hp j v h1 h2
 ·refine oK (fun t ht=>?_) h1 h3
  rw [gM (by omega)];exact hs _ (by omega)
 ·rw [gM (by omega)]
  exact oK (fun t ht=>hs _ (by omega)) h1 h2
theorem ER {W:World} {b k l:Nat} {cs vs:List Value} (hk:k≤cs.length) (hl:vs.length=l) (hs:∀ j,j<cs.length+l→(W.cell? ⟨b,j,none⟩).isSome=true) (hp:∀ (j:Nat) (v:Value),j<k→cs[j]? = some v→W.cell? ⟨b,j,none⟩=some v)
  (j:Nat) (v:Value) (h:(cs.take k++(vs++cs.drop k))[j]? = some v):((W.setCells b k vs).setCells b (k+l) (cs.drop k)).cell? ⟨b,j,none⟩=some v:=by
 have hd:(cs.drop k).length=cs.length - k:=by simp
 rcases zV cs vs k l hk hl j v h with ⟨h1,h2⟩ | ⟨h1,h2,h3⟩ | ⟨h1,h2⟩
 ·rw [gM (by omega),gM (by omega)];exact hp j v h1 h2
 ·rw [gM (by omega)]
  exact oK (fun t ht=>hs _ (by omega)) h1 h3
 ·refine oK (fun t ht=>?_) h1 h2
  by_cases hh:k+l+t<k
  ·omega
  ·rw [gM (by omega)];exact hs _ (by omega)
theorem bC.split {α:Type} {R:α→List Value→Prop} {sz:Nat} (hl:∀ x c,R x c→c.length=sz):∀ (xs:List α) (cs:List Value) (i:Nat),i≤xs.length→bC R xs cs→bC R (xs.take i) (cs.take (i * sz))∧bC R (xs.drop i) (cs.drop (i * sz))
 | xs,cs,0,_,h=>by simpa using ⟨(rfl:([]:List Value)=[]),h⟩
 | [],cs,i+1,hi,_=>by simp at hi
 | x::xs,cs,i+1,hi,⟨c1,c2,e,h1,h2⟩=>by
  have hc:=hl x c1 h1
  obtain ⟨a,b⟩:=bC.split hl xs c2 i (by simpa using hi) h2
  subst e
  have e1:(i+1) * sz=c1.length+i * sz:=by rw [Nat.add_mul,hc];omega
  rw [e1,List.take_succ_cons,List.drop_succ_cons]
  constructor
  ·refine ⟨c1,c2.take (i * sz),?_,h1,a⟩
   rw [List.take_append,List.take_of_length_le (l:=c1) (by omega),Nat.add_sub_cancel_left]
  ·rw [List.drop_append,List.drop_of_length_le (l:=c1) (by omega),Nat.add_sub_cancel_left];exact b
theorem fz {I:Im} {e:Ty}:∀ (xs:List e.D) (cs:List Value),bC (aR I e) xs cs→∀ v ∈ cs,v.oneCell'=true
 | [],cs,h,v,hv=>by have h:cs=[]:=h;subst h;simp at hv
 | x::xs,cs,⟨c1,c2,e1,h1,h2⟩,v,hv=>by
  subst e1
  rcases List.mem_append.1 hv with hv | hv
  ·exact dO (aR.plain e x c1 h1 v hv)
  ·exact fz xs c2 h2 v hv
end Go.Proofs.YtfhcammihohmjaaGreatDoor.Pal
end
