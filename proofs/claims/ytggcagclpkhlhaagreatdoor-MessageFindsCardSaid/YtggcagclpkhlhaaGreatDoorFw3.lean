/- The framework: an abstract run of the code over typed data, and that the machine does as it says. Part 3. -/
import Derived.LoopN
import Derived.Lib.DecodeN
import Derived.Shelf.SlSortCmp.WholeK
import Derived.Shelf.SlSortCmp.NoneTotal
import Derived.OpenShut
import Derived.Carry
import Derived.ChangeAt
import Derived.ProofKit
import Derived.Lib.LazyBuf
import Derived.Shelf.Spec.SlicesInsertGrow
import Derived.Test.YtggcagclpkhlhaaGreatDoorFw1
import Derived.Test.YtggcagclpkhlhaaGreatDoorFw2
set_option linter.unusedVariables false
set_option linter.unusedSimpArgs false
set_option linter.unusedSectionVars false
noncomputable section
/- What was the call's own is data from here on. -/
namespace Go.Proofs.YtggcagclpkhlhaaGreatDoor.Pal
open Go
variable [MonoC]
variable {P:Program} {X Y:Nat→Nat→Prop} {G0 G G':Gh} {w0 w w':World} {s:St} {a:Act} {c:Cx} {Q:Exit→Act→World→Prop}

theorem All2.len {e:Ty} {I:Im} {xs:List e.D} {cc:List Value} (h:All2 (DRep I e) xs cc):cc.length=xs.length * e.cells:=All2.length (fun x c=>DRep.length e x c) xs cc h
theorem RS.frz1 {tmps:Array Value} {t:Nat} {e:Ty} {xs:List e.D} (hR:RS X G0 w0 G s tmps w) (hl:lk s.env t=some (.raw e xs)):∃ G',RS X G0 w0 G' ⟨(t,.own e xs)::rm s.env t,s.mem⟩ tmps w:=by
 obtain ⟨hB,tE,tM,h1,h2,h3,h4⟩:=hR
 obtain ⟨t1,t2,hc,⟨cs,⟨ad,len,cap,e1,e2,e3,e4⟩,hx⟩,hE⟩:=EnvRep.find t s.env tE _ h1 hl trivial
 rcases e4 with ⟨hcap,rfl⟩ | ⟨g,ha,rfl,⟨cells,ty,cc,hg,hs,hA,hcc⟩,hI,hO⟩
 ·exact ⟨G,hB,[]++t2,tM,(EnvRep.cons (v:=.own e xs) trivial).2 ⟨[],t2,rfl,⟨cs,⟨ad,len,cap,e1,e2,e3,.inl ⟨hcap,rfl⟩⟩,hx⟩,hE⟩,h2,fun g=>by have:=hc g;have:=h3 g;simp;omega,fun g hg=>h4 g (by have:=hc g;simp at hg;omega)⟩
 ·have hcl:=hA.len
  let G':Gh:={ G with I:=fun b o=>if b=g then cc[o]? else G.I b o }
  have hg1:cnt g t2=0∧cnt g tM=0:=by
   have h5:=hc g;have h6:=h3 g
   have:cnt g [g]=1:=by simp [cnt]
   omega
  have hEv:Ev (fun b _=>b=g) G w G' w:=by
   refine ⟨Evo.refl _ w,fun b o v hv=>?_,fun b o v hv=>?_,fun _ _ _=>rfl⟩
   ·show (if b=g then cc[o]? else G.I b o)=some v
    by_cases hb:b=g
    ·subst hb;rw [hI o] at hv;cases hv
    ·rw [if_neg hb];exact hv
   ·by_cases hb:b=g
    ·exact .inr (.inr hb)
    ·refine .inl ?_
     have:(if b=g then cc[o]? else G.I b o)=some v:=hv
     rwa [if_neg hb] at this
  have hW:Wf G' w:=by
   refine ⟨fun b o v hv=>?_,fun b o v hv=>?_,hB.wf.lt⟩
   ·have hv':(if b=g then cc[o]? else G.I b o)=some v:=hv
    by_cases hb:b=g
    ·subst hb;rw [if_pos rfl] at hv';rw [cell_of hg];exact hcc o v hv'
    ·rw [if_neg hb] at hv';exact hB.wf.holds b o v hv'
   ·have hv':(if b=g then cc[o]? else G.I b o)=some v:=hv
    by_cases hb:b=g
    ·subst hb;exact hO o
    ·rw [if_neg hb] at hv';exact hB.wf.io b o v hv'
  have hgt:0<cnt g tE:=by
   have:=hc g
   have:cnt g [g]=1:=by simp [cnt]
   omega
  have hB':=hB.step hEv hW (fun _=>rfl) (fun b o hb he=>by
   subst he
   rcases h4 b (by omega) with h | h
   ·omega
   ·exact h o)
  have hE':EnvRep G' w tmps (rm s.env t) t2:=EnvRep.ev hEv _ t2 (fun _ _=>rfl) (fun g' hg' _ he=>by subst he;have:=cnt_pos.1 hg';omega) hE
  have hM':MemRep G' w s.mem tM:=MemRep.ev hEv _ tM (fun _ _=>rfl) (fun _ _=>rfl) (fun g' hg' _ he=>by subst he;have:=cnt_pos.1 hg';omega) (fun k _ b o hk he=>by subst he;rw [hO o] at hk;cases hk) h2
  have hat:AtI G'.I g 0 cc:=fun j v hj=>by show (if g=g then cc[0+j]? else _)=_;rw [if_pos rfl,Nat.zero_add];exact hj
  refine ⟨G',hB',[g]++t2,tM,(EnvRep.cons (v:=.own e xs) trivial).2 ⟨[g],t2,rfl,⟨cs,⟨ad,len,cap,e1,e2,e3,.inr ⟨g,ha,rfl,?_,⟨cells,ty,hg,hs⟩,fun o ho=>?_,hO⟩⟩,hx⟩,hE'⟩,hM',fun g'=>by have h5:=hc g';have h6:=h3 g';rw [cnt_append];omega,fun g' hg'=>h4 g' (by have h5:=hc g';rw [cnt_append] at hg';omega)⟩
  ·exact Elems.mono (Im.le_refl _) (fun x c h=>DRep.mono hEv.le e x c h) (All2.elems (fun x c=>DRep.length e x c) xs cc g 0 hA hat)
  ·show (if g=g then cc[o]? else _)=none
   rw [if_pos rfl,List.getElem?_eq_none (by rw [hcl,e2];exact ho)]
theorem RS.frz {tmps:Array Value}:∀ (l:List Nat) (s:St) (G:Gh),RS X G0 w0 G s tmps w→∃ G',RS X G0 w0 G' (s.frz l) tmps w
 | [],s,G,h=>⟨G,h⟩
 | t::l,s,G,h=>by
  show ∃ G',RS X G0 w0 G' { s with env:=Pal.frz s.env (t::l) } tmps w
  unfold Pal.frz
  split
  ·rename_i e xs hl
   obtain ⟨G1,h1⟩:=h.frz1 hl
   exact RS.frz l ⟨_,s.mem⟩ G1 h1
  ·exact RS.frz l s G h
theorem iceK_rep {k:Nat} {e:Ty} {xs:List e.D} (hrow:xs=[]∨Elems G.I e.cells (DRep G.I e) (G.ρ k).1 (G.ρ k).2 xs):∀ (v:V) (cs:List Value) (ts:List Nat) {α:Type} (K:V→Option α) (r:α),VRep G w v cs ts→V.iceK k e xs v K=some r →
  ∃ v',K v'=some r∧VRep G w v' cs ts∧v'.agg=v.agg∧∀ q,MapAt G w q v→MapAt G w q v':=by
 intro v
 induction v with
 | vref k' e' n =>
  intro cs ts α K r hv h
  simp only [V.iceK] at h
  cases hb:Nat.beq k' k with
  | false=>rw [hb] at h;exact ⟨_,h,hv,rfl,fun _ h=>h⟩
  | true =>
   rw [hb] at h
   have hk:=beq_nat.1 hb
   subst hk
   simp only [cond_true] at h
   obtain ⟨hn,h⟩:=br_then h
   have hn:n=ilen xs:=by simpa [ieq] using hn
   obtain ⟨⟨a,cap,h1,h2,h3⟩,h4⟩:=hv
   refine ⟨_,h,⟨⟨a,n.toNat,cap,h1,by rw [hn];simp [ilen],h2.1,?_⟩,h4⟩,rfl,fun _ _=>MapAt.no rfl⟩
   rcases h3 with h3 | h3
   ·exact .inl (List.length_eq_zero_iff.1 (by rw [hn] at h3;simpa [ilen] using h3))
   ·rcases hrow with hr | hr
    ·exact .inl hr
    ·exact .inr ⟨_,_,h3,hr⟩
 | pr a b iha ihb =>
  intro cs ts α K r hv h
  obtain ⟨c1,c2,t1,t2,e1,e2,h1,h2⟩:=hv
  obtain ⟨a',ha',hva,_,_⟩:=iha c1 t1 _ r h1 h
  obtain ⟨b',hb',hvb,_,_⟩:=ihb c2 t2 _ r h2 ha'
  subst e1;subst e2
  exact ⟨_,hb',mkPr_rep hva hvb,mkPr_agg _ _,fun _ _=>MapAt.no (isMap_mkPr _ _)⟩
 | _ =>
  intro cs ts α K r hv h
  exact ⟨_,h,hv,rfl,fun _ h=>h⟩
theorem iceL_env {tmps:Array Value} {k:Nat} {e:Ty} {xs:List e.D} (hrow:xs=[]∨Elems G.I e.cells (DRep G.I e) (G.ρ k).1 (G.ρ k).2 xs):∀ (env:List (Nat × V)) (ts:List Nat) {α:Type} (K:List (Nat × V)→Option α) (r:α),EnvRep G w tmps env ts→iceL k e xs env K=some r →
  ∃ env',K env'=some r∧EnvRep G w tmps env' ts
 | [],ts,α,K,r,hE,h=>⟨[],h,hE⟩
 | (t,v)::q,ts,α,K,r,hE,h=>by
  by_cases hn:notLent v
  ·obtain ⟨t1,t2,e1,⟨cs,h1,h1'⟩,h2⟩:=(EnvRep.cons hn).1 hE
   obtain ⟨v',hv',hr',ha,_⟩:=iceK_rep hrow v cs t1 _ r h1 h
   obtain ⟨env',k1,k2⟩:=iceL_env hrow q t2 _ r h2 hv'
   have hT:TRep G w v' (tmps.getD t undef) t1:=⟨cs,hr',by rw [ha];exact h1'⟩
   exact ⟨_,k1,(EnvRep.cons (notLent_of_TRep hT)).2 ⟨t1,t2,e1,hT,k2⟩⟩
  ·cases v with
   | lent u =>
    obtain ⟨env',k1,k2⟩:=iceL_env hrow q ts _ r hE.2 h
    exact ⟨_,k1,hE.1,k2⟩
   | _=>exact absurd trivial hn
theorem iceL_mem {k:Nat} {e:Ty} {xs:List e.D} (hrow:xs=[]∨Elems G.I e.cells (DRep G.I e) (G.ρ k).1 (G.ρ k).2 xs):∀ (m:List (Nat × V)) (ts:List Nat) {α:Type} (K:List (Nat × V)→Option α) (r:α),MemRep G w m ts→iceL k e xs m K=some r →
  ∃ m',K m'=some r∧MemRep G w m' ts
 | [],ts,α,K,r,hE,h=>⟨[],h,hE⟩
 | (t,v)::q,ts,α,K,r,hM,h=>by
  obtain ⟨t1,t2,cs,e1,h1,h2,h3,h4⟩:=hM
  obtain ⟨v',hv',hr',ha,hm⟩:=iceK_rep hrow v cs t1 _ r h1 h
  obtain ⟨m',k1,k2⟩:=iceL_mem hrow q t2 _ r h4 hv'
  have hcl:v'.cells=v.cells:=by rw [← VRep.length _ _ _ hr',VRep.length _ _ _ h1]
  exact ⟨_,k1,t1,t2,cs,e1,hr',h2,⟨by rw [hcl];exact h3.1,hm t h3.2⟩,k2⟩
theorem RS.ice1 {tmps:Array Value} {k:Nat} {e:Ty} {xs:List e.D} (hR:RS X G0 w0 G s tmps w) (hl:lk s.mem k=some (.vec k e xs)) :
  ∃ G',RS X G0 w0 G' ⟨s.env,rm s.mem k⟩ tmps w∧(xs=[]∨Elems G'.I e.cells (DRep G'.I e) (G'.ρ k).1 (G'.ρ k).2 xs):=by
 obtain ⟨hB,tE,tM,h1,h2,h3,h4⟩:=hR
 obtain ⟨t1,t2,cs,hc,hv,_,_,hM⟩:=MemRep.find k s.mem tM _ h2 hl
 by_cases hx:xs=[]
 ·exact ⟨G,⟨hB,tE,t2,h1,hM,fun g=>by have:=hc g;have:=h3 g;omega,fun g hg=>h4 g (by have:=hc g;omega)⟩,.inl hx⟩
 ·obtain ⟨g,len,cap,g1,rfl,_,glen,_,⟨cells,ty,cc,hg,hs,hA,hcc⟩,hI,hO⟩:=vec_row hv hx
  clear hv
  have hcl:=hA.len
  let G':Gh:={ G with I:=fun b o=>if b=g then cc[o]? else G.I b o }
  have hone:cnt g [g]=1:=by simp [cnt]
  have hg1:cnt g tE=0∧cnt g t2=0:=by
   have h5:=hc g;have h6:=h3 g
   omega
  have hEv:Ev (fun b _=>b=g) G w G' w:=by
   refine ⟨Evo.refl _ w,fun b o v hv=>?_,fun b o v hv=>?_,fun _ _ _=>rfl⟩
   ·show (if b=g then cc[o]? else G.I b o)=some v
    by_cases hb:b=g
    ·subst hb;rw [hI o] at hv;cases hv
    ·rw [if_neg hb];exact hv
   ·by_cases hb:b=g
    ·exact .inr (.inr hb)
    ·refine .inl ?_
     have:(if b=g then cc[o]? else G.I b o)=some v:=hv
     rwa [if_neg hb] at this
  have hW:Wf G' w:=by
   refine ⟨fun b o v hv=>?_,fun b o v hv=>?_,hB.wf.lt⟩
   ·have hv':(if b=g then cc[o]? else G.I b o)=some v:=hv
    by_cases hb:b=g
    ·subst hb;rw [if_pos rfl] at hv';rw [cell_of hg];exact hcc o v hv'
    ·rw [if_neg hb] at hv';exact hB.wf.holds b o v hv'
   ·have hv':(if b=g then cc[o]? else G.I b o)=some v:=hv
    by_cases hb:b=g
    ·subst hb;exact hO o
    ·rw [if_neg hb] at hv';exact hB.wf.io b o v hv'
  have hB':=hB.step hEv hW (fun _=>rfl) (fun b o hb he=>by
   subst he
   rcases h4 b (by have:=hc b;omega) with h | h
   ·omega
   ·exact h o)
  have hE':EnvRep G' w tmps s.env tE:=EnvRep.ev hEv _ tE (fun _ _=>rfl) (fun g' hg' _ he=>by subst he;have:=cnt_pos.1 hg';omega) h1
  have hM':MemRep G' w (rm s.mem k) t2:=MemRep.ev hEv _ t2 (fun _ _=>rfl) (fun _ _=>rfl) (fun g' hg' _ he=>by subst he;have:=cnt_pos.1 hg';omega) (fun k _ b o hk he=>by subst he;rw [hO o] at hk;cases hk) hM
  have hat:AtI G'.I g 0 cc:=fun j v hj=>by show (if g=g then cc[0+j]? else _)=_;rw [if_pos rfl,Nat.zero_add];exact hj
  refine ⟨G',⟨hB',tE,t2,hE',hM',fun g'=>by have h5:=hc g';have h6:=h3 g';omega,fun g' hg'=>h4 g' (by have:=hc g';omega)⟩,.inr ?_⟩
  show Elems G'.I e.cells (DRep G'.I e) (G.ρ k).1 (G.ρ k).2 xs
  rw [g1]
  exact Elems.mono (Im.le_refl _) (fun x c h=>DRep.mono hEv.le e x c h) (All2.elems (fun x c=>DRep.length e x c) xs cc g 0 hA hat)
theorem ice_sound {tmps:Array Value} {α:Type} {K:St→Option α} {r:α}:∀ (l:List Nat) (s:St) (G:Gh),RS X G0 w0 G s tmps w→ice l s K=some r→∃ G' s',RS X G0 w0 G' s' tmps w∧K s'=some r
 | [],s,G,hR,h=>⟨G,s,hR,h⟩
 | k::l,s,G,hR,h=>by
  unfold ice at h
  split at h
  ·rename_i k' e xs hl
   obtain ⟨hb,h⟩:=cond_then h
   have hk:=beq_nat.1 hb
   subst hk
   obtain ⟨G1,⟨hB,tE,tM,h1,h2,h3,h4⟩,hrow⟩:=hR.ice1 hl
   obtain ⟨E,k1,k2⟩:=iceL_env hrow s.env tE _ r h1 h
   obtain ⟨M,k3,k4⟩:=iceL_mem hrow (rm s.mem k') tM _ r h2 k1
   exact ice_sound l ⟨E,M⟩ G1 ⟨hB,tE,tM,k2,k4,h3,h4⟩ k3
  ·exact ice_sound l s G hR h
theorem flat_DRep {I J:Im}:∀ (τ:Ty) (x:τ.D) (cs:List Value),flat τ=true→DRep I τ x cs→DRep J τ x cs
 | .int _,_,_,_,h=>h
 | .bool,_,_,_,h=>h
 | .str,_,_,_,h=>h
 | .slc e,_,_,hf,_=>by simp [flat] at hf
 | .arr n e,xs,cs,hf,⟨h1,h2⟩=>⟨h1,All2.mono (fun x c=>flat_DRep e x c hf) _ _ h2⟩
 | .pair a b,x,cs,hf,⟨c1,c2,h,h1,h2⟩=>by
  simp only [flat,Bool.and_eq_true] at hf
  exact ⟨c1,c2,h,flat_DRep a _ _ hf.1 h1,flat_DRep b _ _ hf.2 h2⟩
theorem thaw {e:Ty} {xs:List e.D} {x:Value} {ts:List Nat} (hf:flat e=true) (hW:Wf G w) (hnew:∀ g,0<cnt g ts→w0.heap.size≤g) (hW0:Wf G0 w0) (hE:Ev X G0 w0 G w) (h:TRep G w (.own e xs) x ts) :
  ∃ G',Ev X G0 w0 G' w∧Wf G' w∧G'.ρ=G.ρ∧TRep G' w (.raw e xs) x ts:=by
 obtain ⟨cs,⟨ad,len,cap,e1,e2,e3,e4⟩,hx⟩:=h
 rcases e4 with ⟨hcap,rfl⟩ | ⟨g,ha,rfl,hel,⟨cells,t,hg,hs⟩,hI,hO⟩
 ·exact ⟨G,hE,hW,rfl,cs,⟨ad,len,cap,e1,e2,e3,.inl ⟨hcap,rfl⟩⟩,hx⟩
 ·have hgn:=hnew g (by simp [cnt])
  let G':Gh:={ G with I:=fun b o=>if b=g then none else G.I b o }
  have hI':∀ b o v,G'.I b o=some v→b ≠ g∧G.I b o=some v:=fun b o v hv=>by
   have:(if b=g then none else G.I b o)=some v:=hv
   by_cases hb:b=g
   ·rw [if_pos hb] at this;cases this
   ·rw [if_neg hb] at this;exact ⟨hb,this⟩
  refine ⟨G',⟨hE.evo,fun b o v hv=>?_,fun b o v hv=>hE.grow b o v (hI' b o v hv).2,hE.own⟩,⟨fun b o v hv=>hW.holds b o v (hI' b o v hv).2,fun b o v hv=>hW.io b o v (hI' b o v hv).2,hW.lt⟩,rfl,cs,⟨ad,len,cap,e1,e2,e3,.inr ⟨g,ha,rfl,?_,fun o=>by show (if g=g then none else _)=none;rw [if_pos rfl],hO⟩⟩,hx⟩
  ·have hb:=World.block_lt_of_cell? w0 _ (hW0.holds b o v hv)
   show (if b=g then none else G.I b o)=some v
   have hb':b<w0.heap.size:=hb
   rw [if_neg (by omega)]
   exact hE.le b o v hv
  ·obtain ⟨cc,hA,hat⟩:=Elems.all2 (fun x c=>DRep.length e x c) xs g 0 hel
   refine ⟨cells,t,cc,hg,hs,All2.mono (fun x c=>flat_DRep e x c hf) _ _ hA,fun j v hj=>?_⟩
   have:=hat j v hj
   rw [Nat.zero_add] at this
   rw [← cell_of hg];exact hW.holds g j v this
theorem Ev.mono {Y:Nat→Nat→Prop} (h:Ev X G w G' w') (k:∀ b o,X b o→Y b o):Ev Y G w G' w' :=
 ⟨⟨h.evo.os,h.evo.tape,h.evo.output,h.evo.size,fun b hb=>(h.evo.block b hb).mono fun j=>k b j,h.evo.drawn⟩,h.le,fun b o v hv=>(h.grow b o v hv).imp id fun h=>h.imp id (k b o),h.own⟩
end Go.Proofs.YtggcagclpkhlhaaGreatDoor.Pal
end
noncomputable section
/- Code: what the abstract run answers, the machine's run ends in. -/
namespace Go.Proofs.YtggcagclpkhlhaaGreatDoor.Pal
open Go
variable [MonoC]
variable {P:Program} {X Y:Nat→Nat→Prop} {G0 G G':Gh} {w0 w w':World} {s:St} {a:Act} {c:Cx} {Q:Exit→Act→World→Prop}

def okCode (c:Cx) (N:Nat):Code→Bool
 | .region id ops dr=>ops.toList.all (fun o=>match o.dst with | some t=>Nat.blt t N | none=>true) && (!dr || match lkN c.regs id with | some ri=>okFree ops ri.moves ri.quiet && okPre ops ri.pre | none=>true)
 | .seq a b=>okCode c N a && okCode c N b
 | .cond _ a b=>okCode c N a && okCode c N b
 | .block _ b=>okCode c N b
 | .loop b=>okCode c N b
 | _=>true
def Ex.toExit:Ex→Exit
 | .normal=>.normal
 | .exit i=>.exit i
 | .ret=>.ret
def Left {α:Type} (X:Nat→Nat→Prop) (G0:Gh) (w0:World) (N:Nat) (ds:List Deferred) (K:Ex→St→Option α) (res:α) (Q:Exit→Act→World→Prop):Prop :=
 ∀ e a' w' G' s',RS X G0 w0 G' s' a'.tmps w'→a'.tmps.size=N→a'.defers=ds→K e s'=some res→Q e.toExit a' w'
section
variable {α:Type} {K:Ex→St→Option α} {res:α} {N:Nat} {ds:List Deferred}
theorem thenK_left {Q1:Act→World→Prop} {g:St→Option α} (hL:Left X G0 w0 N ds K res Q) (h:∀ a' w' G' s',RS X G0 w0 G' s' a'.tmps w'→a'.tmps.size=N→a'.defers=ds→g s'=some res→Q1 a' w') :
  Left X G0 w0 N ds (thenK g K) res (Exit.then Q1 Q):=by
 intro e a' w' G' s' h1 h2 h3 h4
 cases e with
 | normal=>exact h a' w' G' s' h1 h2 h3 h4
 | exit i=>exact hL (.exit i) a' w' G' s' h1 h2 h3 h4
 | ret=>exact hL .ret a' w' G' s' h1 h2 h3 h4
theorem blockK_left {id:Nat} (hL:Left X G0 w0 N ds K res Q):Left X G0 w0 N ds (blockK id K) res (Exit.inBlock id Q):=by
 intro e a' w' G' s' h1 h2 h3 h4
 cases e with
 | normal=>exact hL .normal a' w' G' s' h1 h2 h3 h4
 | ret=>exact hL .ret a' w' G' s' h1 h2 h3 h4
 | exit i =>
  simp only [blockK] at h4
  show Exit.inBlock id Q (.exit i) a' w'
  simp only [Exit.inBlock]
  by_cases e:i=id
  ·rw [if_pos e]
   have:Nat.beq i id=true:=beq_nat.2 e
   rw [this] at h4
   exact hL .normal a' w' G' s' h1 h2 h3 h4
  ·rw [if_neg e]
   have:Nat.beq i id=false:=by rw [Bool.eq_false_iff];intro z;exact e (Nat.eq_of_beq_eq_true z)
   rw [this] at h4
   exact hL (.exit i) a' w' G' s' h1 h2 h3 h4
end
theorem run_sound (hT:TT P c) (hC:∀ f e,lkN c.fns f=some e→CallOK P f e) (hm:P.follows .mixedOrders=true) {N:Nat} {ds:List Deferred} {α:Type} {res:α} :
  ∀ (code:Code),okCode c N code=true→∀ (K:Ex→St→Option α) (Q:Exit→Act→World→Prop) (s:St) (a:Act) (w:World) (G:Gh),Left X G0 w0 N ds K res Q →
   run c code s K=some res→RS X G0 w0 G s a.tmps w→a.tmps.size=N→a.defers=ds→code.wp P Q a w:=by
 intro code
 induction code with
 | skip =>
  intro _ K Q s a w G hL h hR hN hd
  exact wp_skip (hL .normal a w G s hR hN hd h)
 | exit id =>
  intro _ K Q s a w G hL h hR hN hd
  exact wp_exit (hL (.exit id) a w G s hR hN hd h)
 | ret =>
  intro _ K Q s a w G hL h hR hN hd
  exact wp_ret (hL .ret a w G s hR hN hd h)
 | seq x y ihx ihy =>
  intro hok K Q s a w G hL h hR hN hd
  simp only [okCode,Bool.and_eq_true] at hok
  refine wp_seq (ihx hok.1 (thenK (fun s'=>run c y s' K) K) _ s a w G (thenK_left hL fun a' w' G' s' h1 h2 h3 h4=>ihy hok.2 K Q s' a' w' G' hL h4 h1 h2 h3) h hR hN hd)
 | cond x y z ihx ihy =>
  intro hok K Q s a w G hL h hR hN hd
  simp only [okCode,Bool.and_eq_true] at hok
  change ((opd none s x).bind fun v=>match v with
   | .dat .bool t=>br t (run c y s K) (run c z s K)
   | _=>none)=some res at h
  rw [Option.bind_eq_some_iff] at h
  obtain ⟨v,hv,h⟩:=h
  have hr:=opd_rep hR hv
  split at h
  ·rename_i t
   rcases br_cases h with ⟨rfl,h⟩ | ⟨rfl,h⟩
   ·exact wp_cond_true hr.dat_bool (ihx hok.1 K Q s a w G hL h hR hN hd)
   ·exact wp_cond_false hr.dat_bool (ihy hok.2 K Q s a w G hL h hR hN hd)
  ·cases h
 | block id b ih =>
  intro hok K Q s a w G hL h hR hN hd
  exact wp_block (ih hok (blockK id K) _ s a w G (blockK_left hL) h hR hN hd)
 | loop b ih =>
  intro hok K Q s a w G hL h hR hN hd
  change ((lkN c.regs (firstReg b)).bind fun ri=>rounds (firstReg b) (run c b) (prune ri.head ri.headM) K c.fuel (prune ri.head ri.headM s))=some res at h
  rw [Option.bind_eq_some_iff] at h
  obtain ⟨ri,_,h⟩:=h
  have key:∀ (n:Nat) (s:St) (a:Act) (w:World) (G:Gh),rounds (firstReg b) (run c b) (prune ri.head ri.headM) K n s=some res→RS X G0 w0 G s a.tmps w→a.tmps.size=N→a.defers=ds→Code.rounds P b Q n a w:=by
   intro n
   induction n with
   | zero=>intro s a w G h;cases h
   | succ n ihn =>
    intro s a w G h hR hN hd
    rw [rounds_succ]
    refine ih hok _ _ s a w G (thenK_left hL fun a' w' G' s' h1 h2 h3 h4=>?_) h hR hN hd
    exact ihn _ a' w' G' h4 (h1.prune _ _) h2 h3
  exact wp_loop_rounds c.fuel (key c.fuel _ a w G h (hR.prune _ _) hN hd)
 | region id ops dr =>
  intro hok K Q s a w G hL h hR hN hd
  simp only [okCode,Bool.and_eq_true,List.all_eq_true] at hok
  obtain ⟨hd1,hfr⟩:=hok
  have hdst:∀ o ∈ ops.toList,∀ t,o.dst=some t→t<N:=by
   intro o ho t ht
   have:=hd1 o ho
   rw [ht] at this
   exact Nat.le_of_ble_eq_true this
  change ((lkN c.regs id).bind fun ri=>ice ri.ice s fun s =>
   bif dr then bif noLent (s.frz ri.frz).env && clr0 (alcs ops.toList) (s.frz ri.frz).env (s.frz ri.frz).mem then runQ c ops ri.moves ri.pre 0 ri.quiet [] ops.toList (s.frz ri.frz) fun past r s1=>bif noDup s1.env && noDup s1.mem then runOps c ops ri.moves ri.lends ri.quiet r s1 fun s'=>K .normal (prune ri.live ri.mem { s' with env:=settle s'.env }) else none else none
   else runOps c ops ri.moves ri.lends 0 ops.toList (s.frz ri.frz) fun s'=>K .normal (prune ri.live ri.mem { s' with env:=settle s'.env }))=some res at h
  rw [Option.bind_eq_some_iff] at h
  obtain ⟨ri,hri,h⟩:=h
  obtain ⟨G,s,hR,h⟩:=ice_sound ri.ice s G hR h
  obtain ⟨G,hR⟩:=RS.frz ri.frz s G hR
  generalize hsz:s.frz ri.frz=s at h hR
  clear hsz
  have hQ:∀ a' w' G' s',RS X G0 w0 G' s' a'.tmps w'→a'.tmps.size=N→a'.defers=ds→(fun s':St=>K .normal (prune ri.live ri.mem { s' with env:=settle s'.env })) s'=some res→Q .normal a' w':=by
   intro a' w' G' s' h1 h2 h3 h4
   exact hL .normal a' w' G' _ (h1.settle.prune _ _) h2 h3 h4
  cases dr with
  | false =>
   simp only [cond_false] at h
   refine wp_region ?_
   rw [List.range_eq_range']
   have:=runOps_sound (n:=N) hT hC hdst hQ ops.toList 0 s a w G (by simp) h hR hN hd
   simpa using this
  | true =>
   simp only [cond_true] at h
   obtain ⟨hnl,h⟩:=cond_then h
   rw [Bool.and_eq_true] at hnl
   obtain ⟨hnl,hno⟩:=hnl
   have hfr0:(okFree ops ri.moves ri.quiet && okPre ops ri.pre)=true:=by
    simp only [Bool.not_true,Bool.false_or,hri] at hfr;exact hfr
   rw [Bool.and_eq_true] at hfr0
   obtain ⟨hfr',hpr⟩:=hfr0
   have hq:=(okFree_spec hfr').1
   obtain ⟨Ls,ms,xs,s1,past,e2,e4,e5,f1,f2,f3,f4,_,f6,_⟩:=runQ_trace hC ri.quiet ops.toList 0 [] s (by simp) h hnl
   have hmin:0+min ri.quiet ops.toList.length=ri.quiet:=by rw [Nat.zero_add,Nat.min_eq_left (by simpa using hq)]
   rw [hmin] at e5 f3 f4 f6
   obtain ⟨hnd,e2⟩:=cond_then e2
   simp only [Bool.and_eq_true] at hnd
   refine wp_region_any hm ?_
   refine head_sound (s1:=s1) (G0:=G0) (w0:=w0) (X:=X) hT hC hdst hfr' hpr hQ e5 f3 (by rw [f4]) hnd.1 hnd.2 (clean_of e5 f1 f2 hno) e2 ops.size (Array.replicate ops.size false) a _ G s.env s.mem ?_ ⟨?_,hnl,hN,hd,by simp,fun j _ hj=>by simp [Array.getD,hj],fun j o ho hl=>?_,fun _ _=>by rw [f1],fun j t hj _ hl=>?_,fun j t hj hl=>?_,fun _ _=>by rw [f2],fun j k hj hl=>?_⟩
   ·unfold unl
    simp
   ·exact hR.drew
   ·have:j<ops.size:=(Array.getElem?_eq_some_iff.1 ho).1
    simp [Array.getD,this] at hl
   ·have:j<ops.size:=by omega
    simp [Array.getD,this] at hl
   ·have:j<ops.size:=by omega
    simp [Array.getD,this] at hl
   ·have:j<ops.size:=by omega
    simp [Array.getD,this] at hl
 | _ =>
  intro _ K Q s a w G hL h hR hN hd
  cases h
end Go.Proofs.YtggcagclpkhlhaaGreatDoor.Pal
end
noncomputable section
/- Functions: what the abstract run of a body gives, the function's call gives. -/
namespace Go.Proofs.YtggcagclpkhlhaaGreatDoor.Pal
open Go
variable [MonoC]
variable {P:Program} {X Y:Nat→Nat→Prop} {G0 G G':Gh} {w0 w w':World} {s:St} {a:Act} {c:Cx} {Q:Exit→Act→World→Prop}

def AsL:List Ty→List V→List V→Prop
 | [],vs,us=>vs=[]∧us=[]
 | τ::r,vs,us=>∃ v vs' y us',vs=v::vs'∧us = .dat τ y::us'∧V.as τ v=some y∧AsL r vs' us'
theorem dec_asL:∀ (ts:List Ty) (vs:List V) (x:Dl ts),Dl.dec ts vs=some x→AsL ts vs (Dl.enc ts x)
 | [],[],x,_=>⟨rfl,rfl⟩
 | [],_::_,x,h=>by simp [Dl.dec] at h
 | [τ],[],x,h=>by simp [Dl.dec] at h
 | [τ],[v],x,h=>⟨v,[],x,[],rfl,rfl,h,rfl,rfl⟩
 | [τ],_::_::_,x,h=>by simp [Dl.dec] at h
 | τ::τ'::r,[],x,h=>by simp [Dl.dec] at h
 | τ::τ'::r,v::vs,x,h=>by
  simp only [Dl.dec,Option.bind_eq_some_iff] at h
  obtain ⟨x1,h1,y,h2,h3⟩:=h
  injection h3 with h3;subst h3
  exact ⟨v,vs,x1,_,rfl,rfl,h1,dec_asL (τ'::r) vs y h2⟩
theorem AsL.lengths:∀ {ts:List Ty} {vs us:List V},AsL ts vs us→vs.length=ts.length∧us.length=ts.length
 | [],_,_,⟨h1,h2⟩=>by subst h1;subst h2;exact ⟨rfl,rfl⟩
 | τ::r,_,_,⟨v,vs,y,us,h1,h2,_,h4⟩=>by subst h1;subst h2;have:=AsL.lengths h4;simp [this]
theorem AsL.split:∀ {t1 t2:List Ty} {v1 v2 us:List V},AsL (t1++t2) (v1++v2) us→v1.length=t1.length→AsL t1 v1 (us.take t1.length)∧AsL t2 v2 (us.drop t1.length)
 | [],t2,v1,v2,us,h,hl=>by
  have:v1=[]:=List.eq_nil_of_length_eq_zero hl
  subst this
  exact ⟨⟨rfl,rfl⟩,h⟩
 | τ::r,t2,[],v2,us,h,hl=>by simp at hl
 | τ::r,t2,v::v1,v2,us,h,hl=>by
  obtain ⟨v',vs',y,us',h1,h2,h3,h4⟩:=h
  simp only [List.cons_append,List.cons.injEq] at h1
  obtain ⟨rfl,rfl⟩:=h1
  subst h2
  obtain ⟨g1,g2⟩:=AsL.split h4 (by simpa using hl)
  exact ⟨⟨v,v1,y,us'.take r.length,rfl,rfl,h3,g1⟩,g2⟩
theorem pull_ref {r:List Ar} {n:Nat} {vs ds:List V} (h:Ar.pull (.ref::r) n vs=some ds):∃ vs',vs = .ref (1000000+n) []::vs'∧Ar.pull r (n+1) vs'=some ds:=by
 cases vs with
 | nil=>simp [Ar.pull] at h
 | cons v vs =>
  cases v <;> try (simp [Ar.pull] at h;done)
  rename_i k p
  cases p with
  | cons _ _=>simp [Ar.pull] at h
  | nil =>
   simp only [Ar.pull] at h
   obtain ⟨hb,h⟩:=cond_then h
   exact ⟨vs,by rw [beq_nat.1 hb],h⟩
theorem pull_nil {r:List Ar} {n:Nat} {vs ds:List V} (h:Ar.pull (.nil::r) n vs=some ds):∃ vs',vs = .nilp::vs'∧Ar.pull r n vs'=some ds:=by
 cases vs with
 | nil=>simp [Ar.pull] at h
 | cons v vs =>
  cases v <;> try (simp [Ar.pull] at h;done)
  exact ⟨vs,rfl,h⟩
theorem pull_fn {g m:Nat} {r:List Ar} {n:Nat} {vs ds:List V} (h:Ar.pull (.fn g m::r) n vs=some ds):∃ caps vs',vs = .fn g caps::vs'∧capsAt n m caps=true∧Ar.pull r (n+m) vs'=some ds:=by
 cases vs with
 | nil=>simp [Ar.pull] at h
 | cons v vs =>
  cases v <;> try (simp [Ar.pull] at h;done)
  rename_i g' caps
  simp only [Ar.pull] at h
  obtain ⟨hb,h2⟩:=cond_then h
  simp only [Bool.and_eq_true] at hb
  have e:=beq_nat.1 hb.1
  exact ⟨caps,vs,by rw [e],hb.2,h2⟩
theorem pull_length:∀ (ars:List Ar) (n:Nat) (args ds:List V),Ar.pull ars n args=some ds→ds.length=(arTys ars).length∧args.length=ars.length
 | [],_,[],ds,h=>by simp [Ar.pull] at h;subst h;exact ⟨rfl,rfl⟩
 | [],_,_::_,ds,h=>by simp [Ar.pull] at h
 | .dat τ::r,n,[],ds,h=>by simp [Ar.pull] at h
 | .dat τ::r,n,v::vs,ds,h=>by
  simp only [Ar.pull,Option.map_eq_some_iff] at h
  obtain ⟨us,h,rfl⟩:=h
  have:=pull_length r n vs us h
  simp [arTys,this]
 | .ref::r,n,vs,ds,h=>by
  obtain ⟨vs',rfl,h2⟩:=pull_ref h
  have:=pull_length r _ _ ds h2
  simp [arTys,this]
 | .nil::r,n,vs,ds,h=>by
  obtain ⟨vs',rfl,h2⟩:=pull_nil h
  have:=pull_length r _ _ ds h2
  simp [arTys,this]
 | .fn g m::r,n,vs,ds,h=>by
  obtain ⟨caps,vs',rfl,_,h2⟩:=pull_fn h
  have:=pull_length r _ _ ds h2
  simp [arTys,this]
theorem capsAt_eq {n m:Nat} {caps:List (Nat × List Step)} (h:capsAt n m caps=true):caps=(List.range m).map fun i=>(1000000+n+i,[]):=by
 simp only [capsAt,Bool.and_eq_true] at h
 obtain ⟨h1,h2⟩:=h
 have hl:=beq_nat.1 h1
 apply List.ext_getElem
 ·simp [hl]
 ·intro i hi hi'
  rw [List.all_eq_true] at h2
  have hm:i<m:=by omega
  have:=h2 (caps[i],i) (by
   rw [List.mem_iff_getElem]
   exact ⟨i,by simp [hl];exact hm,by simp⟩)
  simp only [Bool.and_eq_true,List.isEmpty_iff] at this
  simp only [List.getElem_map,List.getElem_range]
  exact Prod.ext (beq_nat.1 this.1) this.2
theorem TRep.forget {τ:Ty} {v:V} {y:τ.D} {x:Value} {ts:List Nat} (hv:V.as τ v=some y) (h:TRep G w v x ts):TRep G w (.dat τ y) x []:=(h.as_ hv).trep
theorem lay_rep:∀ (ars:List Ar) (n:Nat) (args ds us:List V) (argv:List Value) (ts:List Nat),Ar.pull ars n args=some ds→AsL (arTys ars) ds us→ArgsRep G w args argv ts→ArgsRep G w (Ar.lay ars n us) argv []
 | [],_,[],ds,us,argv,ts,h,hA,⟨h1,h2⟩=>⟨h1,rfl⟩
 | [],_,_::_,ds,us,argv,ts,h,_,_=>by simp [Ar.pull] at h
 | .dat τ::r,n,[],ds,us,argv,ts,h,_,_=>by simp [Ar.pull] at h
 | .dat τ::r,n,v::vs,ds,us,argv,ts,h,hA,⟨x,xs,t1,t2,e1,e2,h1,h2⟩=>by
  simp only [Ar.pull,Option.map_eq_some_iff] at h
  obtain ⟨ds',h,rfl⟩:=h
  obtain ⟨v',vs',y,us',g1,g2,g3,g4⟩:=hA
  simp only [List.cons.injEq] at g1
  obtain ⟨rfl,rfl⟩:=g1
  subst g2
  exact ⟨x,xs,[],[],e1,rfl,h1.forget g3,lay_rep r n vs ds' us' xs t2 h g4 h2⟩
 | .ref::r,n,vs,ds,us,argv,ts,h,hA,hh=>by
  obtain ⟨vs',rfl,hh2⟩:=pull_ref h
  obtain ⟨x,xs,t1,t2,e1,e2,h1,h2⟩:=hh
  obtain ⟨cs,⟨k1,k2,k3⟩,k4⟩:=h1
  exact ⟨x,xs,[],[],e1,rfl,⟨cs,⟨k1,k2,rfl⟩,k4⟩,lay_rep _ _ _ ds us xs t2 hh2 hA h2⟩
 | .nil::r,n,vs,ds,us,argv,ts,h,hA,hh=>by
  obtain ⟨vs',rfl,hh2⟩:=pull_nil h
  obtain ⟨x,xs,t1,t2,e1,e2,h1,h2⟩:=hh
  obtain ⟨cs,⟨k1,k3⟩,k4⟩:=h1
  exact ⟨x,xs,[],[],e1,rfl,⟨cs,⟨k1,rfl⟩,k4⟩,lay_rep _ _ _ ds us xs t2 hh2 hA h2⟩
 | .fn g m::r,n,vs,ds,us,argv,ts,h,hA,hh=>by
  obtain ⟨caps,vs',rfl,hc,hh2⟩:=pull_fn h
  obtain ⟨x,xs,t1,t2,e1,e2,h1,h2⟩:=hh
  have e:=capsAt_eq hc
  subst e
  obtain ⟨cs,⟨vs,k1,k2,k3⟩,k4⟩:=h1
  exact ⟨x,xs,[],[],e1,rfl,⟨cs,⟨vs,k1,k2,rfl⟩,k4⟩,lay_rep _ _ _ ds us xs t2 hh2 hA h2⟩
theorem args_env {tmps:Array Value}:∀ (vs:List V) (argv:List Value) (k:Nat),ArgsRep G w vs argv []→(∀ i v,argv[i]? = some v→tmps.getD (k+i) undef=v)→EnvRep G w tmps (number k vs) []
 | [],_,_,_,_=>rfl
 | v::vs,argv,k,⟨x,xs,t1,t2,e1,e2,h1,h2⟩,ht=>by
  subst e1
  have:t1=[]∧t2=[]:=by simpa using e2.symm
  obtain ⟨rfl,rfl⟩:=this
  have h0:=ht 0 x rfl
  refine (EnvRep.cons (notLent_of_TRep h1)).2 ⟨[],[],rfl,by rw [← h0] at h1;simpa using h1,args_env vs xs (k+1) h2 fun i v hv=>?_⟩
  have:=ht (i+1) v (by simpa using hv)
  rwa [show k+(i+1)=k+1+i by omega] at this
theorem MapAt.as_ {k:Nat} {τ:Ty} {v:V} {y:τ.D} (h:V.as τ v=some y) (hm:MapAt G w k v):MapAt G w k (.dat τ y):=by
 cases v with
 | dat τ' x =>
  simp only [V.as] at h
  split at h
  ·rename_i e;subst e;injection h with h;subst h;exact hm
  ·cases h
 | own e xs =>
  simp only [V.as] at h
  split at h
  ·rename_i e2;subst e2;exact MapAt.no rfl
  ·cases h
 | pr a b =>
  cases τ with
  | pair ta tb=>exact MapAt.no rfl
  | _=>simp [V.as] at h
 | _=>simp [V.as] at h
def newTy:Ty→Bool
 | .map _ _=>true
 | τ=>Nat.blt 0 τ.cells
theorem own_any {k:Nat} {τ:Ty} {v:V} {y:τ.D} (ht:newTy τ=true) (h:V.as τ v=some y) (ho:OwnsAt G w k v):∃ o,G.O (G.ρ k).1 o=some k:=by
 have hc:=(as_cells τ v y h).1
 have hm:=ho.2.as_ h
 cases τ with
 | map a b=>obtain ⟨_,h2,_⟩:=hm;exact ⟨0,h2⟩
 | _=>exact ⟨_,(ho.1 0 (by rw [hc];exact Nat.le_of_ble_eq_true ht)).1⟩
theorem objs_as:∀ (ts:List Ty) (vs us:List V) (k:Nat) (tk:List Nat),AsL ts vs us→MemRep G w (number k vs) tk→MemRep G w (number k us) []
 | [],_,_,_,_,⟨h1,h2⟩,_=>by subst h2;rfl
 | τ::r,_,_,k,tk,⟨v,vs,y,us,e1,e2,h3,h4⟩,hM=>by
  subst e1;subst e2
  obtain ⟨t1,t2,cs,e,g1,g2,g3,g4⟩:=hM
  have hc:=(as_cells τ v y h3).1
  exact ⟨[],[],cs,rfl,⟨as_rep τ v y cs t1 h3 g1,rfl⟩,g2,⟨by show CellsOwn G w k τ.cells;rw [← hc];exact g3.1,g3.2.as_ h3⟩,objs_as r vs us (k+1) t2 h4 g4⟩

def Rs.noNew:Rs→Bool
 | .new=>false
 | .raw _=>false
 | .n2 _=>false
 | .newm=>false
 | .n2m=>false
 | .t2 a b=>a.noNew && b.noNew
 | _=>true
theorem enc_rep (n:Nat):∀ (ρ:Rs) (v:V) (x:ρ.D) (cs:List Value) (ts:List Nat),ρ.noNew=true→Rs.dec n ρ v=some x→VRep G w v cs ts →
  (ρ.enc n x).agg=v.agg∧∃ ts',(∀ g,cnt g ts'≤cnt g ts)∧VRep G w (ρ.enc n x) cs ts'
 | .dat τ,v,x,cs,ts,_,h,hv=>⟨(as_cells τ v x h).2.symm,[],fun g=>by simp,as_rep τ v x cs ts h hv,rfl⟩
 | .own e,v,x,cs,ts,_,h,hv=>by
  cases v <;> simp only [Rs.dec,reduceCtorEq] at h
  split at h
  ·rename_i e2;subst e2
   injection h with h;subst h
   exact ⟨rfl,ts,fun _=>Nat.le_refl _,hv⟩
  ·cases h
 | .t2 .new b,v,x,cs,ts,hn,_,_=>by simp [Rs.noNew] at hn
 | .t2 (.dat τ) b,v,x,cs,ts,hn,h,hv=>by
  cases v <;> simp only [Rs.dec,reduceCtorEq] at h
  rename_i va vb
  simp only [Option.bind_eq_some_iff] at h
  obtain ⟨x1,h1,y,h2,h3⟩:=h
  injection h3 with h3;subst h3
  obtain ⟨xa,xb,ca,cb,t1,t2,e1,e2,g1,g2,g3,g4⟩:=hv
  simp only [Rs.noNew,Bool.true_and] at hn
  obtain ⟨k1,t2',k2,k3⟩:=enc_rep n b vb y cb t2 hn h2 g3
  refine ⟨rfl,[]++t2',fun g=>by have:=k2 g;subst e2;simp;omega,xa,xb,ca,cb,[],t2',e1,rfl,⟨as_rep τ va x1 ca t1 h1 g1,rfl⟩,?_,k3,?_⟩
  ·rw [show (V.dat τ x1).agg=va.agg from (as_cells τ va x1 h1).2.symm];exact g2
  ·rw [k1];exact g4
 | .t2 (.own e) b,v,x,cs,ts,hn,h,hv=>by simp [Rs.dec] at h
 | .t2 (.raw e) b,v,x,cs,ts,hn,h,hv=>by simp [Rs.dec] at h
 | .raw e,v,x,cs,ts,hn,_,_=>by simp [Rs.noNew] at hn
 | .t2 (.t2 p q) b,v,x,cs,ts,hn,h,hv=>by simp [Rs.dec] at h
 | .t2 .unit b,v,x,cs,ts,hn,h,hv=>by simp [Rs.dec] at h
 | .new,v,x,cs,ts,hn,_,_=>by simp [Rs.noNew] at hn
 | .unit,v,x,cs,ts,_,h,hv=>by
  cases v <;> simp only [Rs.dec,reduceCtorEq] at h
  exact ⟨rfl,ts,fun _=>Nat.le_refl _,hv⟩
 | .n2 c,v,x,cs,ts,hn,_,_=>by simp [Rs.noNew] at hn
 | .newm,v,x,cs,ts,hn,_,_=>by simp [Rs.noNew] at hn
 | .n2m,v,x,cs,ts,hn,_,_=>by simp [Rs.noNew] at hn
 | .t2 .newm b,v,x,cs,ts,hn,h,hv=>by simp [Rs.dec] at h
 | .t2 .n2m b,v,x,cs,ts,hn,h,hv=>by simp [Rs.dec] at h
 | .t2 (.n2 c) b,v,x,cs,ts,hn,h,hv=>by simp [Rs.dec] at h
 | .t2 (.t3 _ _ _) b,v,x,cs,ts,hn,h,hv=>by simp [Rs.dec] at h
 | .t3 a b c,v,x,cs,ts,_,h,hv=>by
  cases v <;> simp only [Rs.dec,reduceCtorEq] at h
  rename_i va vb vc
  simp only [Option.bind_eq_some_iff] at h
  obtain ⟨x1,h1,x2,h2,x3,h3,h4⟩:=h
  injection h4 with h4;subst h4
  obtain ⟨xa,xb,xc,ca,cb,cc,t1,t2,t3,e1,e2,g1,g2,g3,g4,g5,g6⟩:=hv
  refine ⟨rfl,[],fun g=>by simp,xa,xb,xc,ca,cb,cc,[],[],[],e1,rfl,⟨as_rep a va x1 ca t1 h1 g1,rfl⟩,?_,⟨as_rep b vb x2 cb t2 h2 g3,rfl⟩,?_,⟨as_rep c vc x3 cc t3 h3 g5,rfl⟩,?_⟩
  ·rw [show (V.dat a x1).agg=va.agg from (as_cells a va x1 h1).2.symm];exact g2
  ·rw [show (V.dat b x2).agg=vb.agg from (as_cells b vb x2 h2).2.symm];exact g4
  ·rw [show (V.dat c x3).agg=vc.agg from (as_cells c vc x3 h3).2.symm];exact g6
def Rs.okR:Rs→Bool
 | .raw _=>true
 | ρ=>ρ.noNew
theorem leads_spec {m:List (Nat × V)} {n:Nat} {v:V} {os:List V} {p:V × List V} {ρ:Rs} (hn:ρ.okR=true) (h:leads m n v os=some p) (hd:(Rs.dec n ρ p.1).isSome=true):p=(v,os)∧v.refs=[]:=by
 have hr:∀ k,(Rs.dec n ρ (.ref k [])).isSome=false:=by
  intro k
  cases ρ with
  | t2 a b=>cases a <;> simp [Rs.okR,Rs.noNew] at hn <;> simp [Rs.dec]
  | new=>simp [Rs.okR,Rs.noNew] at hn
  | n2 c=>simp [Rs.okR,Rs.noNew] at hn
  | newm=>simp [Rs.okR,Rs.noNew] at hn
  | n2m=>simp [Rs.okR,Rs.noNew] at hn
  | _=>simp [Rs.dec,V.as]
 have hr2:∀ k b,(Rs.dec n ρ (.tup2 (.ref k []) b)).isSome=false:=by
  intro k b
  cases ρ with
  | t2 a b=>cases a <;> simp [Rs.okR,Rs.noNew] at hn <;> simp [Rs.dec,V.as]
  | new=>simp [Rs.okR,Rs.noNew] at hn
  | n2 c=>simp [Rs.okR,Rs.noNew] at hn
  | newm=>simp [Rs.okR,Rs.noNew] at hn
  | n2m=>simp [Rs.okR,Rs.noNew] at hn
  | _=>simp [Rs.dec,V.as]
 have hr3:∀ k k' b,(Rs.dec n ρ (.tup3 (.ref k []) (.ref k' []) b)).isSome=false:=by
  intro k k' b
  cases ρ with
  | t2 a b=>cases a <;> simp [Rs.okR,Rs.noNew] at hn <;> simp [Rs.dec,V.as]
  | new=>simp [Rs.okR,Rs.noNew] at hn
  | n2 c=>simp [Rs.okR,Rs.noNew] at hn
  | newm=>simp [Rs.okR,Rs.noNew] at hn
  | n2m=>simp [Rs.okR,Rs.noNew] at hn
  | _=>simp [Rs.dec,V.as]
 have hr4:∀ k,(Rs.dec n ρ (.mref k)).isSome=false:=by
  intro k
  cases ρ with
  | t2 a b=>cases a <;> simp [Rs.okR,Rs.noNew] at hn <;> simp [Rs.dec,V.as]
  | new=>simp [Rs.okR,Rs.noNew] at hn
  | n2 c=>simp [Rs.okR,Rs.noNew] at hn
  | newm=>simp [Rs.okR,Rs.noNew] at hn
  | n2m=>simp [Rs.okR,Rs.noNew] at hn
  | _=>simp [Rs.dec,V.as]
 have hr5:∀ k k',(Rs.dec n ρ (.tup2 (.mref k) (.mref k'))).isSome=false:=by
  intro k k'
  cases ρ with
  | t2 a b=>cases a <;> simp [Rs.okR,Rs.noNew] at hn <;> simp [Rs.dec,V.as]
  | new=>simp [Rs.okR,Rs.noNew] at hn
  | n2 c=>simp [Rs.okR,Rs.noNew] at hn
  | newm=>simp [Rs.okR,Rs.noNew] at hn
  | n2m=>simp [Rs.okR,Rs.noNew] at hn
  | _=>simp [Rs.dec,V.as]
 have no:∀ {β:Type} {b:Bool} {x:Option β} {r:β},(bif b then none else x)=some r→x=some r:=by
  intro β b x r h
  cases b
  ·exact h
  ·cases h
 unfold leads at h
 split at h
 ·have h:=no h
  simp only [Option.bind_eq_some_iff] at h
  obtain ⟨u,_,h⟩:=h
  obtain ⟨_,h⟩:=cond_then h
  injection h with h;subst h
  rw [hr] at hd;cases hd
 ·have h:=no h
  simp only [Option.bind_eq_some_iff] at h
  obtain ⟨u,_,h⟩:=h
  obtain ⟨_,h⟩:=cond_then h
  injection h with h;subst h
  rw [hr2] at hd;cases hd
 ·have h:=no h
  simp only [Option.bind_eq_some_iff] at h
  obtain ⟨u,_,u',_,h⟩:=h
  obtain ⟨_,h⟩:=cond_then h
  injection h with h;subst h
  rw [hr3] at hd;cases hd
 ·have h:=no h
  simp only [Option.bind_eq_some_iff] at h
  obtain ⟨u,_,h⟩:=h
  obtain ⟨_,h⟩:=cond_then h
  injection h with h;subst h
  rw [hr4] at hd;cases hd
 ·have h:=no h
  simp only [Option.bind_eq_some_iff] at h
  obtain ⟨u,_,u',_,h⟩:=h
  obtain ⟨_,h⟩:=cond_then h
  injection h with h;subst h
  rw [hr5] at hd;cases hd
 ·obtain ⟨h1,h2⟩:=cond_then h
  injection h2 with h2
  exact ⟨h2.symm,by simpa using h1⟩
theorem objs_rep:∀ (n k:Nat) (m:List (Nat × V)) (ts:List Nat) (os:List V),MemRep G w m ts→objsOf m k n=some os→os.length=n∧∃ t2,(∀ g,cnt g t2≤cnt g ts)∧MemRep G w (number k os) t2
 | 0,k,m,ts,os,_,h=>by simp only [objsOf,Option.some.injEq] at h;subst h;exact ⟨rfl,[],fun g=>by simp,rfl⟩
 | n+1,k,m,ts,os,hM,h=>by
  simp only [objsOf,Option.bind_eq_some_iff,Option.some.injEq] at h
  obtain ⟨v,hv,vs,hvs,rfl⟩:=h
  obtain ⟨t1,t2,cs,e1,e2,e3,e4,e5⟩:=MemRep.find k m ts v hM hv
  have oth:∀ (n q:Nat),k<q→objsOf (Pal.rm m k) q n=objsOf m q n:=by
   intro n
   induction n with
   | zero=>intro q _;rfl
   | succ n ih=>intro q hq;simp only [objsOf,lk_rm_other (show k ≠ q by omega),ih (q+1) (by omega)]
  obtain ⟨f1,t3,f2,f3⟩:=objs_rep n (k+1) (Pal.rm m k) t2 vs e5 (by rw [oth n (k+1) (by omega)];exact hvs)
  exact ⟨by simp [f1],t1++t3,fun g=>by have:=e1 g;have:=f2 g;simp;omega,t1,t3,cs,rfl,e2,e3,e4,f3⟩
def takeR:ResultVar→Option Nat
 | .tmp t=>some t
 | _=>none
def apartR (a b:ResultVar):Bool:=match takeR a,takeR b with
 | some x,some y=>!(Nat.beq x y)
 | _,_=>true
def okRes:List ResultVar→Bool
 | []=>true
 | [.tmp _]=>true
 | [.cell _ _]=>true
 | [a,b]=>apartR a b
 | [a,b,d]=>apartR a b && (apartR a d && apartR b d)
 | _=>false
theorem plain_one {v:V} {cs:List Value} {x:Value} {ts:List Nat} (h:VRep G w v cs ts) (ht:isTup v=false) (hx:if v.agg then x = .agg cs.toArray else cs=[x]):ofCells v.agg cs x:=by
 unfold ofCells
 cases hag:v.agg with
 | true=>simp [hag] at hx ⊢;exact hx
 | false =>
  simp [hag] at hx ⊢
  exact ⟨hx,h.plain v cs ts ht x (by simp [hx])⟩
def noLentV:V→Prop
 | .tup2 a b=>notLent a∧notLent b
 | .tup3 a b d=>notLent a∧notLent b∧notLent d
 | v=>notLent v
theorem dec_nl1 {n:Nat} {ρ:Rs} {v:V} (h:(Rs.dec n ρ v).isSome=true):notLent v:=by
 cases v <;> try trivial
 cases ρ with
 | t2 a b=>cases a <;> simp [Rs.dec] at h
 | _=>simp [Rs.dec,V.as] at h
theorem as_nl {τ:Ty} {v:V} {x:τ.D} (h:V.as τ v=some x):notLent v:=by
 cases v <;> try trivial
 simp [V.as] at h
theorem dec_nl {n:Nat} {ρ:Rs} {v:V} (hn:ρ.okR=true) (h:(Rs.dec n ρ v).isSome=true):noLentV v:=by
 have h1:=dec_nl1 h
 cases v <;> try exact h1
 ·rename_i a b
  cases ρ with
  | t2 p q =>
   cases p <;> simp [Rs.okR,Rs.noNew] at hn <;> simp [Rs.dec] at h
   rename_i τ
   rw [Option.isSome_iff_exists] at h
   obtain ⟨z,h⟩:=h
   simp only [Option.bind_eq_some_iff] at h
   obtain ⟨x,hx,y,hy,_⟩:=h
   exact ⟨as_nl hx,dec_nl1 (n:=n) (ρ:=q) (by rw [hy];rfl)⟩
  | new=>simp [Rs.okR,Rs.noNew] at hn
  | n2 c=>simp [Rs.okR,Rs.noNew] at hn
  | newm=>simp [Rs.okR,Rs.noNew] at hn
  | n2m=>simp [Rs.okR,Rs.noNew] at hn
  | _=>simp [Rs.dec,V.as] at h
 ·rename_i a b d
  cases ρ with
  | t3 p q r =>
   rw [Option.isSome_iff_exists] at h
   obtain ⟨z,h⟩:=h
   simp only [Rs.dec,Option.bind_eq_some_iff] at h
   obtain ⟨x,hx,y,hy,u,hu,_⟩:=h
   exact ⟨as_nl hx,as_nl hy,as_nl hu⟩
  | t2 p q=>cases p <;> simp [Rs.okR,Rs.noNew] at hn <;> simp [Rs.dec] at h
  | new=>simp [Rs.okR,Rs.noNew] at hn
  | n2 c=>simp [Rs.okR,Rs.noNew] at hn
  | newm=>simp [Rs.okR,Rs.noNew] at hn
  | n2m=>simp [Rs.okR,Rs.noNew] at hn
  | _=>simp [Rs.dec,V.as] at h
def rdRes (tmps:Array Value):ResultVar→Sem Value
 | .tmp t=>pure (tmps.getD t undef)
 | .cell a t=>do loadVar t (← asAddr (tmps.getD a undef))
def cutR (r:ResultVar) (env:List (Nat × V)):List (Nat × V):=match takeR r with
 | some t=>Pal.rm env t
 | none=>env
theorem cutR_lk {a b:ResultVar} (h:apartR a b=true) (env:List (Nat × V)) (t:Nat) (ht:takeR b=some t):lk (cutR a env) t=lk env t:=by
 unfold cutR
 cases ha:takeR a with
 | none=>rfl
 | some x =>
  unfold apartR at h
  rw [ha,ht] at h
  have h:(!(Nat.beq x t))=true:=h
  exact lk_rm_other (fun e=>by rw [Bool.not_eq_true',Bool.eq_false_iff] at h;exact h (beq_nat.2 e)) env
theorem res_one (hT:TT P c) {tmps:Array Value} {v:V} {tE tE' tM:List Nat} {env':List (Nat × V)} (hE:EnvRep G w tmps s.env tE) (hM:MemRep G w s.mem tM) (hE':EnvRep G w tmps env' tE') {r:ResultVar} (hv:resV c s r=some v)
  (hl:∀ t,takeR r=some t→lk env' t=lk s.env t) (hnl:notLent v):∃ y t1 t2,(rdRes tmps r).run P w = .ok y w∧TRep G w v y t1∧(∀ g,cnt g t1+cnt g t2≤cnt g tE')∧EnvRep G w tmps (cutR r env') t2:=by
 cases r with
 | tmp t =>
  simp only [resV] at hv
  obtain ⟨t1,t2,e1,e2,e3⟩:=EnvRep.find t env' tE' v hE' (by rw [hl t rfl];exact hv) hnl
  exact ⟨tmps.getD t undef,t1,t2,rfl,e2,e1,e3⟩
 | cell x ty =>
  simp only [resV,Option.bind_eq_some_iff] at hv
  obtain ⟨ly,hly,av,hav,h⟩:=hv
  cases av with
  | ref k p =>
   simp only [Option.bind_eq_some_iff] at h
   obtain ⟨u,hu,z,hz,h⟩:=h
   obtain ⟨hb,h⟩:=cond_then h
   injection h with h;subst h
   simp only [Bool.and_eq_true] at hb
   obtain ⟨t1,t2,_,e2,_⟩:=EnvRep.find x s.env tE _ hE hav trivial
   obtain ⟨hp1,hp2⟩:=e2.ref_
   obtain ⟨t1,t2,cs,_,g1,g2,_,_⟩:=MemRep.find k s.mem tM u hM hu
   obtain ⟨c1,cu,c2,tu,e1,e2,_,e4⟩:=get_rep p u z cs t1 g1 hz hp2
   have hcu:CellsAt w (G.ρ k).1 ((G.ρ k).2+offs p) cu:=by
    intro j y hj
    have:=g2 (offs p+j) y (by rw [e1,List.getElem?_append_right (by omega),List.getElem?_append_left (by have:=(List.getElem?_eq_some_iff.1 hj).1;omega)];rw [← hj];congr 1;omega)
    rwa [← Nat.add_assoc] at this
   obtain ⟨y,hy,hyu⟩:=load_run (P:=P) hT hly e4 hcu (beq_nat.1 hb.1) (by simpa using hb.2)
   refine ⟨y,[],tE',?_,TRep.copy ⟨cu,e4,hyu⟩,fun g=>by simp,hE'⟩
   have hy':(asAddr (tmps.getD x undef) >>= loadVar ty:Sem Value).run P w = .ok y w:=by rw [hp1];exact hy
   exact hy'
  | _=>cases h
theorem results_rep {fn:Func} (hT:TT P c) {tmps:Array Value} {v:V} {tE:List Nat} (hok:okRes fn.results.toList=true) (hE:EnvRep G w tmps s.env tE) {tM:List Nat} (hM:MemRep G w s.mem tM) (h:resAll c s fn.results.toList=some v) (hnl:noLentV v) :
  ∃ y ts,(results fn tmps).run P w = .ok y w∧TRep G w v y ts∧∀ g,cnt g ts≤cnt g tE:=by
 obtain ⟨l,hl⟩:∃ l,fn.results=l.toArray:=⟨fn.results.toList,by simp⟩
 rw [hl] at hok h
 simp only [List.toList_toArray] at hok h
 have one:∀ r,l=[r]→∃ y ts,(results fn tmps).run P w = .ok y w∧TRep G w v y ts∧∀ g,cnt g ts≤cnt g tE:=by
  rintro r rfl
  have hnl:notLent v:=by cases v <;> first | trivial | exact hnl
  have h:resV c s r=some v:=h
  obtain ⟨y,t1,t2,e1,e2,e3,_⟩:=res_one hT hE hM hE h (fun _ _=>rfl) hnl
  refine ⟨y,t1,?_,e2,fun g=>by have:=e3 g;omega⟩
  have hr:(results fn tmps).run P w=(rdRes tmps r).run P w:=by cases r <;> simp [results,hl,rdRes]
  rw [hr];exact e1
 match l,hl,hok,h with
 | [],hl,_,h =>
  simp only [resAll,Option.some.injEq] at h;subst h
  exact ⟨.tuple #[],[],by simp [results,hl],⟨_,⟨rfl,rfl⟩,rfl⟩,fun g=>by simp⟩
 | [r],hl,_,h=>exact one r rfl
 | [a,b],hl,hok,h =>
  have hok:apartR a b=true:=by cases a <;> exact hok
  simp only [resAll,Option.bind_eq_some_iff] at h
  obtain ⟨va,ha,vb,hb,h⟩:=h
  have h:(isTup va || isTup vb)=false∧V.tup2 va vb=v:=by
   cases hc:(isTup va || isTup vb) with
   | false=>rw [hc] at h;injection h with h;exact ⟨rfl,h⟩
   | true=>rw [hc] at h;cases h
  obtain ⟨hc,rfl⟩:=h
  simp only [Bool.or_eq_false_iff] at hc
  obtain ⟨ya,t1,t2,ra,⟨ca,e2,e2'⟩,e1,e3⟩:=res_one hT hE hM hE ha (fun _ _=>rfl) hnl.1
  obtain ⟨yb,t3,t4,rb,⟨cb,f2,f2'⟩,f1,_⟩:=res_one hT hE hM e3 hb (cutR_lk hok s.env) hnl.2
  refine ⟨.tuple #[ya,yb],t1++t3,?_,⟨_,⟨_,_,ca,cb,t1,t3,rfl,rfl,e2,plain_one e2 hc.1 e2',f2,plain_one f2 hc.2 f2'⟩,rfl⟩,fun g=>by have:=e1 g;have:=f1 g;simp;omega⟩
  have hr:(results fn tmps).run P w=((do let x ← rdRes tmps a;let y ← rdRes tmps b;pure (.tuple #[x,y])):Sem Value).run P w:=by
   cases a <;> cases b <;> simp [results,hl,rdRes]
  rw [hr]
  simp only [Sem.run_bind,ra,rb,Result.andThen_ok,Sem.run_pure]
 | [a,b,d],hl,hok,h =>
  have hok:(apartR a b && (apartR a d && apartR b d))=true:=by cases a <;> exact hok
  simp only [Bool.and_eq_true] at hok
  simp only [resAll,Option.bind_eq_some_iff] at h
  obtain ⟨va,ha,vb,hb,vd,hd,h⟩:=h
  have h:(isTup va || isTup vb || isTup vd)=false∧V.tup3 va vb vd=v:=by
   cases hc:(isTup va || isTup vb || isTup vd) with
   | false=>rw [hc] at h;injection h with h;exact ⟨rfl,h⟩
   | true=>rw [hc] at h;cases h
  obtain ⟨hc,rfl⟩:=h
  simp only [Bool.or_eq_false_iff] at hc
  obtain ⟨ya,t1,t2,ra,⟨ca,e2,e2'⟩,e1,e3⟩:=res_one hT hE hM hE ha (fun _ _=>rfl) hnl.1
  obtain ⟨yb,t3,t4,rb,⟨cb,f2,f2'⟩,f1,f3⟩:=res_one hT hE hM e3 hb (cutR_lk hok.1 s.env) hnl.2.1
  obtain ⟨yd,t5,t6,rd',⟨cd,k2,k2'⟩,k1,_⟩:=res_one hT hE hM f3 hd (fun t ht=>by rw [cutR_lk hok.2.2 _ t ht,cutR_lk hok.2.1 _ t ht]) hnl.2.2
  refine ⟨.tuple #[ya,yb,yd],t1++(t3++t5),?_,⟨_,⟨_,_,_,ca,cb,cd,t1,t3,t5,rfl,rfl,e2,plain_one e2 hc.1.1 e2',f2,plain_one f2 hc.1.2 f2',k2,plain_one k2 hc.2 k2'⟩,rfl⟩,fun g=>by have:=e1 g;have:=f1 g;have:=k1 g;simp;omega⟩
  have hr:(results fn tmps).run P w=((do let x ← rdRes tmps a;let y ← rdRes tmps b;let z ← rdRes tmps d;pure (.tuple #[x,y,z])):Sem Value).run P w:=by
   cases a <;> cases b <;> cases d <;> simp [results,hl,rdRes]
  rw [hr]
  simp only [Sem.run_bind,ra,rb,rd',Result.andThen_ok,Sem.run_pure]
 | _::_::_::_::_,_,hok,_=>simp [okRes] at hok

theorem dec_len:∀ (ts:List Ty) (vs:List V) (x:Dl ts),Dl.dec ts vs=some x→vs.length=ts.length:=fun ts vs x h=>(dec_asL ts vs x h).lengths.1
theorem entry_nat {σ:Sg} {F:σ.In→Option σ.Out} (α:Type) (args objs:List V) (K:V→List V→Option α):(σ.entry F).run α args objs K=((σ.entry F).val args objs).bind fun p=>K p.1 p.2:=by
 unfold Entry.val
 show ((Ar.pull σ.args 0 args).bind fun ds=>_)=(Option.bind ((Ar.pull σ.args 0 args).bind fun ds=>_) _)
 refine bind_nat fun ds=>bind_nat fun x=>?_
 cases F x <;> rfl
theorem entry_val {σ:Sg} {F:σ.In→Option σ.Out} {args objs os:List V} {v:V} (h:(σ.entry F).val args objs=some (v,os)) :
  ∃ ds x r,Ar.pull σ.args 0 args=some ds∧Dl.dec (arTys σ.args++σ.objs) (ds++objs)=some x∧F x=some r∧v=encOutV σ.res σ.objs.length σ.outs r∧os=encOutO σ.res σ.outs r:=by
 unfold Entry.val at h
 change ((Ar.pull σ.args 0 args).bind fun ds=>(Dl.dec (arTys σ.args++σ.objs) (ds++objs)).bind fun x=>bnd (F x) fun r=>some (encOutV σ.res σ.objs.length σ.outs r,encOutO σ.res σ.outs r))=_ at h
 rw [Option.bind_eq_some_iff] at h
 obtain ⟨ds,h1,h⟩:=h
 rw [Option.bind_eq_some_iff] at h
 obtain ⟨x,h2,h⟩:=h
 cases hF:F x with
 | none=>rw [hF] at h;cases h
 | some r =>
  rw [hF] at h
  simp only [bnd,Option.some.injEq,Prod.mk.injEq] at h
  exact ⟨ds,x,r,h1,h2,hF,h.1.symm,h.2.symm⟩
theorem decOut_rep {ρ:Rs} {n:Nat}:∀ {ts:List Ty} {v:V} {os:List V} {r:outD ρ ts},decOut ρ n ts v os=some r→∃ x,Rs.dec n ρ v=some x∧encOutV ρ n ts r=ρ.enc n x∧AsL ts os (encOutO ρ ts r)
 | [],v,[],r,h=>⟨r,h,rfl,rfl,rfl⟩
 | [],v,_::_,r,h=>by simp [decOut] at h
 | τ::q,v,os,r,h=>by
  simp only [decOut,Option.bind_eq_some_iff] at h
  obtain ⟨x,hx,y,hy,h⟩:=h
  injection h with h;subst h
  exact ⟨x,hx,rfl,dec_asL _ _ _ hy⟩
theorem enc_any {n:Nat} {ρ:Rs} {v:V} {x:ρ.D} {y:Value} {ts:List Nat} (hok:ρ.okR=true) (hz:Rs.dec n ρ v=some x) (hW:Wf G w) (hnew:∀ g,0<cnt g ts→w0.heap.size≤g) (hW0:Wf G0 w0) (hE:Ev X G0 w0 G w) (hT:TRep G w v y ts) :
  ∃ G' ts',Ev X G0 w0 G' w∧Wf G' w∧G'.ρ=G.ρ∧(∀ g,cnt g ts'≤cnt g ts)∧TRep G' w (ρ.enc n x) y ts'∧(ρ.noNew=true→G'=G):=by
 by_cases hn:ρ.noNew=true
 ·obtain ⟨cs,m2,m3⟩:=hT
  obtain ⟨n1,ts',n2,n3⟩:=enc_rep n ρ v x cs ts hn hz m2
  exact ⟨G,ts',hE,hW,rfl,n2,⟨cs,n3,by rw [n1];exact m3⟩,fun _=>rfl⟩
 ·cases ρ with
  | raw e =>
   cases v <;> simp only [Rs.dec,reduceCtorEq] at hz
   ·split at hz
    ·rename_i e1;subst e1
     obtain ⟨hf,hz⟩:=cond_then hz
     injection hz with hz;subst hz
     obtain ⟨G',g1,g2,g3,g4⟩:=thaw hf hW hnew hW0 hE hT
     exact ⟨G',ts,g1,g2,g3,fun _=>Nat.le_refl _,g4,fun h=>absurd h hn⟩
    ·cases hz
   ·split at hz
    ·rename_i e1;subst e1
     injection hz with hz;subst hz
     exact ⟨G,ts,hE,hW,rfl,fun _=>Nat.le_refl _,hT,fun h=>absurd h hn⟩
    ·cases hz
  | _=>exact absurd hok hn
def Gh.named (G:Gh) (k q:Nat):Gh:={ I:=G.I,O:=fun b o=>if G.O b o=some k then some q else G.O b o,ρ:=fun x=>if x=q then G.ρ k else G.ρ x }
theorem named_ev {k q:Nat} (h:Ev X G0 w0 G w) (hk:∀ b o,b<w0.heap.size→G.O b o ≠ some k):Ev X G0 w0 (G.named k q) w :=
 ⟨h.evo,h.le,h.grow,fun b o hb=>by
  show (if G.O b o=some k then some q else G.O b o)=_
  rw [if_neg (hk b o hb)];exact h.own b o hb⟩
theorem named_none {k q b o:Nat} (h:G.O b o=none):(G.named k q).O b o=none:=by
 show (if G.O b o=some k then some q else G.O b o)=none
 rw [h];simp
theorem named_wf {k q:Nat} (h:Wf G w):Wf (G.named k q) w :=
 ⟨h.holds,fun b o v hv=>named_none (h.io b o v hv),fun b o x hx=>by
  have hx:(if G.O b o=some k then some q else G.O b o)=some x:=hx
  split at hx
  ·rename_i e;exact h.lt b o k e
  ·exact h.lt b o x hx⟩
theorem named_ρ {k q x:Nat} (h:x ≠ q):(G.named k q).ρ x=G.ρ x:=by
 show (if x=q then G.ρ k else G.ρ x)=_
 rw [if_neg h]
theorem named_mem {k n:Nat} (hk:k<1000000):∀ (us:List V) (j:Nat) (ts:List Nat),(∀ u ∈ us,u.refs=[])→j+us.length≤n→(∀ g ∈ ts,∀ o,G.O g o=none)→MemRep G w (number (1000000+j) us) ts→MemRep (G.named k (1000000+n)) w (number (1000000+j) us) ts
 | [],_,_,_,_,_,h=>h
 | u::us,j,ts,hr,hl,hO,⟨t1,t2,cs,e,h1,h2,h3,h4⟩=>by
  simp only [List.length_cons] at hl
  subst e
  have hρ:(G.named k (1000000+n)).ρ (1000000+j)=G.ρ (1000000+j):=named_ρ (by omega)
  refine ⟨t1,t2,cs,rfl,VRep.swap (G:=G) (G':=G.named k (1000000+n)) (fun _ _=>rfl) u cs t1 (hr u (by simp)) (fun g hg o=>named_none (hO g (by simp [hg]) o)) h1,by rw [hρ];exact h2,⟨fun i hi=>?_,MapAt.swap (G:=G) (G':=G.named k (1000000+n)) (k:=1000000+j) (fun _ _=>rfl) hρ (fun ho=>by
   show (if _=some k then some (1000000+n) else _)=_
   rw [ho,if_neg (by intro e;injection e with e;omega)]) h3.2⟩,named_mem hk us (j+1) t2 (fun v hv=>hr v (by simp [hv])) (by omega) (fun g hg=>hO g (by simp [hg])) h4⟩
  rw [hρ]
  obtain ⟨g1,g2⟩:=h3.1 i hi
  refine ⟨?_,g2⟩
  show (if _=some k then some (1000000+n) else _)=_
  rw [g1,if_neg (by intro e;injection e with e;omega)]
def Rs.isNew:Rs→Bool
 | .new=>true
 | .newm=>true
 | .t2 .new b=>b.noNew
 | _=>false
def okNew (σ:Sg):Bool:=σ.res.isNew && Nat.beq σ.outs.length (σ.objs.length+1) && (match σ.outs.drop σ.objs.length with | [τ]=>newTy τ | _=>false)
def Rs.isN2:Rs→Bool
 | .n2 c=>c.noNew
 | .n2m=>true
 | _=>false
def okNew2 (σ:Sg):Bool:=σ.res.isN2 && Nat.beq σ.outs.length (σ.objs.length+2) && (match σ.outs.drop σ.objs.length with | [τ,τ']=>newTy τ && newTy τ' | _=>false)
def okOld (σ:Sg):Bool:=(σ.res.okR && (σ.res.noNew || σ.outs.isEmpty)) || okNew σ
def okOut (σ:Sg):Bool:=okOld σ || okNew2 σ
theorem enc_refs (n:Nat):∀ (b:Rs) (z:b.D),b.noNew=true→(b.enc n z).refs=[]:=by
 intro b
 induction b with
 | t2 p q ihp ihq =>
  intro z hb
  cases p with
  | dat τ' =>
   simp only [Rs.noNew,Bool.true_and] at hb
   show V.refs (.dat τ' z.1)++V.refs (q.enc n z.2)=[]
   rw [ihq z.2 hb];rfl
  | new=>simp [Rs.noNew] at hb
  | n2 _=>simp [Rs.noNew] at hb
  | newm=>simp [Rs.noNew] at hb
  | n2m=>simp [Rs.noNew] at hb
  | _=>rfl
 | new=>intro z hb;simp [Rs.noNew] at hb
 | n2 _=>intro z hb;simp [Rs.noNew] at hb
 | newm=>intro z hb;simp [Rs.noNew] at hb
 | n2m=>intro z hb;simp [Rs.noNew] at hb
 | raw e=>intro z hb;simp [Rs.noNew] at hb
 | _=>intro z hb;rfl
theorem leads_new2 {m:List (Nat × V)} {n:Nat} {v:V} {os:List V} {p:V × List V} {ρ:Rs} (hn:ρ.isN2=true) (h:leads m n v os=some p) (hd:(Rs.dec n ρ p.1).isSome=true) :
  ∃ k k' u u',k<1000000∧k'<1000000∧k ≠ k'∧lk m k=some u∧lk m k'=some u'∧p.2=os++[u,u'] ∧
   ((∃ b vb,v = .tup3 (.ref k []) (.ref k' []) vb∧ρ = .n2 b∧b.noNew=true∧p.1 = .tup3 (.ref (1000000+n) []) (.ref (1000000+(n+1)) []) vb∧vb.refs=[])∨(v = .tup2 (.mref k) (.mref k')∧ρ = .n2m)):=by
 have no:∀ {β:Type} {b:Bool} {x:Option β} {r:β},(bif b then none else x)=some r→b=false∧x=some r:=by
  intro β b x r h
  cases b
  ·exact ⟨rfl,h⟩
  ·cases h
 have lt:∀ k,Nat.ble 1000000 k=false→k<1000000:=fun k hq=>Nat.lt_of_not_le fun hle=>by rw [Nat.ble_eq_true_of_le hle] at hq;cases hq
 have two:∀ v:V,v.refs=[]→(Rs.dec n ρ v).isSome=true→False:=by
  intro v hr hd
  cases ρ with
  | n2 c =>
   cases v <;> try (simp only [Rs.dec] at hd;cases hd;done)
   all_goals (rename_i a b d;cases a <;> try (simp only [Rs.dec] at hd;cases hd;done))
   all_goals (simp [V.refs] at hr)
  | n2m =>
   cases v <;> try (simp only [Rs.dec] at hd;cases hd;done)
   all_goals (rename_i a b;cases a <;> try (simp only [Rs.dec] at hd;cases hd;done))
   all_goals (simp [V.refs] at hr)
  | _=>simp [Rs.isN2] at hn
 unfold leads at h
 split at h
 ·obtain ⟨_,h⟩:=no h
  simp only [Option.bind_eq_some_iff] at h
  obtain ⟨u,hu,h⟩:=h
  obtain ⟨_,h⟩:=cond_then h
  injection h with h;subst h
  cases ρ <;> simp [Rs.isN2] at hn <;> simp [Rs.dec] at hd
 ·obtain ⟨_,h⟩:=no h
  simp only [Option.bind_eq_some_iff] at h
  obtain ⟨u,hu,h⟩:=h
  obtain ⟨_,h⟩:=cond_then h
  injection h with h;subst h
  cases ρ <;> simp [Rs.isN2] at hn <;> simp [Rs.dec] at hd
 ·rename_i k k' vb
  obtain ⟨hb,h⟩:=no h
  simp only [Option.bind_eq_some_iff] at h
  obtain ⟨u,hu,u',hu',h⟩:=h
  obtain ⟨_,h⟩:=cond_then h
  injection h with h;subst h
  simp only [Bool.or_eq_false_iff,Bool.not_eq_false',List.isEmpty_iff] at hb
  refine ⟨k,k',u,u',lt k hb.1.1.1,lt k' hb.1.1.2,(fun e:k=k'=>by have:=hb.1.2;rw [beq_nat.2 e] at this;cases this),hu,hu',rfl,.inl ?_⟩
  cases ρ with
  | n2 c=>exact ⟨c,vb,rfl,rfl,hn,rfl,hb.2⟩
  | n2m=>simp [Rs.dec] at hd
  | _=>simp [Rs.isN2] at hn
 ·obtain ⟨_,h⟩:=no h
  simp only [Option.bind_eq_some_iff] at h
  obtain ⟨u,hu,h⟩:=h
  obtain ⟨_,h⟩:=cond_then h
  injection h with h;subst h
  cases ρ <;> simp [Rs.isN2] at hn <;> simp [Rs.dec] at hd
 ·rename_i k k'
  obtain ⟨hb,h⟩:=no h
  simp only [Option.bind_eq_some_iff] at h
  obtain ⟨u,hu,u',hu',h⟩:=h
  obtain ⟨_,h⟩:=cond_then h
  injection h with h;subst h
  simp only [Bool.or_eq_false_iff] at hb
  refine ⟨k,k',u,u',lt k hb.1.1,lt k' hb.1.2,(fun e:k=k'=>by have:=hb.2;rw [beq_nat.2 e] at this;cases this),hu,hu',rfl,.inr ⟨rfl,?_⟩⟩
  cases ρ with
  | n2 c=>simp [Rs.dec] at hd
  | n2m=>rfl
  | _=>simp [Rs.isN2] at hn
 ·obtain ⟨hr,h⟩:=cond_then h
  injection h with h;subst h
  exact (two v (by simpa using hr) hd).elim
theorem dat_refs:∀ (ts:List Ty) (vs us:List V),AsL ts vs us→∀ u ∈ us,u.refs=[]
 | [],_,_,⟨_,h⟩,u,hu=>by subst h;cases hu
 | τ::r,_,_,⟨v,vs,y,us,_,e,_,h⟩,u,hu=>by
  subst e
  rcases List.mem_cons.1 hu with rfl | hu
  ·rfl
  ·exact dat_refs r vs us h u hu
theorem leads_new {m:List (Nat × V)} {n:Nat} {v:V} {os:List V} {p:V × List V} {ρ:Rs} (hn:ρ.isNew=true) (h:leads m n v os=some p) (hd:(Rs.dec n ρ p.1).isSome=true) :
  ∃ k u,k<1000000∧lk m k=some u∧p.2=os++[u]∧(((v = .ref k []∧ρ = .new)∨(v = .mref k∧ρ = .newm))∨∃ b vb,v = .tup2 (.ref k []) vb∧ρ = .t2 .new b∧b.noNew=true∧p.1 = .tup2 (.ref (1000000+n) []) vb∧vb.refs=[]):=by
 have no:∀ {β:Type} {b:Bool} {x:Option β} {r:β},(bif b then none else x)=some r→b=false∧x=some r:=by
  intro β b x r h
  cases b
  ·exact ⟨rfl,h⟩
  ·cases h
 unfold leads at h
 split at h
 ·rename_i k
  obtain ⟨hb,h⟩:=no h
  simp only [Option.bind_eq_some_iff] at h
  obtain ⟨u,hu,h⟩:=h
  obtain ⟨_,h⟩:=cond_then h
  injection h with h;subst h
  have hk:k<1000000:=by
   cases hq:Nat.ble 1000000 k with
   | true=>rw [hq] at hb;cases hb
   | false=>exact Nat.lt_of_not_le fun hle=>by rw [Nat.ble_eq_true_of_le hle] at hq;cases hq
  refine ⟨k,u,hk,hu,rfl,.inl (.inl ⟨rfl,?_⟩)⟩
  cases ρ with
  | new=>rfl
  | newm=>simp [Rs.dec] at hd
  | t2 a b=>cases a <;> simp [Rs.isNew] at hn <;> simp [Rs.dec] at hd
  | _=>simp [Rs.isNew] at hn
 ·rename_i k vb
  obtain ⟨hb,h⟩:=no h
  simp only [Option.bind_eq_some_iff] at h
  obtain ⟨u,hu,h⟩:=h
  obtain ⟨_,h⟩:=cond_then h
  injection h with h;subst h
  simp only [Bool.or_eq_false_iff,Bool.not_eq_false',List.isEmpty_iff] at hb
  have hk:k<1000000:=by
   have hq:=hb.1
   exact Nat.lt_of_not_le fun hle=>by rw [Nat.ble_eq_true_of_le hle] at hq;cases hq
  refine ⟨k,u,hk,hu,rfl,.inr ?_⟩
  cases ρ with
  | new=>simp [Rs.dec] at hd
  | newm=>simp [Rs.dec] at hd
  | t2 a b =>
   cases a with
   | new=>exact ⟨b,vb,rfl,rfl,hn,rfl,hb.2⟩
   | _=>simp [Rs.isNew] at hn
  | _=>simp [Rs.isNew] at hn
 ·obtain ⟨_,h⟩:=no h
  simp only [Option.bind_eq_some_iff] at h
  obtain ⟨u,hu,u',hu',h⟩:=h
  obtain ⟨_,h⟩:=cond_then h
  injection h with h;subst h
  exfalso
  cases ρ with
  | new=>simp [Rs.dec] at hd
  | newm=>simp [Rs.dec] at hd
  | t2 a b =>
   cases a with
   | new=>simp [Rs.dec] at hd
   | _=>simp [Rs.isNew] at hn
  | _=>simp [Rs.isNew] at hn
 ·rename_i k
  obtain ⟨hb,h⟩:=no h
  simp only [Option.bind_eq_some_iff] at h
  obtain ⟨u,hu,h⟩:=h
  obtain ⟨_,h⟩:=cond_then h
  injection h with h;subst h
  have hk:k<1000000:=Nat.lt_of_not_le fun hle=>by rw [Nat.ble_eq_true_of_le hle] at hb;cases hb
  refine ⟨k,u,hk,hu,rfl,.inl (.inr ⟨rfl,?_⟩)⟩
  cases ρ with
  | new=>simp [Rs.dec] at hd
  | newm=>rfl
  | t2 a b=>cases a <;> simp [Rs.isNew] at hn <;> simp [Rs.dec] at hd
  | _=>simp [Rs.isNew] at hn
 ·obtain ⟨_,h⟩:=no h
  simp only [Option.bind_eq_some_iff] at h
  obtain ⟨u,hu,u',hu',h⟩:=h
  obtain ⟨_,h⟩:=cond_then h
  injection h with h;subst h
  exfalso
  cases ρ with
  | new=>simp [Rs.dec] at hd
  | newm=>simp [Rs.dec] at hd
  | t2 a b =>
   cases a with
   | new=>simp [Rs.dec] at hd
   | _=>simp [Rs.isNew] at hn
  | _=>simp [Rs.isNew] at hn
 ·obtain ⟨hr,h⟩:=cond_then h
  injection h with h;subst h
  exfalso
  have hr:v.refs=[]:=by simpa using hr
  cases ρ with
  | new =>
   cases v <;> simp only [Rs.dec] at hd <;> first | (cases hd;done) | (simp [V.refs] at hr)
  | newm =>
   cases v <;> simp only [Rs.dec] at hd <;> first | (cases hd;done) | (simp [V.refs] at hr)
  | t2 a b =>
   cases a with
   | new =>
    cases v <;> simp only [Rs.dec] at hd <;> first | (cases hd;done) | (rename_i x y;cases x <;> simp only at hd <;> first | (cases hd;done) | (simp [V.refs] at hr;done))
   | _=>simp [Rs.isNew] at hn
  | _=>simp [Rs.isNew] at hn
theorem fn_ok' {f:FuncId} {fn:Func} {code:Code} {σ:Sg} {F:σ.In→Option σ.Out} (hT:TT P c)
  (hf : P.funcs[f]? = some fn) (hb : fn.body = some code) (hnm : (fn.name == "runtime.NumGoroutine") = false) (hargs : Nat.ble σ.args.length fn.ntmps = true) (hres : okRes fn.results.toList = true) (hnew : okOut σ = true)
  (hwp:∀ (x:σ.In) (r:σ.Out),F x=some r→∀ (X:Nat→Nat→Prop) (G:Gh) (w:World) (tmps:Array Value) (Q:Exit→Act→World→Prop),
   RS X G w G (st0 (Ar.lay σ.args 0 ((Dl.enc (arTys σ.args++σ.objs) x).take (arTys σ.args).length)) ((Dl.enc (arTys σ.args++σ.objs) x).drop (arTys σ.args).length)) tmps w→tmps.size=fn.ntmps →
   Left X G w fn.ntmps [] (σ.K c fn.results.toList) r Q→code.wp P Q { tmps:=tmps,defers:=[] } w):CallOK P f (σ.entry F):=by
 refine ⟨fun α args objs K=>entry_nat α args objs K,fun args objs vr os hval X G w argv tA tM hW hTab hX hA hM hcnt htok=>?_⟩
 obtain ⟨ds,x,r,h1,h2,h3,rfl,rfl⟩:=entry_val hval
 obtain ⟨hl1,hl2⟩:=pull_length _ _ _ _ h1
 obtain ⟨hs1,hs2⟩:=(dec_asL _ _ _ h2).split hl1
 have hobj:objs.length=σ.objs.length:=hs2.lengths.1
 have hargv:argv.length=args.length:=by
  have:∀ (args:List V) (argv:List Value) (ts:List Nat),ArgsRep G w args argv ts→argv.length=args.length:=by
   intro args
   induction args with
   | nil=>intro argv ts h;simp [h.1]
   | cons v vs ih=>intro argv ts ⟨x,xs,t1,t2,e1,_,_,h2⟩;simp [e1,ih xs t2 h2]
  exact this args argv tA hA
 refine .inl ⟨?_,?_⟩
 ·unfold callFunc
  have hnm' : ¬ fn.name = "runtime.NumGoroutine" := by simpa using hnm
  simp [hf,hnm',hb]
 ·have hlen:args.length≤fn.ntmps:=by have:=Nat.le_of_ble_eq_true hargs;omega
  refine calls_of_wp hf hb ?_
  let X0:Nat→Nat→Prop:=fun b o=>G.O b o ≠ none
  have hX0:∀ b o,X0 b o→X b o:=fun b o h=>by
   cases hk:G.O b o with
   | none=>exact absurd hk h
   | some k=>exact (hX b o k hk).1
  have hB:Base X0 G w G w:=⟨Ev.refl X0 G w,hW,fun _=>rfl,fun b o k _ hk=>by show G.O b o ≠ none;rw [hk];simp,hTab⟩
  have hE:EnvRep G w (argv.toArray++Array.replicate (fn.ntmps - argv.toArray.size) undef) (number 0 (Ar.lay σ.args 0 ((Dl.enc (arTys σ.args++σ.objs) x).take (arTys σ.args).length))) []:=by
   refine args_env _ argv 0 (lay_rep _ _ _ _ _ _ _ h1 hs1 hA) fun i v hv=>?_
   have hi:=(List.getElem?_eq_some_iff.1 hv).1
   rw [Nat.zero_add,Array.getD_eq_getD_getElem?,Array.getElem?_append_left (by simpa using hi)]
   simp [hv]
  have hM':=objs_as (G:=G) (w:=w) _ _ _ 1000000 tM hs2 hM
  have hR:RS X0 G w G (st0 (Ar.lay σ.args 0 ((Dl.enc (arTys σ.args++σ.objs) x).take (arTys σ.args).length)) ((Dl.enc (arTys σ.args++σ.objs) x).drop (arTys σ.args).length)) (argv.toArray++Array.replicate (fn.ntmps - argv.toArray.size) undef) w :=
   ⟨hB,[],[],hE,hM',fun g=>by simp,fun g hg=>by simp at hg⟩
  refine hwp x r h3 X0 G w _ _ hR (by simp;omega) ?_
  intro e a' w' G' s' g1 g2 g3 g4
  have hmain:∃ y,(results fn a'.tmps).run P w' = .ok y w'∧∃ G',Post X G w objs.length (encOutV σ.res σ.objs.length σ.outs r) (encOutO σ.res σ.outs r) y argv.head? G' w':=by
   have g4':((resAll c s' fn.results.toList).bind fun v=>(objsOf s'.mem 1000000 σ.objs.length).bind fun os=>(leads s'.mem σ.objs.length v os).bind fun p=>decOut σ.res σ.objs.length σ.outs p.1 p.2)=some r:=by
    cases e with
    | exit i=>cases g4
    | normal=>exact g4
    | ret=>exact g4
   simp only [Option.bind_eq_some_iff] at g4'
   obtain ⟨v,hv,os,hos,p,hp,hd⟩:=g4'
   obtain ⟨z,hz,hz1,hz2⟩:=decOut_rep hd
   unfold okOut at hnew
   rw [Bool.or_eq_true] at hnew
   rcases hnew with hnew | hnew
   case inr =>
    obtain ⟨hB',tE,tMm,k1,k2,k3,k4⟩:=g1
    simp only [okNew2,Bool.and_eq_true] at hnew
    obtain ⟨⟨hn1,hn2⟩,hn3⟩:=hnew
    have hn2:=Nat.eq_of_beq_eq_true hn2
    obtain ⟨τ,τ',hτ,hτc,hτc'⟩:∃ τ τ',σ.outs.drop σ.objs.length=[τ,τ']∧newTy τ=true∧newTy τ'=true:=by
     split at hn3
     ·rename_i τ τ' e
      simp only [Bool.and_eq_true] at hn3
      exact ⟨τ,τ',e,hn3.1,hn3.2⟩
     ·cases hn3
    obtain ⟨k,k',u,u',hk,hk',hkk,hu,hu',hp2,hcase⟩:=leads_new2 hn1 hp (by rw [hz];rfl)
    have hnl:noLentV v:=by
     rcases hcase with ⟨b,vb,rfl,hρs,hbn,hp1,hvr⟩ | ⟨rfl,_⟩
     ·refine ⟨trivial,trivial,?_⟩
      have hzs:(Rs.dec σ.objs.length σ.res p.1).isSome=true:=by rw [hz];rfl
      rw [hρs,hp1] at hzs
      simp only [Rs.dec] at hzs
      refine dec_nl1 (n:=σ.objs.length) (ρ:=b) ?_
      cases hq:(Nat.beq (1000000+σ.objs.length) (1000000+σ.objs.length) && Nat.beq (1000000+(σ.objs.length+1)) (1000000+(σ.objs.length+1))) with
      | true=>rw [hq] at hzs;exact hzs
      | false=>rw [hq] at hzs;cases hzs
     ·exact ⟨trivial,trivial⟩
    obtain ⟨y,ts,m1,m2,m4⟩:=results_rep (P:=P) (s:=s') hT hres k1 k2 hv hnl
    obtain ⟨q1,t2,q2,q3⟩:=objs_rep _ _ _ _ _ k2 hos
    obtain ⟨u1,u2,ucs,_,v1,v2,v3,v4⟩:=MemRep.find k s'.mem tMm u k2 hu
    obtain ⟨u1',u2',ucs',_,v1',v2',v3',_⟩:=MemRep.find k' s'.mem tMm u' k2 hu'
    have hOk:∀ k,k<1000000→∀ b o,b<w.heap.size→G'.O b o ≠ some k:=fun k hk b o hb h=>by
     rw [hB'.ev.own b o hb] at h
     have:=(hX b o k h).2;omega
    obtain ⟨EO,hEO⟩:∃ l,l=encOutO σ.res σ.outs r:=⟨_,rfl⟩
    rw [hp2,← hEO] at hz2
    have hz3:AsL (σ.outs.take σ.objs.length++[τ,τ']) (os++[u,u']) EO:=by rw [← hτ,List.take_append_drop];exact hz2
    have htl:(σ.outs.take σ.objs.length).length=σ.objs.length:=by rw [List.length_take];omega
    obtain ⟨s1,s2⟩:=hz3.split (by rw [htl];exact q1)
    rw [htl] at s1 s2
    obtain ⟨uv,uvs,uy,ur,e1,e2,e3,uv',uvs',uy',ur',e1',e2',e3',e4',e5'⟩:=s2
    simp only [List.cons.injEq] at e1
    obtain ⟨rfl,rfl⟩:=e1
    simp only [List.cons.injEq] at e1'
    obtain ⟨rfl,rfl⟩:=e1'
    subst e5';subst e2'
    have hcu:=(as_cells τ u uy e3).1
    have hcu':=(as_cells τ' u' uy' e3').1
    obtain ⟨o0,own0⟩:=own_any hτc e3 v3
    obtain ⟨o0',own0'⟩:=own_any hτc' e3' v3'
    have hnewb:w.heap.size≤(G'.ρ k).1:=Nat.le_of_not_lt fun hlt=>hOk k hk _ _ hlt own0
    have hnewb':w.heap.size≤(G'.ρ k').1:=Nat.le_of_not_lt fun hlt=>hOk k' hk' _ _ hlt own0'
    have fresh:∀ g,0<cnt g tE→w.heap.size≤g:=fun g hg=>by
     rcases k4 g (by omega) with h | h
     ·exact h
     ·have h5:=(EnvRep.owned _ _ k1 g hg).2 0
      by_cases hlt:g<w.heap.size
      ·rw [hB'.ev.own g 0 hlt] at h5;exact absurd h5 (h 0)
      ·omega
    obtain ⟨Gn,hGn⟩:∃ Gn,Gn=(G'.named k (1000000+σ.objs.length)).named k' (1000000+(σ.objs.length+1)):=⟨_,rfl⟩
    have hρ1:Gn.ρ (1000000+σ.objs.length)=G'.ρ k:=by
     rw [hGn,named_ρ (by omega)]
     show (if _ then _ else _)=_;rw [if_pos rfl]
    have hρ2:Gn.ρ (1000000+(σ.objs.length+1))=G'.ρ k':=by
     rw [hGn]
     show (if _ then (G'.named k (1000000+σ.objs.length)).ρ k' else _)=_
     rw [if_pos rfl,named_ρ (by omega)]
    have hO1:∀ b o,G'.O b o=some k→Gn.O b o=some (1000000+σ.objs.length):=fun b o h=>by
     rw [hGn]
     have h1:(G'.named k (1000000+σ.objs.length)).O b o=some (1000000+σ.objs.length):=by
      show (if _=some k then some (1000000+σ.objs.length) else _)=_
      rw [if_pos h]
     show (if (G'.named k (1000000+σ.objs.length)).O b o=some k' then _ else _)=_
     rw [h1,if_neg (by intro e;injection e with e;omega)]
    have hO2:∀ b o,G'.O b o=some k'→Gn.O b o=some (1000000+(σ.objs.length+1)):=fun b o h=>by
     rw [hGn]
     have h1:(G'.named k (1000000+σ.objs.length)).O b o=some k':=by
      show (if G'.O b o=some k then some (1000000+σ.objs.length) else G'.O b o)=_
      rw [h,if_neg (by intro e;injection e with e;exact hkk e.symm)]
     show (if (G'.named k (1000000+σ.objs.length)).O b o=some k' then _ else _)=_
     rw [h1,if_pos rfl]
    have hOn:∀ b o,G'.O b o=none→Gn.O b o=none:=fun b o h=>by rw [hGn];exact named_none (named_none h)
    have hval:∃ tv,(∀ g,cnt g tv≤cnt g ts)∧TRep Gn w' (encOutV σ.res σ.objs.length σ.outs r) y tv:=by
     rw [hz1]
     have hadr:Gn.addr (1000000+σ.objs.length) []=G'.addr k []:=by unfold Gh.addr;rw [hρ1]
     have hadr':Gn.addr (1000000+(σ.objs.length+1)) []=G'.addr k' []:=by unfold Gh.addr;rw [hρ2]
     rcases hcase with ⟨b,vb,rfl,hρs,hbn,hp1,hvr⟩ | ⟨rfl,hρs⟩
     ·skip
      obtain ⟨cs,⟨va,vb',vd,ca,cb,cd,t1,t2,t3,c1,c2,c3,c4,c5,c6,c8,c9⟩,c7⟩:=m2
      rw [hp1] at hz
      clear hz1 hn1
      revert z
      rw [hρs]
      intro z hz
      simp only [Rs.dec] at hz
      obtain ⟨_,hz⟩:=cond_then hz
      obtain ⟨hag,tb,hcb,hvb⟩:=enc_rep σ.objs.length b vb z cd t3 hbn hz c8
      obtain ⟨d1,d2,d3⟩:=c3
      obtain ⟨d4,d5,d6⟩:=c5
      subst d3;subst d6
      have hrefs:(b.enc σ.objs.length z).refs=[]:=enc_refs _ b z hbn
      refine ⟨tb,fun g=>by have:=hcb g;subst c2;simp;omega,cs,⟨va,vb',vd,ca,cb,cd,[],[],tb,c1,rfl,⟨by rw [hadr];exact d1,trivial,rfl⟩,c4,⟨by rw [hadr'];exact d4,trivial,rfl⟩,c6,?_,?_⟩,c7⟩
      ·refine VRep.swap (G:=G') (G':=Gn) (fun _ _=>by rw [hGn];rfl) _ _ _ hrefs (fun g hg o=>hOn _ _ ?_) hvb
       have h1:=cnt_pos.1 hg
       have h2:=hcb g
       have h3:cnt g t3≤cnt g tE:=by have:=m4 g;rw [c2] at this;simp at this;omega
       exact (EnvRep.owned _ _ k1 g (by omega)).2 o
      ·rw [hag];exact c9
     ·obtain ⟨cs,⟨va,vb',ca,cb,t1,t2,c1,c2,⟨d1,d3⟩,c4,⟨d4,d6⟩,c6⟩,c7⟩:=m2
      subst d3;subst d6
      clear hz1 hz hn1
      revert z
      rw [hρs]
      intro z
      exact ⟨[],fun g=>by simp,cs,⟨va,vb',ca,cb,[],[],c1,rfl,⟨by rw [hρ1];exact d1,rfl⟩,c4,⟨by rw [hρ2];exact d4,rfl⟩,c6⟩,c7⟩
    obtain ⟨tv,htv,hval⟩:=hval
    rw [← hEO]
    refine ⟨y,m1,Gn,?_,?_,?_,tv,[],[],hval,?_,?_,fun g=>?_,fun g hg=>.inl (fresh g ?_)⟩
    ·rw [hGn]
     refine (named_ev (named_ev hB'.ev (hOk k hk)) fun b o hb h=>?_).mono hX0
     have h:(if G'.O b o=some k then some (1000000+σ.objs.length) else G'.O b o)=some k':=h
     split at h
     ·injection h with h;omega
     ·exact hOk k' hk' b o hb h
    ·rw [hGn];exact named_wf (named_wf hB'.wf)
    ·intro j hj
     rw [hGn,named_ρ (by omega),named_ρ (by omega)];exact hB'.par j
    ·rw [hobj]
     have hob:=objs_as (G:=G') (w:=w') _ _ _ 1000000 t2 s1 q3
     have h1:=named_mem (G:=G') (w:=w') (k:=k) (n:=σ.objs.length) hk (EO.take σ.objs.length) 0 [] (dat_refs _ _ _ s1) (by rw [List.length_take];omega) (fun g hg=>by cases hg) hob
     have h2:=named_mem (G:=G'.named k (1000000+σ.objs.length)) (w:=w') (k:=k') (n:=σ.objs.length+1) hk' (EO.take σ.objs.length) 0 [] (dat_refs _ _ _ s1) (by rw [List.length_take];omega) (fun g hg=>by cases hg) h1
     rw [hGn];exact h2
    ·rw [hobj,e2]
     refine ⟨by rw [hρ1];exact hnewb,by rw [hρ2];exact hnewb',[],[],ucs,rfl,⟨by rw [hGn];exact (as_rep τ u uy ucs u1 e3 v1:DRep G'.I τ uy ucs),rfl⟩,by rw [hρ1];exact v2,⟨fun j hj=>?_,MapAt.swap (G:=G') (k:=k) (fun _ _=>by rw [hGn];rfl) hρ1 (fun ho=>hO1 _ _ ho) (v3.2.as_ e3)⟩,[],[],ucs',rfl,⟨by rw [hGn];exact (as_rep τ' u' uy' ucs' u1' e3' v1':DRep G'.I τ' uy' ucs'),rfl⟩,by rw [hρ2];exact v2',⟨fun j hj=>?_,MapAt.swap (G:=G') (k:=k') (fun _ _=>by rw [hGn];rfl) hρ2 (fun ho=>hO2 _ _ ho) (v3'.2.as_ e3')⟩,rfl⟩
     ·rw [hρ1]
      obtain ⟨g1,g2⟩:=v3.1 j (by rw [hcu];exact hj)
      exact ⟨hO1 _ _ g1,g2⟩
     ·rw [hρ2]
      obtain ⟨g1,g2⟩:=v3'.1 j (by rw [hcu'];exact hj)
      exact ⟨hO2 _ _ g1,g2⟩
    ·have:=htv g;have:=m4 g;have:=k3 g;simp;omega
    ·have:=htv g;have:=m4 g;simp at hg;omega
   unfold okOld at hnew
   rw [Bool.or_eq_true] at hnew
   rcases hnew with hnew | hnew
   case inr =>
    obtain ⟨hB',tE,tMm,k1,k2,k3,k4⟩:=g1
    simp only [okNew,Bool.and_eq_true] at hnew
    obtain ⟨⟨hn1,hn2⟩,hn3⟩:=hnew
    have hn2:=Nat.eq_of_beq_eq_true hn2
    obtain ⟨τ,hτ,hτc⟩:∃ τ,σ.outs.drop σ.objs.length=[τ]∧newTy τ=true:=by
     split at hn3
     ·rename_i τ e;exact ⟨τ,e,hn3⟩
     ·cases hn3
    obtain ⟨k,u,hk,hu,hp2,hcase⟩:=leads_new hn1 hp (by rw [hz];rfl)
    have hnl:noLentV v:=by
     rcases hcase with (⟨rfl,_⟩ | ⟨rfl,_⟩) | ⟨b,vb,rfl,hρ,_,hp1,_⟩
     ·trivial
     ·trivial
     ·refine ⟨trivial,?_⟩
      have hzs:(Rs.dec σ.objs.length σ.res p.1).isSome=true:=by rw [hz];rfl
      rw [hρ,hp1] at hzs
      simp only [Rs.dec] at hzs
      refine dec_nl1 (n:=σ.objs.length) (ρ:=b) ?_
      cases hq:Nat.beq (1000000+σ.objs.length) (1000000+σ.objs.length) with
      | true=>rw [hq] at hzs;exact hzs
      | false=>rw [hq] at hzs;cases hzs
    obtain ⟨y,ts,m1,m2,m4⟩:=results_rep (P:=P) (s:=s') hT hres k1 k2 hv hnl
    obtain ⟨q1,t2,q2,q3⟩:=objs_rep _ _ _ _ _ k2 hos
    obtain ⟨u1,u2,ucs,_,v1,v2,v3,_⟩:=MemRep.find k s'.mem tMm u k2 hu
    have hOk:∀ b o,b<w.heap.size→G'.O b o ≠ some k:=fun b o hb h=>by
     rw [hB'.ev.own b o hb] at h
     have:=(hX b o k h).2;omega
    obtain ⟨EO,hEO⟩:∃ l,l=encOutO σ.res σ.outs r:=⟨_,rfl⟩
    rw [hp2,← hEO] at hz2
    have hz3:AsL (σ.outs.take σ.objs.length++[τ]) (os++[u]) EO:=by rw [← hτ,List.take_append_drop];exact hz2
    have htl:(σ.outs.take σ.objs.length).length=σ.objs.length:=by rw [List.length_take];omega
    obtain ⟨s1,s2⟩:=hz3.split (by rw [htl];exact q1)
    rw [htl] at s1 s2
    obtain ⟨uv,uvs,uy,ur,e1,e2,e3,e4,e5⟩:=s2
    injection e1 with e1 e1'
    subst e1
    subst e5
    have hcu:=(as_cells τ u uy e3).1
    obtain ⟨o0,own0⟩:=own_any hτc e3 v3
    have hnewb:w.heap.size≤(G'.ρ k).1:=Nat.le_of_not_lt fun hlt=>hOk _ _ hlt own0
    have fresh:∀ g,0<cnt g tE→w.heap.size≤g:=fun g hg=>by
     rcases k4 g (by omega) with h | h
     ·exact h
     ·have h5:=(EnvRep.owned _ _ k1 g hg).2 0
      by_cases hlt:g<w.heap.size
      ·rw [hB'.ev.own g 0 hlt] at h5;exact absurd h5 (h 0)
      ·omega
    have hval:∃ tv,(∀ g,cnt g tv≤cnt g ts)∧TRep (G'.named k (1000000+σ.objs.length)) w' (encOutV σ.res σ.objs.length σ.outs r) y tv:=by
     rw [hz1]
     have hρ:(G'.named k (1000000+σ.objs.length)).ρ (1000000+σ.objs.length)=G'.ρ k:=by
      show (if _ then _ else _)=_;rw [if_pos rfl]
     have hadr:(G'.named k (1000000+σ.objs.length)).addr (1000000+σ.objs.length) []=G'.addr k []:=by
      unfold Gh.addr;rw [hρ]
     rcases hcase with (⟨hv',hρs⟩ | ⟨hv',hρs⟩) | ⟨b,vb,hv',hρs,hbn,hp1,hvr⟩
     case inl.inr =>
      subst hv'
      obtain ⟨cs,⟨c1,c3⟩,c4⟩:=m2
      subst c3
      clear hz1 hz hn1
      revert z
      rw [hρs]
      intro z
      exact ⟨[],fun g=>by simp,cs,⟨by rw [hρ];exact c1,rfl⟩,c4⟩
     ·subst hv'
      obtain ⟨cs,⟨c1,c2,c3⟩,c4⟩:=m2
      subst c3
      refine ⟨[],fun g=>by simp,cs,?_,?_⟩
      ·rw [show σ.res.enc σ.objs.length z = .ref (1000000+σ.objs.length) [] by
        clear hz1 hz
        revert z
        rw [hρs];intro z;rfl]
       exact ⟨by rw [hadr];exact c1,trivial,rfl⟩
      ·rw [show (σ.res.enc σ.objs.length z).agg=false by
        clear hz1 hz
        revert z
        rw [hρs];intro z;rfl]
       exact c4
     ·subst hv'
      obtain ⟨cs,⟨va,vb',ca,cb,t1,t2,c1,c2,c3,c4,c5,c6⟩,c7⟩:=m2
      rw [hp1] at hz
      clear hz1 hn1
      revert z
      rw [hρs]
      intro z hz
      simp only [Rs.dec] at hz
      obtain ⟨_,hz⟩:=cond_then hz
      obtain ⟨hag,tb,hcb,hvb⟩:=enc_rep σ.objs.length b vb z cb t2 hbn hz c5
      obtain ⟨d1,d2,d3⟩:=c3
      subst d3
      have hrefs:(b.enc σ.objs.length z).refs=[]:=by
       exact enc_refs _ b z hbn
      refine ⟨tb,fun g=>by have:=hcb g;subst c2;simp;omega,cs,⟨va,vb',ca,cb,[],tb,c1,rfl,⟨by rw [hadr];exact d1,trivial,rfl⟩,c4,?_,?_⟩,c7⟩
      ·refine VRep.swap (G:=G') (G':=G'.named k (1000000+σ.objs.length)) (fun _ _=>rfl) _ _ _ hrefs (fun g hg o=>named_none ?_) hvb
       have h1:=cnt_pos.1 hg
       have h2:=hcb g
       have h3:cnt g t2≤cnt g tE:=by have:=m4 g;rw [c2] at this;simp at this;omega
       exact (EnvRep.owned _ _ k1 g (by omega)).2 o
      ·rw [hag];exact c6
    obtain ⟨tv,htv,hval⟩:=hval
    rw [← hEO]
    refine ⟨y,m1,G'.named k (1000000+σ.objs.length),(named_ev hB'.ev hOk).mono hX0,named_wf hB'.wf,fun j hj=>by rw [named_ρ (by omega)];exact hB'.par j,tv,[],[],hval,?_,?_,fun g=>?_,fun g hg=>.inl (fresh g ?_)⟩
    ·rw [hobj]
     have hob:=objs_as (G:=G') (w:=w') _ _ _ 1000000 t2 s1 q3
     have:=named_mem (G:=G') (w:=w') (k:=k) (n:=σ.objs.length) hk (EO.take σ.objs.length) 0 [] (dat_refs _ _ _ s1) (by rw [List.length_take];omega) (fun g hg=>by cases hg) hob
     exact this
    ·rw [hobj,e2]
     refine ⟨?_,?_⟩
     ·show w.heap.size≤((if _ then _ else _:Nat × Nat)).1
      rw [if_pos rfl];exact hnewb
     ·have hρ:(G'.named k (1000000+σ.objs.length)).ρ (1000000+σ.objs.length)=G'.ρ k:=by
       show (if _ then _ else _)=_;rw [if_pos rfl]
      refine ⟨[],[],ucs,rfl,⟨(as_rep τ u uy ucs u1 e3 v1:DRep G'.I τ uy ucs),rfl⟩,by rw [hρ];exact v2,⟨fun j hj=>?_,MapAt.swap (G:=G') (k:=k) (fun _ _=>rfl) hρ (fun ho=>by
       show (if _=some k then some (1000000+σ.objs.length) else _)=_
       rw [if_pos ho]) (v3.2.as_ e3)⟩,rfl⟩
      rw [hρ]
      obtain ⟨g1,g2⟩:=v3.1 j (by rw [hcu];exact hj)
      refine ⟨?_,g2⟩
      show (if _=some k then some (1000000+σ.objs.length) else _)=_
      rw [if_pos g1]
    ·have:=htv g;have:=m4 g;have:=k3 g;simp;omega
    ·have:=htv g;have:=m4 g;simp at hg;omega
   rw [Bool.and_eq_true] at hnew
   obtain ⟨rfl,hvr⟩:=leads_spec hnew.1 hp (by rw [hz];rfl)
   obtain ⟨hB',tE,tMm,k1,k2,k3,k4⟩:=g1
   obtain ⟨y,ts,m1,m2,m4⟩:=results_rep (P:=P) (s:=s') hT hres k1 k2 hv (dec_nl hnew.1 (by rw [hz];rfl))
   obtain ⟨q1,t2,q2,q3⟩:=objs_rep _ _ _ _ _ k2 hos
   have fresh:∀ g,0<cnt g tE→w.heap.size≤g:=fun g hg=>by
    rcases k4 g (by omega) with h | h
    ·exact h
    ·have h5:=(EnvRep.owned _ _ k1 g hg).2 0
     by_cases hlt:g<w.heap.size
     ·rw [hB'.ev.own g 0 hlt] at h5;exact absurd h5 (h 0)
     ·omega
   obtain ⟨G2,ts',p1,p2,p3,n2,n3,p4⟩:=enc_any (X:=X0) (w0:=w) (G0:=G) hnew.1 hz hB'.wf (fun g hg=>fresh g (by have:=m4 g;omega)) hW hB'.ev m2
   have hl:=hz2.lengths
   have hlo:(encOutO σ.res σ.outs r).length=σ.objs.length:=by rw [hl.2,← hl.1,q1]
   refine ⟨y,m1,G2,p1.mono hX0,p2,fun j _=>by rw [p3];exact hB'.par j,ts',[],[],by rw [hz1];exact n3,?_,?_,fun g=>?_,fun g hg=>.inl (fresh g ?_)⟩
   ·rw [hobj,List.take_of_length_le (by omega)]
    have h6:=hnew.2
    rw [Bool.or_eq_true] at h6
    rcases h6 with h | h
    ·rw [p4 h];exact objs_as _ _ _ _ _ hz2 q3
    ·have h0:σ.outs=[]:=by simpa using h
     have:encOutO σ.res σ.outs r=[]:=List.eq_nil_of_length_eq_zero (by rw [hl.2,h0];rfl)
     rw [this];rfl
   ·rw [hobj,List.drop_eq_nil_of_le (by omega)];rfl
   ·have:=n2 g;have:=m4 g;have:=k3 g;simp;omega
   ·have:=n2 g;have:=m4 g;simp at hg;omega
  obtain ⟨y,h5,h6⟩:=hmain
  cases e with
  | exit i=>cases g4
  | normal=>exact ⟨g3,y,h5,h6⟩
  | ret=>exact ⟨g3,y,h5,h6⟩
theorem fn_ok {f:FuncId} {fn:Func} {code:Code} {σ:Sg} {F:σ.In→Option σ.Out} (hT:TT P c) (hC:∀ f e,lkN c.fns f=some e→CallOK P f e) (hm:P.follows .mixedOrders=true)
  (hf : P.funcs[f]? = some fn) (hb : fn.body = some code) (hnm : (fn.name == "runtime.NumGoroutine") = false) (hargs : Nat.ble σ.args.length fn.ntmps = true) (hres : okRes fn.results.toList = true) (hnew : okOut σ = true)
  (hcode:okCode c fn.ntmps code=true) (hF:∀ x,F x=σ.fn c code fn.results.toList x):CallOK P f (σ.entry F) :=
 fn_ok' hT hf hb hnm hargs hres hnew fun x _ h3 _ G w _ _ hR hsz hL=>run_sound (N:=fn.ntmps) (ds:=[]) hT hC hm code hcode (σ.K c fn.results.toList) _ _ _ w G hL ((hF _).symm.trans h3) hR hsz rfl
theorem alt_ok {f:FuncId} {σ:Sg} {a b:Entry} (ha:CallOK P f a) (hb:CallOK P f b):CallOK P f (Entry.alt σ a b):=by
 have key:∀ (α:Type) args objs (K:V→List V→Option α),(Entry.alt σ a b).run α args objs K=bif (Ar.pull σ.args 0 args).isSome then a.run α args objs K else b.run α args objs K:=fun _ _ _ _=>rfl
 refine ⟨fun α args objs K=>?_,fun args objs vr os hval=>?_⟩
 ·unfold Entry.val
  rw [key,key]
  cases (Ar.pull σ.args 0 args).isSome with
  | true=>exact ha.nat α args objs K
  | false=>exact hb.nat α args objs K
 ·unfold Entry.val at hval
  rw [key] at hval
  cases hh:(Ar.pull σ.args 0 args).isSome with
  | true=>rw [hh] at hval;exact ha.ok args objs vr os hval
  | false=>rw [hh] at hval;exact hb.ok args objs vr os hval
end Go.Proofs.YtggcagclpkhlhaaGreatDoor.Pal
end
noncomputable section
/- A list of functions of which all is promised. -/
namespace Go.Proofs.YtggcagclpkhlhaaGreatDoor.Pal
open Go
variable [MonoC]
variable {P:Program}
def Fns (P:Program):List (Nat × Entry)→Prop
 | []=>True
 | (f,e)::r=>CallOK P f e∧Fns P r
theorem fns_ok:∀ {l:List (Nat × Entry)},Fns P l→∀ f e,lkN l f=some e→CallOK P f e
 | [],_,_,_,h=>by simp [lkN] at h
 | (g,e')::r,⟨h1,h2⟩,f,e,h=>by
  simp only [lkN] at h
  cases hb:Nat.beq g f with
  | true =>
   rw [hb] at h
   simp only [cond_true,Option.some.injEq] at h
   have:=beq_nat.1 hb
   subst this;subst h;exact h1
  | false=>rw [hb] at h;exact fns_ok h2 f e h
def u8Tabs (I:Im):Prop:=(∀ c,c<256→I 0 c=some (.int .u8 (Go.Lib.firstT c)))∧∀ i,i<16→I 1 (2 * i)=some (.int .u8 (Go.Lib.accLo i))∧I 1 (2 * i+1)=some (.int .u8 (Go.Lib.accHi i))
instance (priority:=low) monoOff:MonoC:=⟨False,u8Tabs,fun _ _ h ht=>⟨fun c hc=>h _ _ _ (ht.1 c hc),fun i hi=>⟨h _ _ _ (ht.2 i hi).1,h _ _ _ (ht.2 i hi).2⟩⟩⟩
theorem monoOff_off:¬ @MonoC.on monoOff:=fun h=>h
end Go.Proofs.YtggcagclpkhlhaaGreatDoor.Pal
end
noncomputable section
/- Plain facts about what is reckoned with data. -/
namespace Go.Proofs.YtggcagclpkhlhaaGreatDoor.Pal
open Go
theorem br_true {α:Type} (x y:Option α):br true x y=x:=rfl
theorem br_false {α:Type} (x y:Option α):br false x y=y:=rfl
theorem br_ite {α:Type} (b:Bool) (x y:Option α):br b x y=if b=true then x else y:=by cases b <;> rfl
theorem bnd_some {α β:Type} (a:α) (f:α→Option β):bnd (some a) f=f a:=rfl
theorem wrap_i64 {n:Int} (h1:-(2:Int) ^ 63≤n) (h2:n<2 ^ 63):IntKind.wrap .i64 n=n:=by
 have e1:((2:Int) ^ 63)=9223372036854775808:=by decide
 rw [e1] at h1 h2
 simp only [IntKind.wrap,IntKind.signed,IntKind.bits]
 simp
 omega
theorem iadd_nat {i:Nat} (h:i<4611686018427387904):iadd .i64 (i:Int) 1=((i+1:Nat):Int):=by
 have e1:((2:Int) ^ 63)=9223372036854775808:=by decide
 show IntKind.wrap .i64 ((i:Int)+1)=_
 rw [wrap_i64 (by rw [e1];omega) (by rw [e1];omega)]
 omega
theorem iadd_0 {i:Nat} (h:i<4611686018427387904):iadd .i64 (i:Int) 1=((i+1:Nat):Int):=iadd_nat h
theorem ilt_nat (i:Nat) {α:Type} (xs:List α):ilt (i:Int) (ilen xs)=decide (i<xs.length):=by simp [ilt,ilen]
theorem ilt_nn (i j:Nat):ilt (i:Int) (j:Int)=decide (i<j):=by simp [ilt]
theorem inL_nat (i:Nat) {α:Type} (xs:List α):inL (i:Int) xs=decide (i<xs.length):=by simp [inL]
theorem inB_nat (i n:Nat):inB (i:Int) n=decide (i<n):=by simp [inB]
theorem natOf_nat (i:Nat):natOf (i:Int)=i:=rfl
theorem ieq_dec (a b:Int):ieq a b=decide (a=b):=by simp [ieq];rfl
theorem ieq_len {α β:Type} (xs:List α) (ys:List β):ieq (ilen xs) (ilen ys)=decide (xs.length=ys.length):=by
 rw [ieq_dec];simp only [ilen];congr 1;exact propext ⟨fun h=>by omega,fun h=>by omega⟩
theorem bnot_dec (p:Prop) [Decidable p]:bnot (decide p)=decide (¬ p):=by simp [bnot]
theorem seq_dec (a b:List UInt8):seq a b=decide (a=b):=by
 simp only [seq];by_cases h:a=b <;> simp [h]
theorem rd_at' {e:Ty} {xs:List e.D} {i:Nat} (h:i<xs.length):rd e xs i=xs[i]:=by simp [rd,List.getD,h]
theorem arrEq_iff {α:Type} {f:α→α→Bool} (hf:∀ x y,f x y=true ↔ x=y):∀ xs ys:List α,arrEq f xs ys=true ↔ xs=ys
 | [],[]=>by simp [arrEq]
 | [],y::ys=>by simp [arrEq]
 | x::xs,[]=>by simp [arrEq]
 | x::xs,y::ys=>by
  have ih:=arrEq_iff hf xs ys
  simp only [arrEq,Bool.and_eq_true,beq_iff_eq] at ih
  simp only [arrEq,List.length_cons,List.zip_cons_cons,List.all_cons,Bool.and_eq_true,beq_iff_eq,hf,List.cons.injEq,Nat.add_right_cancel_iff]
  rw [← ih]
  exact ⟨fun ⟨a,b,c⟩=>⟨b,a,c⟩,fun ⟨b,a,c⟩=>⟨a,b,c⟩⟩
theorem deq_iff:∀ (τ:Ty),τ.hasEq0=true→∀ x y:τ.D,deq τ x y=true ↔ x=y
 | .int k,_,x,y=>by show ieq x y=true ↔ x=y;simp [ieq]
 | .bool,_,x,y=>by show beqB x y=true ↔ x=y;simp [beqB]
 | .str,_,x,y=>by show seq x y=true ↔ x=y;simp [seq]
 | .slc e,h,_,_=>by simp [Ty.hasEq0] at h
 | .arr n e,h,x,y=>arrEq_iff (deq_iff e h) x y
 | .pair a b,h,x,y=>by
  simp only [Ty.hasEq0,Bool.and_eq_true] at h
  show (deq a x.1 y.1 && deq b x.2 y.2)=true ↔ x=y
  rw [Bool.and_eq_true,deq_iff a h.1,deq_iff b h.2]
  exact ⟨fun ⟨h1,h2⟩=>Prod.ext h1 h2,fun h=>by rw [h];exact ⟨rfl,rfl⟩⟩
theorem all_step {α:Type} {xs:List α} {i:Nat} (h:i<xs.length) (p:α→Bool):(xs.drop i).all p=(p xs[i] && (xs.drop (i+1)).all p):=by
 rw [List.drop_eq_getElem_cons h,List.all_cons]
theorem all_end {α:Type} {xs:List α} {i:Nat} (h:xs.length≤i) (p:α→Bool):(xs.drop i).all p=true:=by rw [List.drop_eq_nil_of_le h];rfl
def zall {α β:Type} (p:α→β→Bool) (xs:List α) (ys:List β):Bool:=(xs.zip ys).all fun q=>p q.1 q.2
theorem zall_step {α β:Type} {xs:List α} {ys:List β} {i:Nat} (h:i<xs.length) (h':i<ys.length) (p:α→β→Bool) :
  zall p (xs.drop i) (ys.drop i)=(p xs[i] ys[i] && zall p (xs.drop (i+1)) (ys.drop (i+1))):=by
 rw [List.drop_eq_getElem_cons h,List.drop_eq_getElem_cons h'];rfl
theorem zall_end {α β:Type} {xs:List α} {ys:List β} {i:Nat} (h:xs.length≤i) (p:α→β→Bool):zall p (xs.drop i) (ys.drop i)=true:=by
 rw [List.drop_eq_nil_of_le h];rfl
theorem zall_eq {α:Type} [DecidableEq α]:∀ (xs ys:List α),xs.length=ys.length→zall (fun x y=>decide (x=y)) xs ys=decide (xs=ys)
 | [],[],_=>by simp [zall]
 | [],y::ys,h=>by simp at h
 | x::xs,[],h=>by simp at h
 | x::xs,y::ys,h=>by
  have ih:=zall_eq xs ys (by simpa using h)
  have:zall (fun x y=>decide (x=y)) (x::xs) (y::ys)=(decide (x=y) && zall (fun x y=>decide (x=y)) xs ys):=rfl
  rw [this,ih,← Bool.decide_and]
  congr 1;simp
theorem zall_swap {α:Type} {p:α→α→Bool} {q:α→α→Bool} (h:∀ x y,p x y=q y x):∀ (xs ys:List α),zall p xs ys=zall q ys xs
 | [],[]=>rfl
 | [],y::ys=>rfl
 | x::xs,[]=>rfl
 | x::xs,y::ys=>by
  show (p x y && zall p xs ys)=(q y x && zall q ys xs)
  rw [h,zall_swap h xs ys]
theorem zall_refl {α:Type} {p:α→α→Bool} (h:∀ x,p x x=true):∀ (xs:List α),zall p xs xs=true
 | []=>rfl
 | x::xs=>by
  show (p x x && zall p xs xs)=true
  rw [h,zall_refl h xs];rfl
theorem deq_dec {τ:Ty} [DecidableEq τ.D] (h:τ.hasEq0=true) (x y:τ.D):deq τ x y=decide (x=y):=by
 have:=deq_iff τ h x y
 by_cases e:x=y
 ·simp [e,(deq_iff τ h y y).2 rfl]
 ·simp [e];cases hd:deq τ x y with
  | false=>rfl
  | true=>exact absurd (this.1 hd) e
end Go.Proofs.YtggcagclpkhlhaaGreatDoor.Pal
end
noncomputable section
/- Loops of plain equations: what they come to. -/
namespace Go.Proofs.YtggcagclpkhlhaaGreatDoor.Pal
open Go
theorem loop_up {ρ:Type} (N:Nat) (L:Nat→Nat→Option ρ) (r:Option ρ) (hs:∀ n i,i<N→L (n+1) i=L n (i+1)) (he:∀ n,L (n+1) N=r):∀ n i,i≤N→N<n+i→L n i=r
 | 0,i,h,h'=>by omega
 | n+1,i,h,h'=>by
  by_cases hi:i<N
  ·rw [hs n i hi];exact loop_up N L r hs he n (i+1) (by omega) (by omega)
  ·have:i=N:=by omega
   subst this;exact he n
theorem loop_all (N:Nat) (L:Nat→Nat→Option Bool) (p:Nat→Prop) (hs:∀ n i,i<N→(p i∧L (n+1) i=L n (i+1))∨(¬ p i∧L (n+1) i=some false)) (e:Option Bool) (q:Prop) (hq:∃ b,e=some b∧(b=true ↔ q)) (he:∀ n,L (n+1) N=e) :
  ∀ n i,i≤N→N<n+i→∃ b,L n i=some b∧(b=true ↔ (∀ j,i≤j→j<N→p j)∧q)
 | 0,i,h,h'=>by omega
 | n+1,i,h,h'=>by
  by_cases hi:i<N
  ·rcases hs n i hi with ⟨h1,h2⟩ | ⟨h1,h2⟩
   ·obtain ⟨b,hb,hbi⟩:=loop_all N L p hs e q hq he n (i+1) (by omega) (by omega)
    refine ⟨b,h2.trans hb,hbi.trans ⟨fun hh=>⟨fun j h3 h4=>?_,hh.2⟩,fun hh=>⟨fun j h3 h4=>hh.1 j (by omega) h4,hh.2⟩⟩⟩
    by_cases ej:j=i
    ·subst ej;exact h1
    ·exact hh.1 j (by omega) h4
   ·exact ⟨false,h2,⟨fun hh=>(by cases hh),fun hh=>absurd (hh.1 i (Nat.le_refl _) hi) h1⟩⟩
  ·have:i=N:=by omega
   subst this
   obtain ⟨b,hb,hbi⟩:=hq
   exact ⟨b,(he n).trans hb,hbi.trans ⟨fun hh=>⟨fun j h3 h4=>by omega,hh⟩,fun hh=>hh.2⟩⟩
theorem loop_all' (N:Nat) (L:Nat→Nat→Option Bool) (p:Nat→Prop) (hs:∀ n i,i<N→(p i∧L (n+1) i=L n (i+1))∨(¬ p i∧L (n+1) i=some false)) (he:∀ n,L (n+1) N=some true) (n i:Nat) (h:i≤N) (h':N<n+i) :
  ∃ b,L n i=some b∧(b=true ↔ ∀ j,i≤j→j<N→p j):=by
 obtain ⟨b,hb,hbi⟩:=loop_all N L p hs (some true) True ⟨true,rfl,by simp⟩ he n i h h'
 exact ⟨b,hb,by rw [hbi];simp⟩
theorem loop_find {ρ:Type} (N:Nat) (L:Nat→Nat→Option ρ) (p:Nat→Bool) (r:Nat→Option ρ) (z:Option ρ) (hs:∀ n i,i<N→L (n+1) i=if p i then r i else L n (i+1)) (he:∀ n,L (n+1) N=z) :
  ∀ n i,i≤N→N<n+i→(∃ j,i≤j∧j<N∧p j=true∧(∀ q,i≤q→q<j→p q=false)∧L n i=r j)∨((∀ j,i≤j→j<N→p j=false)∧L n i=z)
 | 0,i,h,h'=>by omega
 | n+1,i,h,h'=>by
  by_cases hi:i<N
  ·have hh:=hs n i hi
   by_cases hp:p i=true
   ·rw [if_pos hp] at hh
    exact .inl ⟨i,Nat.le_refl _,hi,hp,fun q h1 h2=>by omega,hh⟩
   ·rw [if_neg hp] at hh
    rcases loop_find N L p r z hs he n (i+1) (by omega) (by omega) with ⟨j,h1,h2,h3,h4,h5⟩ | ⟨h1,h2⟩
    ·refine .inl ⟨j,by omega,h2,h3,fun q h6 h7=>?_,hh.trans h5⟩
     by_cases e:q=i
     ·subst e;simpa using hp
     ·exact h4 q (by omega) h7
    ·refine .inr ⟨fun j h3 h4=>?_,hh.trans h2⟩
     by_cases e:j=i
     ·subst e;simpa using hp
     ·exact h1 j (by omega) h4
  ·have:i=N:=by omega
   subst this
   exact .inr ⟨fun j h1 h2=>by omega,he n⟩
theorem loop_same {α:Type} [DecidableEq α] (xs ys:List α) (hl:xs.length=ys.length) (L:Nat→Nat→Option Bool) (hs:∀ n i (h:i<xs.length) (h':i<ys.length),L (n+1) i=if xs[i]=ys[i] then L n (i+1) else some false) (he:∀ n,L (n+1) xs.length=some true) (n:Nat) (h':xs.length<n):L n 0=some (decide (xs=ys)):=by
 obtain ⟨b,hb,hbi⟩:=loop_all' xs.length L (fun i=>xs[i]? = ys[i]?) (fun n i hi=>by
  have hi':i<ys.length:=by omega
  have:=hs n i hi hi'
  rw [List.getElem?_eq_getElem hi,List.getElem?_eq_getElem hi']
  by_cases e:xs[i]=ys[i]
  ·rw [if_pos e] at this;exact .inl ⟨by rw [e],this⟩
  ·rw [if_neg e] at this;exact .inr ⟨fun h=>e (Option.some.inj h),this⟩) he n 0 (by omega) (by omega)
 rw [hb];congr 1
 rw [Bool.eq_iff_iff,hbi,decide_eq_true_iff]
 constructor
 ·intro h
  apply List.ext_getElem? ;intro i
  by_cases hi:i<xs.length
  ·exact h i (by omega) hi
  ·rw [List.getElem?_eq_none (by omega),List.getElem?_eq_none (by omega)]
 ·intro h;subst h;intros;rfl
theorem br_dec {α:Type} (p:Prop) [Decidable p] (x y:Option α):br (decide p) x y=if p then x else y:=by
 by_cases h:p
 ·rw [if_pos h,decide_eq_true h];rfl
 ·rw [if_neg h,decide_eq_false h];rfl
theorem room_le {α β:Type} {xs:List α} {ys:List β} (h:xs.length+ys.length≤4294967296):room xs ys=true:=decide_eq_true h
theorem piece_tail {α:Type} (x:α) (xs:List α):piece (x::xs) 1 (ilen (x::xs))=xs:=by
 unfold piece ilen
 simp only [Int.toNat_natCast,List.take_length]
 rfl
theorem inS_tail {α:Type} (x:α) (xs:List α):inS 1 (ilen (x::xs)) (ilen (x::xs))=true:=by
 have h:(1:Int)≤((x::xs).length:Int):=by rw [List.length_cons];omega
 show (decide ((0:Int)≤1) && decide ((1:Int)≤((x::xs).length:Int)) && decide (((x::xs).length:Int)≤((x::xs).length:Int)))=true
 rw [decide_eq_true h,decide_eq_true (Int.le_refl _)];rfl
theorem inL0 {α:Type} (x:α) (xs:List α):inL 0 (x::xs)=true:=by simp [inL]
theorem rd0 {e:Ty} (x:e.D) (xs:List e.D):rd e (x::xs) (natOf 0)=x:=rfl
theorem ilt0 {α:Type} (xs:List α):ilt 0 (ilen xs)=decide (0<xs.length):=by simp [ilt,ilen]
theorem ieq0 {α:Type} (xs:List α):ieq (ilen xs) 0=decide (xs.length=0):=by
 rw [ieq_dec];simp only [ilen];congr 1;exact propext ⟨fun h=>by omega,fun h=>by omega⟩
end Go.Proofs.YtggcagclpkhlhaaGreatDoor.Pal
end
noncomputable section
/- A call with plain data alone. -/
namespace Go.Proofs.YtggcagclpkhlhaaGreatDoor.Pal
open Go Go.Sort
variable {P:Program} {X Y:Nat→Nat→Prop} {G0 G G':Gh} {w0 w w':World} {s:St} {a:Act} {c:Cx} {Q:Exit→Act→World→Prop}
theorem plain_call {g:Nat} {ce:Entry} {args:List V} {argv:List Value} {v:V} (hg:@CallOK (.just True) P g ce) (eg:∀ args w,(callFunc g args).run P w = .ok (.enter g args) w) (hv:ce.val args []=some (v,[]))
  (hA:∀ G,ArgsRep G w args argv []):Calls P g argv.toArray w fun e' w'=>(∃ G' y t,e' = .returned y∧TRep G' w' v y t)∧∃ q os,w'=grow (w.drewN q) os:=by
 letI:MonoC:=.just True
 let G:Gh:={ I:=fun _ _=>none,O:=fun _ _=>none,ρ:=fun _=>(0,0) }
 have hdo:=hg.ok args [] v [] hv (fun _ _=>False) G w argv [] [] ⟨fun _ _ _ h=>(by cases h),fun _ _ _ h=>(by cases h),fun _ _ _ h=>(by cases h)⟩ trivial (fun _ _ _ h=>(by cases h)) (hA G) rfl (fun g=>by simp) (fun g hg=>by simp at hg)
 rcases hdo with ⟨_,h⟩ | ⟨v',w',h,_⟩
 ·refine Calls.mono h fun e' w' he=>?_
  cases e' with
  | returned y =>
   obtain ⟨G',hE,_,_,tV,tM,tX,hT,_⟩:=he
   refine ⟨⟨G',y,tV,rfl,hT⟩,w'.drawn - w.drawn,w'.heap.extract w.heap.size w'.heap.size,?_⟩
   have hheap:w'.heap=w.heap++w'.heap.extract w.heap.size w'.heap.size:=by
    apply Array.ext_getElem?
    intro i
    rcases Nat.lt_or_ge i w.heap.size with hi | hi
    ·rw [Array.getElem?_append_left hi]
     rcases hE.evo.block i hi with h | ⟨c,c',t,fr,h1,h2,h3,h4⟩ | ⟨_,_,_,_,_,_,h⟩
     ·exact h
     ·have:c'=c:=Array.ext_getElem? fun j=>h4 j (fun h=>h)
      rw [h1,h2,this]
     ·exact h.elim
    ·rw [Array.getElem?_append_right hi,Array.getElem?_extract]
     split
     ·congr 1;omega
     ·rename_i h5
      rw [Array.getElem?_eq_none]
      have:=hE.evo.size
      rcases Nat.lt_or_ge i w'.heap.size with h6 | h6
      ·exfalso;apply h5;omega
      ·exact h6
   have e1:=hE.evo.os;have e2:=hE.evo.tape;have e3:=hE.evo.output;have e4:=hE.evo.drawn trivial
   unfold grow World.drewN
   cases w' with
   | mk h1 t1 d1 o1 p1 =>
    cases w with
    | mk h0 t0 d0 o0 p0 =>
     simp only at e1 e2 e3 e4 hheap ⊢
     subst e1;subst e2;subst e3
     have:d0+(d1 - d0)=d1:=by omega
     rw [this,← hheap]
  | _=>exact he.elim
 ·rw [eg] at h;cases h
end Go.Proofs.YtggcagclpkhlhaaGreatDoor.Pal
end
noncomputable section
/- The row: what comes in is data; what the law's run says, the statement says. -/
namespace Go.Proofs.YtggcagclpkhlhaaGreatDoor.Pal
open Go
variable [MonoC]
variable {H:Type} {enc:TypeId × Value→H} {P:Program} {W:World} {base:Nat} {spare:Nat→Bool} {held:Bool}

def img (W:World):Im:=fun b o=>W.cell? ⟨b,o,none⟩
def Fits:(τ:Ty)→τ.D→Prop
 | .int k,n=>(Lit.int k n).wf=true
 | .bool,_=>True
 | .str,s=>s.length≤maxLen
 | .slc e,xs=>List.length xs≤maxLen∧∀ x ∈ xs,Fits e x
 | .arr n e,xs=>List.length xs=n∧∀ x ∈ xs,Fits e x
 | .pair a b,x=>Fits a x.1∧Fits b x.2
 | .map _ _,_=>True
theorem tyB_map {n:Nat} {T:TypeId} {a b:Ty} (h:tyB P n T (.map a b)=true):False:=by
 obtain ⟨m,rfl⟩:=tyB_pos h
 obtain ⟨d,hd,h⟩:=tyB_d h
 cases d <;> simp_all [descB]
theorem cellsOf_ty {n:Nat} {T:TypeId} {τ:Ty} (h:tyB P n T τ=true):P.cellsOf T=τ.cells:=by
 obtain ⟨i,hi,hs,_⟩:=(tyB_i h).info
 simp [Program.cellsOf,hi,hs]
theorem pick_all {α β:Type} {f:Nat→Option β} {R:Nat→α→Prop}:∀ (n:Nat),(∀ i,i<n→∃ x,R i x)→∃ xs:List α,xs.length=n∧∀ i x,xs[i]? = some x→R i x
 | 0,_=>⟨[],rfl,fun i x h=>by simp at h⟩
 | n+1,h=>by
  obtain ⟨xs,h1,h2⟩:=pick_all (f:=f) n fun i hi=>h i (by omega)
  obtain ⟨x,hx⟩:=h n (by omega)
  refine ⟨xs++[x],by simp [h1],fun i y hy=>?_⟩
  rcases Nat.lt_or_ge i n with hi | hi
  ·rw [List.getElem?_append_left (by omega)] at hy;exact h2 i y hy
  ·have:i=n:=by have:=(List.getElem?_eq_some_iff.1 hy).1;simp at this;omega
   subst this
   rw [List.getElem?_append_right (by omega)] at hy
   simp [h1] at hy;subst hy;exact hx
theorem all2_seg {α:Type} {R:α→List Value→Prop} {sz:Nat}:∀ (xs:List α) (cs:List Value),cs.length=xs.length * sz→(∀ i x,xs[i]? = some x→R x ((cs.drop (i * sz)).take sz))→All2 R xs cs
 | [],cs,h,_=>List.eq_nil_of_length_eq_zero (by simpa using h)
 | x::xs,cs,h,hR=>by
  have h0:=hR 0 x rfl
  simp only [Nat.zero_mul,List.drop_zero] at h0
  refine ⟨cs.take sz,cs.drop sz,(List.take_append_drop sz cs).symm,h0,all2_seg (sz:=sz) xs (cs.drop sz) (by simp [h,Nat.add_mul]) fun i y hy=>?_⟩
  have:=hR (i+1) y (by simpa using hy)
  rw [List.drop_drop]
  rwa [show sz+i * sz=(i+1) * sz by rw [Nat.add_mul];omega]
theorem flds_open {fuel:Nat} (IH:∀ (τ:Ty) (n:Nat) (T:TypeId) (cs:List Value) (y:DataW H × List MemPlace),tyB P n T τ=true→DataW.trod enc P W base spare held fuel T cs=some y→∃ x,DRep (img W) τ x cs∧Fits τ x) {n:Nat} {cs:List Value} :
  ∀ (fs:List Field) (o:Nat) (τ:Ty),flds (tyB P n) fs o τ=true→(∀ f ∈ fs,∃ y,DataW.trod enc P W base spare held fuel f.type ((cs.drop f.offset).take (P.cellsOf f.type))=some y) →
   ∃ x,DRep (img W) τ x ((cs.drop o).take τ.cells)∧Fits τ x
 | [],_,_,h,_=>by simp [flds] at h
 | [g],o,τ,h,ht=>by
  simp only [flds,Bool.and_eq_true] at h
  obtain ⟨⟨h1,h2⟩,_⟩:=h
  obtain ⟨y,hy⟩:=ht g (by simp)
  rw [beq_nat.1 h1,cellsOf_ty h2] at hy
  exact IH τ n g.type _ y h2 hy
 | g::g'::r,o,τ,h,ht=>by
  cases τ with
  | pair a b =>
   simp only [flds,Bool.and_eq_true] at h
   obtain ⟨⟨⟨h1,h2⟩,_⟩,h4⟩:=h
   obtain ⟨y,hy⟩:=ht g (by simp)
   rw [beq_nat.1 h1,cellsOf_ty h2] at hy
   obtain ⟨x1,k1,k2⟩:=IH a n g.type _ y h2 hy
   obtain ⟨x2,k3,k4⟩:=flds_open IH (g'::r) (o+a.cells) b h4 fun f hf=>ht f (by simp at hf ⊢;exact .inr hf)
   refine ⟨(x1,x2),⟨_,_,?_,k1,k3⟩,k2,k4⟩
   rw [← List.drop_drop]
   show List.take (a.cells+b.cells) (cs.drop o)=_
   rw [List.take_add]
  | _=>simp [flds] at h
theorem trod_open:∀ (fuel:Nat) (τ:Ty) (n:Nat) (T:TypeId) (cs:List Value) (y:DataW H × List MemPlace),tyB P n T τ=true→DataW.trod enc P W base spare held fuel T cs=some y→∃ x,DRep (img W) τ x cs∧Fits τ x:=by
 intro fuel
 induction fuel with
 | zero=>intro τ n T cs y _ h;simp [DataW.trod] at h
 | succ fuel IH =>
  intro τ n T cs y ht h
  cases τ with
  | map a b=>exact (tyB_map ht).elim
  | int k =>
   obtain ⟨z,h1,_,h3⟩:=DataW.trod_int (tyB_int ht) h
   exact ⟨z,h1,h3⟩
  | bool =>
   obtain ⟨z,h1,_⟩:=DataW.trod_bool (tyB_bool ht) h
   exact ⟨z,h1,trivial⟩
  | str =>
   obtain ⟨z,h1,_,h3⟩:=DataW.trod_string (tyB_str ht) h
   refine ⟨z.data.toList,by rw [h1];simp [DRep],?_⟩
   show z.data.toList.length≤maxLen
   have:=h3
   simp only [ByteArray.size] at this
   simpa using this
  | slc e =>
   obtain ⟨E,m,hu,hE⟩:=tyB_slc ht
   have hsz:=cellsOf_ty hE
   have hpos:=(tyB_i hE).pos
   rcases DataW.trod_slice hu h with ⟨h1,_⟩ | ⟨a,len,cap,elems,rest,n',hf,h1,_,_,hlc,hcm,hel,hels,_⟩
   ·exact ⟨[],⟨none,0,0,h1,rfl,Nat.le_refl _,.inl rfl⟩,Nat.zero_le _,fun x hx=>by cases hx⟩
   ·have hf':n'=fuel:=by omega
    subst hf'
    have key:∀ i,i<len→∃ x:e.D,∃ c,DRep (img W) e x c∧Fits e x∧W.cells? base (a.add (i * e.cells)) e.cells=some c:=by
     intro i hi
     have:=hels i hi
     rw [List.getElem?_eq_getElem (by omega),Option.bind_eq_some_iff] at this
     obtain ⟨c,hc,ht'⟩:=this
     obtain ⟨x,k1,k2⟩:=IH e m E c _ hE ht'
     exact ⟨x,c,k1,k2,by rw [← hsz];exact hc⟩
    obtain ⟨xs,hl,hxs⟩:=pick_all (f:=fun _=>(none:Option Nat)) (R:=fun i (x:e.D)=>∃ c,DRep (img W) e x c∧Fits e x∧W.cells? base (a.add (i * e.cells)) e.cells=some c) len key
    refine ⟨xs,⟨some a,len,cap,h1,hl,hlc,?_⟩,?_,fun x hx=>?_⟩
    ·rcases Nat.eq_zero_or_pos len with h0 | h0
     ·exact .inl (List.eq_nil_of_length_eq_zero (by omega))
     ·refine .inr ⟨a.block,a.off,?_,fun i x hx=>?_⟩
      ·obtain ⟨x,c,_,_,hc⟩:=key 0 h0
       have:=(World.cells?_some hc).2.2 0 hpos
       have hlc:=(World.cells?_some hc).2.1
       simp only [Nat.zero_mul,Addr.add,if_true] at this
       rw [List.getElem?_eq_getElem (by omega)] at this
       have hs:=World.cell?_spot this
       cases a;simp at hs;subst hs;rfl
      ·obtain ⟨c,k1,_,hc⟩:=hxs i x hx
       obtain ⟨_,h2,h3⟩:=World.cells?_some hc
       refine ⟨c,k1,fun j v hj=>?_⟩
       have hjl:j<e.cells:=by rw [← h2];exact (List.getElem?_eq_some_iff.1 hj).1
       have:=h3 j hjl
       rw [hj] at this
       have hs:=World.cell?_spot this
       show W.cell? ⟨a.block,a.off+i * e.cells+j,none⟩=some v
       rw [← this]
       congr 1
       have hb:((a.add (i * e.cells)).add j).block=a.block∧((a.add (i * e.cells)).add j).off=a.off+i * e.cells+j:=by
        unfold Addr.add;split <;> split <;> simp_all
       cases hh:(a.add (i * e.cells)).add j with
       | mk b' o' s'=>rw [hh] at hb hs;simp at hb hs;rw [hb.1,hb.2,hs]
    ·show List.length xs≤maxLen;rw [hl];omega
    ·obtain ⟨i,hi⟩:=List.getElem?_of_mem hx
     obtain ⟨c,_,k2,_⟩:=hxs i x hi
     exact k2
  | arr q e =>
   obtain ⟨E,m,hu,hE⟩:=tyB_arr ht
   have hsz:=cellsOf_ty hE
   have hszT:=cellsOf_ty ht
   obtain ⟨ys,m',hf,_,hlen,hyl,hys⟩:=DataW.trod_array hu h
   have hf':m'=fuel:=by omega
   subst hf'
   have key:∀ i,i<q→∃ x:e.D,DRep (img W) e x ((cs.drop (i * e.cells)).take e.cells)∧Fits e x:=by
    intro i hi
    have:=hys i hi
    rw [List.getElem?_eq_getElem (by omega),hsz] at this
    exact IH e m E _ _ hE this
   obtain ⟨xs,hl,hxs⟩:=pick_all (f:=fun _=>(none:Option Nat)) (R:=fun i (x:e.D)=>DRep (img W) e x ((cs.drop (i * e.cells)).take e.cells)∧Fits e x) q key
   refine ⟨xs,⟨hl,all2_seg xs cs ?_ fun i x hx=>(hxs i x hx).1⟩,hl,fun x hx=>?_⟩
   ·rw [hlen,hszT,hl];rfl
   ·obtain ⟨i,hi⟩:=List.getElem?_of_mem hx
    exact (hxs i x hi).2
  | pair a b =>
   obtain ⟨fs,m,hu,_,hfl,_⟩:=tyB_pair ht
   have hszT:=cellsOf_ty ht
   obtain ⟨ys,m',hf,_,hlen,hyl,hys⟩:=DataW.trod_struct hu h
   have hf':m'=fuel:=by omega
   subst hf'
   obtain ⟨x,k1,k2⟩:=flds_open (cs:=cs) IH fs.toList 0 (.pair a b) hfl fun f hf=>by
    obtain ⟨i,hi⟩:=List.getElem?_of_mem hf
    have hi':fs[i]? = some f:=by simpa using hi
    have:=hys i f hi'
    rw [List.getElem?_eq_getElem (by rw [hyl];exact (Array.getElem?_eq_some_iff.1 hi').1)] at this
    exact ⟨_,this⟩
   rw [List.drop_zero,List.take_of_length_le (by rw [hlen,hszT];exact Nat.le_refl _)] at k1
   exact ⟨x,k1,k2⟩
def gh0 (W:World):Gh:={ I:=img W,O:=fun _ _=>none,ρ:=fun _=>(0,0) }
theorem arg_open {r:Reach} {b0:Nat} {n:Nat} {T:TypeId} {τ:Ty} {v:Value} {d:DataW H} {ps:List MemPlace} (ht:tyB P n T τ=true) (hval:Value.okWide P W r b0 T v) (hd:DataW.Trod enc P W base spare held T v d ps) :
  ∃ x,TRep (gh0 W) W (.dat τ x) v []∧Fits τ x:=by
 obtain ⟨fuel,hf⟩:=hd
 obtain ⟨x,h1,h2⟩:=trod_open fuel τ n T _ _ ht hf
 refine ⟨x,⟨v.cells.toList,⟨h1,rfl⟩,?_⟩,h2⟩
 have scalar:(∀ cs,v ≠ .agg cs)→v.cells.toList=[v]:=by
  intro h
  cases v <;> first | rfl | exact absurd rfl (h _)
 cases τ with
 | map a b=>exact (tyB_map ht).elim
 | int k =>
  refine scalar fun cs e=>?_
  subst e;simp [Value.okWide,tyB_int ht,Cell.okWide,Cell.ok] at hval
 | bool =>
  refine scalar fun cs e=>?_
  subst e;simp [Value.okWide,tyB_bool ht,Cell.okWide,Cell.ok] at hval
 | str =>
  refine scalar fun cs e=>?_
  subst e;simp [Value.okWide,tyB_str ht,Cell.okWide,Cell.ok] at hval
 | slc e =>
  obtain ⟨E,m,hu,_⟩:=tyB_slc ht
  refine scalar fun cs e=>?_
  subst e;simp [Value.okWide,hu,Cell.okWide,Cell.ok] at hval
 | arr q e =>
  obtain ⟨E,m,hu,_⟩:=tyB_arr ht
  simp only [Value.okWide,hu] at hval
  obtain ⟨cs,rfl,_⟩:=hval
  show Value.agg cs = .agg cs.toList.toArray;simp
 | pair a b =>
  obtain ⟨fs,m,hu,_⟩:=tyB_pair ht
  simp only [Value.okWide,hu] at hval
  obtain ⟨cs,rfl,_⟩:=hval
  show Value.agg cs = .agg cs.toList.toArray;simp
theorem wf0 (W:World):Wf (gh0 W) W:=⟨fun _ _ _ h=>h,fun _ _ _ _=>rfl,fun _ _ _ h=>by cases h⟩
theorem law_calls {f : FuncId} {fn : Func} {code : Code} {e : Entry} {args : List V} {argv : List Value} (hOK : CallOK P f e) (hf : P.funcs[f]? = some fn) (hb : fn.body = some code) (hnm : (fn.name == "runtime.NumGoroutine") = false)
  (hv:e.val args []=some (.dat .bool true,[])) (hA:ArgsRep (gh0 W) W args argv []) (hTab:MonoC.tab (img W):=by trivial):Calls P f argv.toArray W fun e w'=>e = .returned (.bool true)∧RowKit.Below W.heap.size W w':=by
 have hdo:=hOK.ok args [] _ _ hv (fun _ _=>False) (gh0 W) W argv [] [] (wf0 W) hTab (fun _ _ _ h=>by cases h) hA rfl (fun g=>by simp) (fun g hg=>by simp at hg)
 have hen:(callFunc f argv.toArray).run P W = .ok (.enter f argv.toArray) W:=by
  have hnm' : ¬ fn.name = "runtime.NumGoroutine" := by simpa using hnm
  unfold callFunc
  simp [hf,hnm',hb]
 rcases hdo with ⟨_,h⟩ | ⟨v,w',h,_⟩
 ·refine Calls.mono h fun e w' he=>?_
  cases e with
  | returned v =>
   obtain ⟨G',hE,_,_,tV,tM,tX,hT,_⟩:=he
   refine ⟨by rw [hT.dat_bool],hE.evo.os,hE.evo.tape,hE.evo.output,hE.evo.size,fun k hk=>?_⟩
   rcases hE.evo.block k hk with h | ⟨c,c',t,fr,h1,h2,h3,h4⟩ | ⟨_,_,_,_,_,_,h⟩
   ·exact h
   ·have:c'=c:=Array.ext_getElem? fun j=>h4 j (fun h=>h)
    rw [h1,h2,this]
   ·exact h.elim
  | _=>exact he.elim
 ·rw [hen] at h;cases h
theorem law_calls' {f : FuncId} {fn : Func} {code : Code} {σ : Sg} {F : σ.In → Option σ.Out} {args : List V} {argv : List Value} {x : σ.In} {r : σ.Out} (hOK : CallOK P f (σ.entry F)) (hf : P.funcs[f]? = some fn) (hb : fn.body = some code) (hnm : (fn.name == "runtime.NumGoroutine") = false)
  (hp:Ar.pull σ.args 0 args=some args) (hd:Dl.dec (arTys σ.args++σ.objs) args=some x) (hF:F x=some r) (hv:encOutV σ.res σ.objs.length σ.outs r = .dat .bool true) (ho:encOutO σ.res σ.outs r=[])
  (hA:ArgsRep (gh0 W) W args argv []) (hTab:MonoC.tab (img W):=by trivial):Calls P f argv.toArray W fun e w'=>e = .returned (.bool true)∧RowKit.Below W.heap.size W w':=by
 refine law_calls hOK hf hb hnm ?_ hA hTab
 unfold Entry.val
 show ((Ar.pull σ.args 0 args).bind fun ds=>(Dl.dec (arTys σ.args++σ.objs) (ds++[])).bind fun x=>bnd (F x) fun r=>some (encOutV σ.res σ.objs.length σ.outs r,encOutO σ.res σ.outs r))=_
 rw [hp]
 simp only [Option.bind_some,List.append_nil]
 rw [hd]
 simp only [Option.bind_some]
 rw [hF]
 simp only [bnd]
 rw [hv,ho]
end Go.Proofs.YtggcagclpkhlhaaGreatDoor.Pal
end
noncomputable section
/- slices.Clone: a list of the call's own. -/
namespace Go.Proofs.YtggcagclpkhlhaaGreatDoor.Pal
open Go
variable [MonoC]
variable {P:Program} {X Y:Nat→Nat→Prop} {G0 G G':Gh} {w0 w w':World} {s:St} {a:Act} {c:Cx} {Q:Exit→Act→World→Prop}

theorem run_to (hT:TT P c) (hC:∀ f e,lkN c.fns f=some e→CallOK P f e) (hm:P.follows .mixedOrders=true) {N:Nat} {ds:List Deferred} {code:Code} {s1:St} (hok:okCode c N code=true)
  (h:run c code s (fun e s=>match e with | .normal=>some s | _=>none)=some s1) (hR:RS X G0 w0 G s a.tmps w) (hN:a.tmps.size=N) (hd:a.defers=ds)
  (hQ:∀ a' w' G',RS X G0 w0 G' s1 a'.tmps w'→a'.tmps.size=N→a'.defers=ds→Q .normal a' w'):code.wp P Q a w:=by
 refine run_sound (N:=N) (ds:=ds) hT hC hm code hok (fun e s=>match e with | .normal=>some s | _=>none) Q s a w G ?_ h hR hN hd
 intro e a' w' G' s' h1 h2 h3 h4
 cases e with
 | normal=>injection h4 with h4;subst h4;exact hQ a' w' G' h1 h2 h3
 | _=>cases h4
abbrev ed (i:Nat) (g:Ground):Edge:={ on:=i,ground:=g }
def cloneR0 (T : Nat) : Code := .region 0 #[{ dst := some 2, op := .assign (.const (.slice none 0 0)), type := T, pos := "slices.go:355", after := #[], guard := none }] false
def cloneOps (T B : Nat) : Array Oper := #[{ dst := some 3, op := .move (.tmp 0), type := T, pos := "slices.go:357", after := #[], guard := none },
          { dst := some 4, op := .binOp .eql T (.tmp 3) (.const (.slice none 0 0)) T, type := B, pos := "slices.go:357", after := #[ed 0 .data], guard := none }]
def cloneC (T : Nat) : Code := .cond (.tmp 4) (.seq (.region 2 #[{ dst := some 2, op := .assign (.const (.slice none 0 0)), type := T, pos := "slices.go:358", after := #[], guard := none }] false) .ret) .skip
def cloneR3 (T : Nat) : Code := .seq (.region 3 #[{ dst := some 5, op := .buildSlice T 0 #[], type := T, pos := "slices.go:362", after := #[], guard := none },
          { dst := some 6, op := .move (.tmp 0), type := T, pos := "slices.go:362", after := #[], guard := none },
          { dst := some 7, op := .call { callee := .builtin .append, args := #[.tmp 5, .tmp 6], argTypes := #[T, T] }, type := T, pos := "slices.go:362", after := #[ed 0 .data, ed 1 .data], guard := none },
          { dst := some 2, op := .assign (.tmp 7), type := T, pos := "slices.go:362", after := #[ed 2 .data, ed 2 .chain, ed 0 .phase, ed 1 .phase, ed 2 .phase], guard := none }] false) .ret
def cloneCode (T B:Nat):Code:=.seq (cloneR0 T) (.seq (.seq (.region 1 (cloneOps T B) false) (cloneC T)) (cloneR3 T))
def cloneCx (T:Nat) (e:Ty):Cx:=⟨[(T,⟨.slc e,0⟩)],[],[],[(0,⟨[0],[],[],[],0,[],[],[],[],[]⟩),(2,⟨[2],[],[],[],0,[],[],[],[],[]⟩),(3,⟨[2],[],[2,3],[],0,[],[],[],[],[]⟩)],0,[]⟩
@[reducible] def cloneSg (e:Ty):Sg:=⟨[.dat (.slc e)],[],.raw e,[]⟩
@[reducible] def cloneOwn (e:Ty):Sg:=⟨[.dat (.slc e)],[],.own e,[]⟩
def toK:Ex→St→Option St
 | .normal,s=>some s
 | _,_=>none
theorem clone_wp {T B N:Nat} {e:Ty} (hT:TT P (cloneCx T e)) (hty:(cloneCx T e).ty T=some (.slc e)) (hm:P.follows .mixedOrders=true) (hok:okCode (cloneCx T e) N (cloneCode T B)=true) {xs:List e.D} {tmps:Array Value} {α:Type} {K:Ex→St→Option α} {r:α}
  (hR:RS X G0 w0 G (st0 [.dat (.slc e) xs] []) tmps w) (hsz:tmps.size=N) (hL:Left X G0 w0 N [] K r Q)
  (h0:run (cloneCx T e) (cloneR0 T) (st0 [.dat (.slc e) xs] []) toK=some ⟨[(0,.dat (.slc e) xs)],[]⟩)
  (hnil:xs=[]→run (cloneCx T e) (cloneC T) ⟨[(4,.dat .bool true),(3,.dat (.slc e) xs),(0,.dat (.slc e) xs)],[]⟩ (thenK (fun s'=>run (cloneCx T e) (cloneR3 T) s' K) K)=some r)
  (hsome:run (cloneCx T e) (cloneC T) ⟨[(4,.dat .bool false),(3,.dat (.slc e) xs),(0,.dat (.slc e) xs)],[]⟩ (thenK (fun s'=>run (cloneCx T e) (cloneR3 T) s' K) K)=some r) :
  (cloneCode T B).wp P Q { tmps:=tmps,defers:=[] } w:=by
 have hC:∀ f e',lkN (cloneCx T e).fns f=some e'→CallOK P f e':=fun f e' h=>by cases h
 obtain ⟨E,m,hu,_⟩:=tyB_slc (hT.ty hty).1
 have hok2:okCode (cloneCx T e) N (cloneR0 T)=true∧(okCode (cloneCx T e) N (.region 1 (cloneOps T B) false)=true∧okCode (cloneCx T e) N (cloneC T)=true)∧okCode (cloneCx T e) N (cloneR3 T)=true:=by
  unfold cloneCode at hok
  rw [okCode,Bool.and_eq_true] at hok
  rw [okCode,Bool.and_eq_true] at hok
  rw [okCode,Bool.and_eq_true] at hok
  exact hok
 obtain ⟨k0,⟨k1,k2⟩,k3⟩:=hok2
 have hd34:3<N∧4<N:=by
  simp only [okCode,cloneOps,List.all_cons,Bool.and_eq_true] at k1
  exact ⟨Nat.le_of_ble_eq_true k1.1.1,Nat.le_of_ble_eq_true k1.1.2.1⟩
 unfold cloneCode
 refine wp_seq (run_sound hT hC hm (N:=N) (ds:=[]) (cloneR0 T) k0 toK _ _ _ w G ?_ h0 hR hsz rfl)
 intro ex a1 w1 G1 s1 g1 g2 g3 g4
 cases ex with
 | exit i=>cases g4
 | ret=>cases g4
 | normal =>
  injection g4 with g4;subst g4
  show (Code.seq _ _).wp P Q a1 w1
  refine wp_seq (wp_seq (wp_region ?_))
  show wpOps P (cloneOps T B) _ [0,1] a1 w1
  have hmv : stepO (cloneCx T e) false false { dst := some 3, op := .move (.tmp 0), type := T, pos := "slices.go:357", after := #[], guard := none } ⟨[(0, .dat (.slc e) xs)], []⟩ some = some ⟨[(3, .dat (.slc e) xs), (0, .dat (.slc e) xs)], []⟩ := rfl
  have s3:=stepO_sound (P:=P) (Q:=Exit.then ((cloneC T).wp P (Exit.then ((cloneR3 T).wp P Q) Q)) (Exit.then ((cloneR3 T).wp P Q) Q)) hT hC g1 hmv (fun t ht=>by injection ht with ht;subst ht;show 3<a1.tmps.size;rw [g2];exact hd34.1)
  rw [wpOps_cons]
  unfold wpOp
  rw [show (cloneOps T B)[0]? = some { dst := some 3, op := .move (.tmp 0), type := T, pos := "slices.go:357", after := #[], guard := none } from rfl]
  simp only [Region.wanted,if_true]
  refine .inl (Oper.wp_mono (fun a2 w2 hN=>?_) s3)
  obtain ⟨G2,s2,f1,f2,f3,f4⟩:=hN
  injection f4 with f4;subst f4
  have hsz2:a2.tmps.size=N:=f2.trans g2
  obtain ⟨ts,hv3⟩:=f1.find (t:=3) (v:=.dat (.slc e) xs) rfl trivial
  obtain ⟨ad,len,cap,hx,hl,hlc,hE⟩:=hv3.dat_slc
  have hx':a2.eval (.tmp 3) = .slice ad len cap:=hx
  have hop : (execOp a2.eval { dst := some 4, op := .binOp .eql T (.tmp 3) (.const (.slice none 0 0)) T, type := B, pos := "slices.go:357", after := #[ed 0 .data], guard := none }).run P w2 = .ok (.value (.bool ad.isNone)) w2 := by
   simp only [execOp,hx']
   refine runV ?_
   have hg:=guard_plain (P:=P) (w:=w2) (op:=.eql) (t:=T) (x:=.tmp 3) (y:=.const (.slice none 0 0)) (u:=.slice ad len cap) (v:=.slice none 0 0) (fun cs ds h=>by cases h.1) (fun h=>by cases h.1)
   have hb:=Go.run_eql_slice_nil (P:=P) w2 T E ad len cap hu
   simp only [Sem.run_bind]
   first
    | (rw [show a2.eval (.const (.slice none 0 0)) = .slice none 0 0 from rfl,hg];exact hb)
    | (show Result.andThen _ _=_;rw [hg];exact hb)
  show wpOps P (cloneOps T B) _ [1] a2 w2
  rw [wpOps_cons]
  unfold wpOp
  rw [show (cloneOps T B)[1]? = some { dst := some 4, op := .binOp .eql T (.tmp 3) (.const (.slice none 0 0)) T, type := B, pos := "slices.go:357", after := #[ed 0 .data], guard := none } from rfl]
  simp only [Region.wanted,if_true]
  refine .inl (Oper.wp_mono (fun a3 w3 hN=>?_) (wp_val (P:=P) (Q:=Exit.then ((cloneC T).wp P (Exit.then ((cloneR3 T).wp P Q) Q)) (Exit.then ((cloneR3 T).wp P Q) Q)) (K:=some) (r:=⟨[(4,.dat .bool ad.isNone),(3,.dat (.slc e) xs),(0,.dat (.slc e) xs)],[]⟩) hop (f1.withV (TRep.bool ad.isNone)) (fun t ht=>by injection ht with ht;subst ht;show 4<a2.tmps.size;rw [hsz2];exact hd34.2) rfl))
  obtain ⟨G3,s3,p1,p2,p3,p4⟩:=hN
  injection p4 with p4;subst p4
  show (cloneC T).wp P _ a3 w3
  have hlast:run (cloneCx T e) (cloneC T) ⟨[(4,.dat .bool ad.isNone),(3,.dat (.slc e) xs),(0,.dat (.slc e) xs)],[]⟩ (thenK (fun s'=>run (cloneCx T e) (cloneR3 T) s' K) K)=some r:=by
   cases ad with
   | none =>
    refine hnil ?_
    rcases hE with h | ⟨b,o,h,_⟩
    ·exact h
    ·cases h
   | some x=>exact hsome
  refine run_sound hT hC hm (N:=N) (ds:=[]) (cloneC T) k2 _ _ _ a3 w3 G3 ?_ hlast p1 (p2.trans hsz2) (p3.trans (f3.trans g3))
  exact thenK_left hL fun a' w' G' s' h1 h2 h3 h4=>run_sound hT hC hm (cloneR3 T) k3 K Q s' a' w' G' hL h4 h1 h2 h3
def cloneF {α:Type} (xs:List α):Option (List α):=br (room ([]:List α) xs) (some (app [] xs)) none
end Go.Proofs.YtggcagclpkhlhaaGreatDoor.Pal
end
noncomputable section
/- slices.Clone: its contracts, at any type. -/
namespace Go.Proofs.YtggcagclpkhlhaaGreatDoor.Pal
open Go
variable [MonoC]
variable {P:Program}
theorem cloneE_eq (e:Ty):cloneE e=(cloneSg e).entry (fun xs=>cloneF xs):=by
 unfold cloneE Sg.entry
 congr 1
 funext α args objs K
 cases args with
 | nil=>rfl
 | cons v vs =>
  cases vs with
  | cons u us=>simp [Ar.pull]
  | nil =>
   cases objs with
   | nil =>
    show (V.as (.slc e) v).bind _=(V.as (.slc e) v).bind _
    cases h:V.as (.slc e) v with
    | none=>rfl
    | some xs =>
     simp only [Option.bind_some]
     show br (room ([]:List Int) (id xs:List e.D)) (K (.raw e (id xs:List e.D)) []) none=bnd (cloneF (id xs:List e.D)) fun r=>K (.raw e r) []
     unfold cloneF
     have:room ([]:List Int) (id xs:List e.D)=room ([]:List e.D) (id xs:List e.D):=rfl
     rw [this]
     cases room ([]:List e.D) (id xs:List e.D) <;> rfl
   | cons o os =>
    simp [Ar.pull,arTys,Dl.dec]
theorem clone_ok {f T B:Nat} {e:Ty} {fn:Func} (hT:TT P (cloneCx T e)) (hty:(cloneCx T e).ty T=some (.slc e)) (hm:P.follows .mixedOrders=true)
  (hf : P.funcs[f]? = some fn) (hb : fn.body = some (cloneCode T B)) (hnm : (fn.name == "runtime.NumGoroutine") = false) (hn : fn.ntmps = 8) (hr : fn.results = #[.tmp 2])
  (hok:okCode (cloneCx T e) 8 (cloneCode T B)=true)
  (h0:∀ xs:List e.D,run (cloneCx T e) (cloneR0 T) (st0 [.dat (.slc e) xs] []) toK=some ⟨[(0,.dat (.slc e) xs)],[]⟩)
  (hnil:run (cloneCx T e) (cloneC T) ⟨[(4,.dat .bool true),(3,.dat (.slc e) []),(0,.dat (.slc e) [])],[]⟩ (thenK (fun s'=>run (cloneCx T e) (cloneR3 T) s' ((cloneSg e).K (cloneCx T e) [.tmp 2])) ((cloneSg e).K (cloneCx T e) [.tmp 2]))=cloneF [])
  (hsome:∀ xs:List e.D,run (cloneCx T e) (cloneC T) ⟨[(4,.dat .bool false),(3,.dat (.slc e) xs),(0,.dat (.slc e) xs)],[]⟩ (thenK (fun s'=>run (cloneCx T e) (cloneR3 T) s' ((cloneSg e).K (cloneCx T e) [.tmp 2])) ((cloneSg e).K (cloneCx T e) [.tmp 2]))=cloneF xs):CallOK P f (cloneE e):=by
 rw [cloneE_eq]
 refine fn_ok' (c:=cloneCx T e) (code:=cloneCode T B) hT hf hb hnm (by rw [hn];rfl) (by rw [hr];rfl) rfl ?_
 intro xs r hF X G w tmps Q hR hsz hL
 rw [hr] at hL
 rw [hn] at hsz hL
 refine clone_wp hT hty hm hok (K:=(cloneSg e).K (cloneCx T e) [.tmp 2]) hR hsz hL (h0 xs) ?_ ?_
 ·intro h;subst h;exact hnil.trans hF
 ·exact (hsome xs).trans hF
theorem cloneO_eq (e:Ty):cloneO e=(cloneOwn e).entry (fun xs=>cloneF xs):=by
 unfold cloneO Sg.entry
 congr 1
 funext α args objs K
 cases args with
 | nil=>rfl
 | cons v vs =>
  cases vs with
  | cons u us=>simp [Ar.pull]
  | nil =>
   cases objs with
   | nil =>
    show (V.as (.slc e) v).bind _=(V.as (.slc e) v).bind _
    cases h:V.as (.slc e) v with
    | none=>rfl
    | some xs =>
     simp only [Option.bind_some]
     show br (room ([]:List Int) (id xs:List e.D)) (K (.own e (id xs:List e.D)) []) none=bnd (cloneF (id xs:List e.D)) fun r=>K (.own e r) []
     unfold cloneF
     have:room ([]:List Int) (id xs:List e.D)=room ([]:List e.D) (id xs:List e.D):=rfl
     rw [this]
     cases room ([]:List e.D) (id xs:List e.D) <;> rfl
   | cons o os =>
    simp [Ar.pull,arTys,Dl.dec]
theorem cloneO_ok {f T B:Nat} {e:Ty} {fn:Func} (hT:TT P (cloneCx T e)) (hty:(cloneCx T e).ty T=some (.slc e)) (hm:P.follows .mixedOrders=true)
  (hf : P.funcs[f]? = some fn) (hb : fn.body = some (cloneCode T B)) (hnm : (fn.name == "runtime.NumGoroutine") = false) (hn : fn.ntmps = 8) (hr : fn.results = #[.tmp 2])
  (hok:okCode (cloneCx T e) 8 (cloneCode T B)=true)
  (h0:∀ xs:List e.D,run (cloneCx T e) (cloneR0 T) (st0 [.dat (.slc e) xs] []) toK=some ⟨[(0,.dat (.slc e) xs)],[]⟩)
  (hnil:run (cloneCx T e) (cloneC T) ⟨[(4,.dat .bool true),(3,.dat (.slc e) []),(0,.dat (.slc e) [])],[]⟩ (thenK (fun s'=>run (cloneCx T e) (cloneR3 T) s' ((cloneOwn e).K (cloneCx T e) [.tmp 2])) ((cloneOwn e).K (cloneCx T e) [.tmp 2]))=cloneF [])
  (hsome:∀ xs:List e.D,run (cloneCx T e) (cloneC T) ⟨[(4,.dat .bool false),(3,.dat (.slc e) xs),(0,.dat (.slc e) xs)],[]⟩ (thenK (fun s'=>run (cloneCx T e) (cloneR3 T) s' ((cloneOwn e).K (cloneCx T e) [.tmp 2])) ((cloneOwn e).K (cloneCx T e) [.tmp 2]))=cloneF xs):CallOK P f (cloneO e):=by
 rw [cloneO_eq]
 refine fn_ok' (c:=cloneCx T e) (code:=cloneCode T B) hT hf hb hnm (by rw [hn];rfl) (by rw [hr];rfl) rfl ?_
 intro xs r hF X G w tmps Q hR hsz hL
 rw [hr] at hL
 rw [hn] at hsz hL
 refine clone_wp hT hty hm hok (K:=(cloneOwn e).K (cloneCx T e) [.tmp 2]) hR hsz hL (h0 xs) ?_ ?_
 ·intro h;subst h;exact hnil.trans hF
 ·exact (hsome xs).trans hF
end Go.Proofs.YtggcagclpkhlhaaGreatDoor.Pal
end
noncomputable section
/- slices.SortFunc: what it leaves in a row of the call's own. -/
namespace Go.Proofs.YtggcagclpkhlhaaGreatDoor.Pal
open Go Go.Sort
variable [MonoC]
variable {P:Program} {X Y:Nat→Nat→Prop} {G0 G G':Gh} {w0 w w':World} {s:St} {a:Act} {c:Cx} {Q:Exit→Act→World→Prop}

def plainT:Ty→Bool
 | .int _ | .bool | .str=>true
 | .slc _ | .arr .. | .map ..=>false
 | .pair a b=>plainT a && plainT b
def encT:(τ:Ty)→τ.D→List Value
 | .int k,n=>[.int k n]
 | .bool,b=>[.bool b]
 | .str,s=>[.string ⟨s.toArray⟩]
 | .slc _,_=>[]
 | .arr ..,_=>[]
 | .map ..,_=>[]
 | .pair a b,x=>encT a x.1++encT b x.2
theorem plain_flat:∀ τ:Ty,plainT τ=true→flat τ=true
 | .int _,_=>rfl
 | .bool,_=>rfl
 | .str,_=>rfl
 | .slc _,h=>by simp [plainT] at h
 | .arr _ _,h=>by simp [plainT] at h
 | .map _ _,h=>by simp [plainT] at h
 | .pair a b,h=>by
  simp only [plainT,Bool.and_eq_true] at h
  simp [flat,plain_flat a h.1,plain_flat b h.2]
theorem encT_rep {I:Im}:∀ (τ:Ty) (x:τ.D) (cs:List Value),plainT τ=true→(DRep I τ x cs ↔ cs=encT τ x)
 | .int _,_,_,_=>Iff.rfl
 | .bool,_,_,_=>Iff.rfl
 | .str,_,_,_=>Iff.rfl
 | .slc _,_,_,h=>by simp [plainT] at h
 | .arr _ _,_,_,h=>by simp [plainT] at h
 | .map _ _,_,_,h=>by simp [plainT] at h
 | .pair a b,x,cs,h=>by
  simp only [plainT,Bool.and_eq_true] at h
  constructor
  ·rintro ⟨c1,c2,e,h1,h2⟩
   rw [e,(encT_rep a x.1 c1 h.1).1 h1,(encT_rep b x.2 c2 h.2).1 h2];rfl
  ·intro e
   exact ⟨encT a x.1,encT b x.2,e,(encT_rep a _ _ h.1).2 rfl,(encT_rep b _ _ h.2).2 rfl⟩
theorem encT_len (τ:Ty) (h:plainT τ=true) (x:τ.D):(encT τ x).length=τ.cells:=DRep.length (I:=fun _ _=>none) τ x _ ((encT_rep τ x _ h).2 rfl)
theorem all2_flat {I:Im} {e:Ty} (h:plainT e=true):∀ (xs:List e.D) (cc:List Value),All2 (DRep I e) xs cc ↔ cc=xs.flatMap (encT e)
 | [],cc=>Iff.rfl
 | x::xs,cc=>by
  constructor
  ·rintro ⟨c1,c2,e1,h1,h2⟩
   rw [e1,(encT_rep e x c1 h).1 h1,(all2_flat h xs c2).1 h2];rfl
  ·intro e1
   exact ⟨encT e x,xs.flatMap (encT e),e1,(encT_rep e x _ h).2 rfl,(all2_flat h xs _).2 rfl⟩
theorem flatMap_len {e:Ty} (h:plainT e=true) (xs:List e.D):(xs.flatMap (encT e)).length=xs.length * e.cells:=by
 have:=All2.len ((all2_flat (I:=fun _ _=>none) h xs _).2 rfl)
 exact this
theorem flatMap_get {e:Ty} (h:plainT e=true):∀ (xs:List e.D) (j:Nat),j<xs.length * e.cells→∃ x,xs[j / e.cells]? = some x∧(xs.flatMap (encT e))[j]? = (encT e x)[j % e.cells]?
 | [],j,hj=>by simp at hj
 | x::xs,j,hj=>by
  have hl:=encT_len e h x
  rcases Nat.lt_or_ge j e.cells with h1 | h1
  ·refine ⟨x,by rw [Nat.div_eq_of_lt h1];rfl,?_⟩
   rw [List.flatMap_cons,List.getElem?_append_left (by omega),Nat.mod_eq_of_lt h1]
  ·have hpos:0<e.cells:=by
    rcases Nat.eq_zero_or_pos e.cells with h0 | h0
    ·rw [h0] at hj;simp at hj
    ·exact h0
   obtain ⟨y,g1,g2⟩:=flatMap_get h xs (j - e.cells) (by simp only [List.length_cons,Nat.add_mul] at hj;omega)
   have hd:j / e.cells=(j - e.cells) / e.cells+1:=by rw [Nat.div_eq_sub_div hpos h1]
   have hm:j % e.cells=(j - e.cells) % e.cells:=Nat.mod_eq_sub_mod h1
   refine ⟨y,by rw [hd];simpa using g1,?_⟩
   rw [List.flatMap_cons,List.getElem?_append_right (by omega),hl,hm];exact g2
theorem ins_perm {α:Type} (lt:α→α→Bool) (x:α):∀ l,(ins lt x l).Perm (x::l)
 | []=>List.Perm.refl _
 | y::r=>by
  simp only [ins]
  cases lt y x with
  | true=>exact ((ins_perm lt x r).cons y).trans (List.Perm.swap x y r)
  | false=>exact List.Perm.refl _
theorem isort_perm {α:Type} (lt:α→α→Bool):∀ l,(isort lt l).Perm l
 | []=>List.Perm.refl _
 | x::r=>(ins_perm lt x _).trans ((isort_perm lt r).cons x)
theorem ins_sorted {α:Type} {lt:α→α→Bool} (hO:SWO lt) (x:α):∀ l,l.Pairwise (fun a b=>lt b a=false)→(ins lt x l).Pairwise (fun a b=>lt b a=false)
 | [],_=>List.pairwise_singleton _ _
 | y::r,h=>by
  simp only [ins]
  rw [List.pairwise_cons] at h
  have asym:∀ a b,lt a b=true→lt b a=false:=fun a b hab=>by
   cases hba:lt b a with
   | false=>rfl
   | true=>have:=hO.trans a b a hab hba;rw [hO.irrefl] at this;cases this
  cases hyx:lt y x with
  | true =>
   simp only [cond_true]
   refine List.pairwise_cons.2 ⟨fun z hz=>?_,ins_sorted hO x r h.2⟩
   have hz':=(ins_perm lt x r).mem_iff.1 hz
   rcases List.mem_cons.1 hz' with rfl | hz'
   ·exact asym _ _ hyx
   ·exact h.1 z hz'
  | false =>
   simp only [cond_false]
   refine List.pairwise_cons.2 ⟨fun z hz=>?_,List.pairwise_cons.2 h⟩
   rcases List.mem_cons.1 hz with rfl | hz
   ·exact hyx
   ·exact hO.ntrans z y x (h.1 z hz) hyx
theorem isort_sorted {α:Type} {lt:α→α→Bool} (hO:SWO lt):∀ l,(isort lt l).Pairwise (fun a b=>lt b a=false)
 | []=>List.Pairwise.nil
 | x::r=>ins_sorted hO x _ (isort_sorted hO r)
theorem sorted_unique {α:Type} {lt:α→α→Bool} (hT:∀ x y,lt x y=false→lt y x=false→x=y) {l1 l2:List α} (hp:l1.Perm l2) (h1:l1.Pairwise (fun a b=>lt b a=false)) (h2:l2.Pairwise (fun a b=>lt b a=false)):l1=l2 :=
 List.Perm.eq_of_pairwise (fun x y _ _ hx hy=>hT x y hy hx) h1 h2 hp

theorem run_dat (e:Ty) (hp:plainT e=true) (ha:e.agg=true) (G:Gh) (w:World) (x:e.D):TRep G w (.dat e x) (.agg (encT e x).toArray) []:=by
 refine ⟨encT e x,⟨(encT_rep e x _ hp).2 rfl,rfl⟩,?_⟩
 show (if e.agg then _ else _)
 rw [ha];rfl
instance inhD (e:Ty):Inhabited e.D:=⟨e.zero⟩
theorem cmp_lays {g:Nat} {ce:Entry} {e:Ty} {cf:e.D→e.D→Int} (hp:plainT e=true) (ha:e.agg=true) (hg:@CallOK (.just True) P g ce) (eg:∀ args w,(callFunc g args).run P w = .ok (.enter g args) w)
  (hcf:∀ x y,ce.val [.dat e x,.dat e y] []=some (.dat (.int .i64) (cf x y),[])) (blk off size:Nat) (w:World):CmpLays P g #[] (encT e) e.cells cf blk off size w:=by
 intro m os dk _ x y
 have h:=plain_call (w:=sortWorldK (encT e) e.cells w blk off m dk os) (argv:=[.agg (encT e x).toArray,.agg (encT e y).toArray]) hg eg (hcf x y)
  (fun G=>⟨_,_,[],[],rfl,rfl,run_dat e hp ha _ _ x,_,_,[],[],rfl,rfl,run_dat e hp ha _ _ y,rfl,rfl⟩)
 have h':Calls P g (#[.agg (encT e x).toArray,.agg (encT e y).toArray] ++ #[]) (sortWorldK (encT e) e.cells w blk off m dk os) _:=h
 refine Calls.mono h' fun e' w' hh=>?_
 obtain ⟨⟨G',y',t,h1,h2⟩,h3⟩:=hh
 exact ⟨by rw [h1,h2.dat_int],h3⟩
theorem holds_raw {I:Im} {e:Ty} (hp:plainT e=true) {gb:Nat} {xs:List e.D} {m:Nat} (h:RawB I w gb e xs m):HoldsK (encT e) e.cells w gb 0 xs.toArray∧gb<w.heap.size:=by
 obtain ⟨cells,t,cc,hg,hs,hA,hc⟩:=h
 refine ⟨fun j hj=>?_,(Array.getElem?_eq_some_iff.1 hg).1⟩
 simp only [size_flatK,List.size_toArray] at hj
 have hcc:=(all2_flat hp xs cc).1 hA
 obtain ⟨x,g1,g2⟩:=flatMap_get hp xs j hj
 have hpos:0<e.cells:=by
  rcases Nat.eq_zero_or_pos e.cells with h0 | h0
  ·rw [h0] at hj;simp at hj
  ·exact h0
 have hm:j % e.cells<(encT e x).length:=by rw [encT_len e hp];exact Nat.mod_lt _ hpos
 constructor
 ·rw [cell_of hg,Nat.zero_add,get_flatK _ _ _ _ (by simpa using hj)]
  have h1:(xs.toArray)[j / e.cells]! = x:=by
   rw [Array.getElem!_eq_getD,Array.getD_eq_getD_getElem?];simp [g1]
  rw [h1]
  have h2:cc[j]? = some ((encT e x)[j % e.cells]):=by rw [hcc,g2,List.getElem?_eq_getElem hm]
  rw [hc j _ h2,getElem!_pos (encT e x) (j % e.cells) hm];rfl
 ·simp only [World.frozen?,hg];simp

theorem heap_put {gb:Nat} {F:Array Value} {cells:Array Value} {t:TypeId} {fr:Nat × Nat} (hg:w.heap[gb]? = some (.cells cells t fr)) (n:Nat) (os:Array Obj) :
  (grow (putRow id (Sort.ahead w n) gb 0 F) os).heap[gb]? = some (.cells (putCells id 0 F cells) t fr)∧(∀ b,b<w.heap.size→b ≠ gb→(grow (putRow id (Sort.ahead w n) gb 0 F) os).heap[b]? = w.heap[b]?)∧w.heap.size≤(grow (putRow id (Sort.ahead w n) gb 0 F) os).heap.size:=by
 have hlt:=(Array.getElem?_eq_some_iff.1 hg).1
 refine ⟨?_,fun b hb hne=>?_,?_⟩
 ·show ((w.heap.modify gb _)++os)[gb]? = _
  rw [Array.getElem?_append_left (by simpa using hlt),Array.getElem?_modify,if_pos rfl,hg];rfl
 ·show ((w.heap.modify gb _)++os)[b]? = _
  rw [Array.getElem?_append_left (by simpa using hb),Array.getElem?_modify,if_neg (by omega)]
 ·show w.heap.size≤((w.heap.modify gb _)++os).size
  simp
theorem sort_ok {ρ : Shelf.Ren} {e : Ty} {g : Nat} {ce : Entry} {cf : e.D → e.D → Int} (L : SlLaysF0.n6 P ρ) (hp : plainT e = true) (ha : e.agg = true) (aE : ∀ w, (isAgg (ρ.t 24)).run P w = .ok true w) (zE : ∀ w, (Go.sizeOf (ρ.t 24)).run P w = .ok e.cells w)
    (hO : SWO (ltOf cf)) (hT : ∀ x y, ltOf cf x y = false → ltOf cf y x = false → x = y) (hg : @CallOK (.just True) P g ce) (eg : ∀ args w, (callFunc g args).run P w = .ok (.enter g args) w) (ef : ∀ args w, (callFunc (ρ.f 6) args).run P w = .ok (.enter (ρ.f 6) args) w)
    (hcf : ∀ x y, ce.val [.dat e x, .dat e y] [] = some (.dat (.int .i64) (cf x y), [])) : CallOK P (ρ.f 6) (sortE e g (ltOf cf)) := by
  have val : ∀ args objs v os, (sortE e g (ltOf cf)).val args objs = some (v, os) → ∃ xs : List e.D, args = [.raw e xs, .fn g []] ∧ objs = [] ∧ xs.length ≤ 4294967296 ∧ v = .unit ∧ os = [.raw e (isort (ltOf cf) xs)] := by
    intro args objs v os h
    unfold Entry.val sortE at h
    simp only at h
    split at h
    · rename_i e' xs g'
      split at h
      · rename_i he; subst he
        obtain ⟨hb, h⟩ := cond_then h
        obtain ⟨hr, h⟩ := br_then h
        injection h with h; injection h with h1 h2
        have := beq_nat.1 hb
        subst this
        exact ⟨xs, rfl, rfl, by have := hr; simp only [room, List.length_nil, Nat.zero_add, decide_eq_true_eq] at this; exact this, h1.symm, h2.symm⟩
      · cases h
    · cases h
  refine ⟨fun α args objs K => ?_, fun args objs vr os hval X G w argv tA tM hW hTab hX hA hM hcnt htok => ?_⟩
  · unfold Entry.val sortE
    simp only
    split
    · split
      · rw [cond_bind]; congr 1
        rw [br_bind]; rfl
      · rfl
    · rfl
  · obtain ⟨xs, rfl, rfl, hlen, rfl, rfl⟩ := val _ _ _ _ hval
    obtain ⟨x0, r0, t1, t2, rfl, rfl, ⟨cs, ⟨ad, len, cap, e1, e2, e3, e4⟩, hx⟩, x1, r1, t3, t4, rfl, rfl, ⟨cs1, ⟨cv, f1, f2, f3⟩, hx1⟩, rfl, rfl⟩ := hA
    simp only [V.agg, Bool.false_eq_true, if_false] at hx hx1
    rw [e1] at hx; rw [f1] at hx1
    simp only [List.cons.injEq, and_true] at hx hx1
    subst hx; subst hx1; subst f3
    have hcv : cv = #[] := by apply Array.ext'; simpa [capsRep] using f2
    subst hcv
    obtain ⟨hM1, hM2⟩ : tM = [] ∧ True := ⟨hM, trivial⟩
    have post : ∀ w', Evo X w w' → (∀ b o v, G.I b o = some v → w'.cell? ⟨b, o, none⟩ = some v) → RawRep G w' e (isort (ltOf cf) xs) [.slice ad len cap] t1 →
        ∃ G', Post X G w 0 .unit [.raw e (isort (ltOf cf) xs)] (.tuple #[]) (some (.slice ad len cap)) G' w' := by
      intro w' hE hc hr
      refine ⟨G, ⟨hE, Im.le_refl _, fun _ _ _ h => .inl h, fun _ _ _ => rfl⟩, ⟨hc, hW.io, fun b o k h => Nat.lt_of_lt_of_le (hW.lt b o k h) hE.size⟩, fun _ _ => rfl, [], [], t1, unit_undef, rfl, ?_, fun q => ?_, fun q hq => ?_⟩
      · exact ⟨_, rfl, [.slice ad len cap], hr, rfl⟩
      · have := hcnt q; simp at this ⊢; omega
      · exact .inr (htok q (by simp at hq ⊢; omega))
    refine .inl ⟨ef _ _, ?_⟩
    rcases Nat.eq_zero_or_pos len with h0 | h0
    · have hxs : xs = [] := List.eq_nil_of_length_eq_zero (by omega)
      subst hxs; subst h0
      refine Calls.mono (AnyF.slices_SortFunc_none L ad cap (.func (.func g) #[] #[]) w) fun e' w' hh => ?_
      obtain ⟨rfl, rfl⟩ := hh
      exact post w' (Evo.refl _ _) hW.holds ⟨ad, 0, cap, rfl, rfl, e3, e4⟩
    · rcases e4 with ⟨hc0, _⟩ | ⟨gb, rfl, rfl, hraw, hI, hO'⟩
      · omega
      · obtain ⟨hH, hlt⟩ := holds_raw hp hraw
        obtain ⟨cells, ty, cc, hgc, hs, hA2, hcc⟩ := hraw
        have hsz : xs.toArray.size = len := by simpa using e2
        have hcon := AnyQ.slices_SortFunc L e.cells aE zE (encT e) (encT_len e hp) (fun x v hv => oneCell_of_plain (DRep.plain (I := fun _ _ => none) e x _ ((encT_rep e x _ hp).2 rfl) v hv)) cf hO g #[] gb 0 cap xs.toArray w eg
          (cmp_lays hp ha hg eg hcf gb 0 _ w) hH hlt (by rw [hsz]; omega)
        rw [hsz] at hcon
        refine Calls.mono hcon fun e' w' hh => ?_
        obtain ⟨rfl, d', n, os, hperm, hsort, rfl⟩ := hh
        have hd' : d'.toList = isort (ltOf cf) xs := by
          have hs2 : d'.size = len := by rw [hperm.1]; exact hsz
          have hp2 : d'.toList.Perm xs := by
            have := hperm.2.2
            have e5 : d'.extract 0 len = d' := by rw [← hs2]; simp
            have e6 : xs.toArray.extract 0 len = xs.toArray := by rw [← hsz]; simp
            rw [e5, e6] at this
            simpa using this
          refine sorted_unique hT (hp2.trans (isort_perm _ xs).symm) ?_ (isort_sorted hO xs)
          rw [List.pairwise_iff_getElem]
          intro i j hi hj hij
          have := hsort i j (Nat.zero_le _) hij (by rw [← hs2]; simpa using hj)
          have gi : d'[i]! = d'.toList[i] := by rw [getElem!_pos d' i (by simpa using hi)]; simp
          have gj : d'[j]! = d'.toList[j] := by rw [getElem!_pos d' j (by simpa using hj)]; simp
          rw [gi, gj] at this
          exact this
        have hlen' : (isort (ltOf cf) xs).length = len := by rw [(isort_perm (ltOf cf) xs).length_eq]; exact e2
        obtain ⟨k1, k2, k3⟩ := heap_put (F := flatK (encT e) e.cells d') hgc n os
        have hone : cnt gb [gb] = 1 := by simp [cnt]
        have hX1 : ∀ o, X gb o := htok gb (by simp only [cnt_append]; omega)
        refine post _ ⟨rfl, rfl, rfl, k3, fun b hb => ?_, fun _ => Nat.le_add_right _ _⟩ (fun b o v hv => ?_) ⟨_, len, cap, rfl, hlen', e3, .inr ⟨gb, rfl, rfl, ⟨_, ty, _, k1, by simp [putCells, hs], (all2_flat hp _ _).2 rfl, fun j v hj => ?_⟩, hI, hO'⟩⟩
        · by_cases hb' : b = gb
          · subst hb'
            exact .inr (.inl ⟨cells, _, ty, (0, 0), hgc, k1, by simp [putCells], fun j hj => absurd (hX1 j) hj⟩)
          · exact .inl (k2 b hb hb')
        · have hb' : b ≠ gb := fun e => by subst e; rw [hI o] at hv; cases hv
          have hh := hW.holds b o v hv
          have hlt' := World.block_lt_of_cell? w _ hh
          have : (sortWorldK (encT e) e.cells w gb 0 n d' os).cell? ⟨b, o, none⟩ = w.cell? ⟨b, o, none⟩ := World.cell?_of_block (w := w) (k2 b hlt' hb')
          rw [this]; exact hh
        · have hjl : j < (isort (ltOf cf) xs).length * e.cells := by
            have := (List.getElem?_eq_some_iff.1 hj).1
            rwa [flatMap_len hp] at this
          obtain ⟨x, q1, q2⟩ := flatMap_get hp _ j hjl
          rw [q2] at hj
          have hds : d'.size = len := by rw [hperm.1]; exact hsz
          have hjd : j < d'.size * e.cells := by rw [hds, ← hlen']; exact hjl
          have hjc : j < cells.size := by
            rw [hs]
            exact Nat.lt_of_lt_of_le hjd (Nat.mul_le_mul_right _ (by omega))
          have hx : d'[j / e.cells]! = x := by
            rw [← hd'] at q1
            rw [Array.getElem!_eq_getD, Array.getD_eq_getD_getElem?]
            have : d'[j / e.cells]? = some x := by simpa using q1
            rw [this]; rfl
          have hm := (List.getElem?_eq_some_iff.1 hj)
          simp only [putCells, Array.getElem?_mapIdx, Array.getElem?_eq_getElem hjc, Option.map_some, size_flatK, Nat.zero_add, Nat.sub_zero]
          rw [if_pos ⟨Nat.zero_le _, hjd⟩, get_flatK _ _ _ _ hjd, hx, getElem!_pos (encT e x) (j % e.cells) hm.1]
          exact congrArg some hm.2
end Go.Proofs.YtggcagclpkhlhaaGreatDoor.Pal
end
noncomputable section
/- What slices.Insert and slices.Clone lean on: copies of rows, and what is given back. -/
namespace Go.Proofs.YtggcagclpkhlhaaGreatDoor
open Go.Shelf Go.RowKit Go.Lib
theorem run_copy_k {P:Program} (k:Nat) (w:World) (dT sT ty elem:TypeId) (b o dLen dCap:Nat) (a:Addr) (sLen sCap:Nat) (cs:List Value)
  (hu:P.underlying dT=some (.slice elem)) (hs:(P.info? elem).map (·.size)=some k) (cnt:Nat) (hm:Nat.min sLen dLen=cnt) (hn:cs.length=cnt * k)
  (hsrc:∀ (j:Nat) (v:Value),cs[j]? = some v→w.cell? (a.add j)=some v) (hc:∀ j,j<cs.length→(w.cell? ⟨b,o+j,none⟩).isSome=true) (hf:∀ j,j<cs.length→w.frozen? ⟨b,o+j,none⟩=false) (h1:∀ v ∈ cs,v.oneCell'=true) :
  (Builtin.copy_ #[dT,sT] ty #[.slice (some ⟨b,o,none⟩) dLen dCap,.slice (some a) sLen sCap]).run P w = .ok (goInt cnt) (w.setCells b o cs):=by
 subst hm
 have hl:=run_loadCells_list (P:=P) w a cs hsrc
 have hst:=run_storeCells_cells (P:=P) b o cs 0 w (by simpa using hc) (by simpa using hf) h1
 rw [hn] at hl
 cases hq:P.info? elem with
 | none=>simp [hq] at hs
 | some i =>
  have hi:i.size=k:=by simpa [hq] using hs
  simp [Builtin.copy_,run_underlying hu,Builtin.lenOf,Builtin.firstCells,sizeOf,typeInfo,hq,hi,hl,hst]
def okInfoK (k:Nat) (i:TypeInfo):Bool:=(match i.zero with | some z=>z.cells.size == k | none=>false) && i.size == k && Nat.ble i.bytes 16384
theorem okInfoK_spec {P:Program} {k t:Nat} (h:(P.info? t).map (okInfoK k)=some true):∃ i z,P.info? t=some i∧i.zero=some z∧i.size=k∧i.bytes≤16384∧z.cells.size=k:=by
 cases hq:P.info? t with
 | none=>rw [hq] at h;cases h
 | some i =>
  rw [hq] at h;injection h with h
  unfold okInfoK at h
  simp only [Bool.and_eq_true,beq_iff_eq] at h
  cases hz:i.zero with
  | none=>rw [hz] at h;cases h.1.1
  | some z=>rw [hz] at h;exact ⟨i,z,rfl,hz,h.1.2,Nat.le_of_ble_eq_true h.2,by simpa using h.1.1⟩
theorem overlaps_apart {P:Program} (w:World) (tS tR e:TypeId) (ht:P.underlying tS=some (.slice e)) (size:Nat) (hz:∀ w,(Go.sizeOf e).run P w = .ok size w)
  (a b:Addr) (la ca lb cb:Nat) (hne:a.block ≠ b.block) (tA tB:TypeId) (kA kB:Nat)
  (hsa:w.shape? a.block=some (tA,kA)) (hsb:w.shape? b.block=some (tB,kB)) (hkA:kA ≠ 0)
  (hfb:w.frozen? b=false) (hfe:w.frozen? { block:=b.block,off:=kB }=false) :
  (Extern.SlicesOverlaps.overlaps #[tS,tS] #[tR] #[.slice (some a) la ca,.slice (some b) lb cb]).run P w = .ok (.bool false) w:=by
 have hnb:(a.block != b.block)=true:=by simpa using hne
 have hnb':(a.block == b.block)=false:=by simpa using hne
 change Sem.run P (α:=Value) (do
  let some t := (#[tS, tS] : Array TypeId)[0]? | stuck "slices.overlaps: no parameter types"
  let .slice elem ← underlying t | stuck "slices.overlaps: slice type expected"
  let size ← sizeOf elem
  match (some a:Option Addr),(some b:Option Addr) with
  | some a,some b =>
   if la=0∨lb=0∨size=0 then pure (Value.bool false)
   else if a.block != b.block && (← frozen a) && (← frozen b) then unsupported .addressObserved
   else do
    if a.block != b.block then do
     noView a;noView b
     if ← mayBeOne a b then return Value.bool ((← choose (.extern "sameAddr.stringBytes" 2)) == 1)
    pure (Value.bool (a.block == b.block && a.off<b.off+lb * size && b.off<a.off+la * size))
  | _,_=>pure (Value.bool false)) w=_
 by_cases h0:la=0∨lb=0∨size=0
 ·simp [run_underlying ht,hz,h0]
 ·cases kA with
  | zero=>exact absurd rfl hkA
  | succ kA =>
   by_cases hf1:w.frozen? a=true <;> by_cases hf2:w.frozen? { block:=a.block,off:=kA+1 }=true <;>
    simp [run_underlying ht,hz,h0,hnb,hnb',frozen,noView,viewAt,mayBeOne,stringish,shape,Sem.run,hsa,hsb,hfb,hfe,hf1,hf2]
end Go.Proofs.YtggcagclpkhlhaaGreatDoor
namespace Go.Proofs.YtggcagclpkhlhaaGreatDoor.Pal
open Go Go.Sort
variable {P:Program}
theorem own_post {X:Nat→Nat→Prop} {G:Gh} {w w':World} {e:Ty} {zs:List e.D} {g cap:Nat} {cells:Array Value} {t:TypeId} {cc:List Value} {ax:Option Value} (hW:Wf G w) (hE:Evo X w w')
  (hk:∀ b,b<w.heap.size→b ≠ g→w'.heap[b]? = w.heap[b]?) (hg:w'.heap[g]? = some (.cells cells t (0,0))) (hs:cells.size=cap * e.cells) (hcap:zs.length≤cap∧cap≤9223372036854775807)
  (hA:All2 (DRep G.I e) zs cc) (hcc:∀ (j:Nat) (v:Value),cc[j]? = some v→w'.cell? ⟨g,j,none⟩=some v)
  (hI:∀ o,G.I g o=none) (hO:∀ o,G.O g o=none) (hX:w.heap.size≤g∨∀ o,X g o) :
  ∃ G',Post X G w 0 (.own e zs) [] (.slice (some ⟨g,0,none⟩) zs.length cap) ax G' w':=by
 have hcl:=hA.len
 have hold:∀ b o v,G.I b o=some v→w'.cell? ⟨b,o,none⟩=some v∧b ≠ g:=fun b o v hv=>by
  have hb':b ≠ g:=fun e=>by subst e;rw [hI o] at hv;cases hv
  have hh:=hW.holds b o v hv
  exact ⟨by rw [World.cell?_of_block (w:=w) (hk b (World.block_lt_of_cell? w _ hh) hb')];exact hh,hb'⟩
 let G':Gh:={ G with I:=fun b o=>if b=g then cc[o]? else G.I b o }
 have hI':∀ b o,b ≠ g→G'.I b o=G.I b o:=fun b o hb=>by show (if b=g then cc[o]? else G.I b o)=_;rw [if_neg hb]
 have hIg:∀ o,G'.I g o=cc[o]?:=fun o=>by show (if g=g then cc[o]? else _)=_;rw [if_pos rfl]
 refine ⟨G',⟨hE,fun b o v hv=>by rw [hI' b o (hold b o v hv).2];exact hv,fun b o v hv=>?_,fun _ _ _=>rfl⟩,⟨fun b o v hv=>?_,fun b o v hv=>?_,fun b o k h=>Nat.lt_of_lt_of_le (hW.lt b o k h) hE.size⟩,fun _ _=>rfl,[g],[],[],?_,rfl,rfl,fun q=>?_,fun q hq=>?_⟩
 ·by_cases hb:b=g
  ·subst hb;rcases hX with h | h
   ·exact .inr (.inl h)
   ·exact .inr (.inr (h o))
  ·rw [hI' b o hb] at hv;exact .inl hv
 ·by_cases hb:b=g
  ·subst hb;rw [hIg] at hv;exact hcc o v hv
  ·rw [hI' b o hb] at hv;exact (hold b o v hv).1
 ·by_cases hb:b=g
  ·subst hb;exact hO o
  ·rw [hI' b o hb] at hv;exact hW.io b o v hv
 ·have hat:AtI G'.I g 0 cc:=fun j v hj=>by rw [Nat.zero_add,hIg];exact hj
  refine ⟨_,⟨_,zs.length,cap,rfl,rfl,hcap,.inr ⟨g,rfl,rfl,?_,⟨cells,t,hg,hs⟩,fun o ho=>?_,hO⟩⟩,rfl⟩
  ·exact Elems.mono (Im.le_refl _) (fun x c h=>DRep.mono (fun b o v hv=>by rw [hI' b o (hold b o v hv).2];exact hv) e x c h) (All2.elems (fun x c=>DRep.length e x c) zs cc g 0 hA hat)
  ·rw [hIg,List.getElem?_eq_none (by rw [hcl];exact ho)]
 ·have:cnt q [g]≤1:=by simp only [cnt];exact List.count_le_length
  simpa using this
 ·have:q=g:=by simpa [cnt_pos.symm] using hq
  subst this;exact hX
theorem setCells_block (b:Nat):∀ (vs:List Value) (o:Nat) (w:World) (cells:Array Value) (t:TypeId) (fr:Nat × Nat),w.heap[b]? = some (.cells cells t fr)→∃ cells',(w.setCells b o vs).heap[b]? = some (.cells cells' t fr)∧cells'.size=cells.size
 | [],_,w,cells,t,fr,h=>⟨cells,h,rfl⟩
 | v::vs,o,w,cells,t,fr,h=>by
  have h1:(w.setCell ⟨b,o,none⟩ v).heap[b]? = some (.cells (cells.setIfInBounds o v) t fr):=by
   have hlt:=(Array.getElem?_eq_some_iff.1 h).1
   show (w.heap.modify b _)[b]? = _
   rw [Array.getElem?_modify,if_pos rfl,h];rfl
  obtain ⟨c',k1,k2⟩:=setCells_block b vs (o+1) _ _ _ _ h1
  exact ⟨c',k1,by rw [k2];simp⟩
theorem setCells_other (b:Nat):∀ (vs:List Value) (o:Nat) (w:World) (b':Nat),b' ≠ b→(w.setCells b o vs).heap[b']? = w.heap[b']?
 | [],_,_,_,_=>rfl
 | v::vs,o,w,b',h=>by
  show ((w.setCell ⟨b,o,none⟩ v).setCells b (o+1) vs).heap[b']? = _
  rw [setCells_other b vs (o+1) _ b' h]
  show (w.heap.modify b _)[b']? = _
  rw [Array.getElem?_modify,if_neg (by omega)]
theorem flatMap_take {e:Ty} (hp:plainT e=true):∀ (xs:List e.D) (i:Nat),i≤xs.length→(xs.take i).flatMap (encT e)=(xs.flatMap (encT e)).take (i * e.cells)
 | _,0,_=>by simp
 | [],i+1,h=>by simp at h
 | x::xs,i+1,h=>by
  have hl:=encT_len e hp x
  rw [List.take_succ_cons,List.flatMap_cons,List.flatMap_cons,flatMap_take hp xs i (by simpa using h),Nat.add_mul,Nat.one_mul,List.take_append,hl,List.take_of_length_le (l:=encT e x) (by omega),show i * e.cells+e.cells - e.cells=i * e.cells by omega]
theorem flatMap_drop {e:Ty} (hp:plainT e=true):∀ (xs:List e.D) (i:Nat),i≤xs.length→(xs.drop i).flatMap (encT e)=(xs.flatMap (encT e)).drop (i * e.cells)
 | _,0,_=>by simp
 | [],i+1,h=>by simp at h
 | x::xs,i+1,h=>by
  have hl:=encT_len e hp x
  rw [List.drop_succ_cons,List.flatMap_cons,flatMap_drop hp xs i (by simpa using h),Nat.add_mul,Nat.one_mul,List.drop_append,hl,List.drop_of_length_le (l:=encT e x) (by omega),show i * e.cells+e.cells - e.cells=i * e.cells by omega];rfl
theorem ins_get (cs vs:List Value) (k l:Nat) (hk:k≤cs.length) (hl:vs.length=l) (j:Nat) (v:Value) (h:(cs.take k++(vs++cs.drop k))[j]? = some v) :
  (j<k∧cs[j]? = some v)∨(k≤j∧j<k+l∧vs[j - k]? = some v)∨(k+l≤j∧(cs.drop k)[j - (k+l)]? = some v):=by
 have h1:(cs.take k).length=k:=by simp;omega
 rcases Nat.lt_or_ge j k with hj | hj
 ·rw [List.getElem?_append_left (by omega),List.getElem?_take,if_pos hj] at h
  exact .inl ⟨hj,h⟩
 ·rw [List.getElem?_append_right (by omega),h1] at h
  rcases Nat.lt_or_ge j (k+l) with hj2 | hj2
  ·rw [List.getElem?_append_left (by omega)] at h
   exact .inr (.inl ⟨hj,hj2,h⟩)
  ·rw [List.getElem?_append_right (by omega)] at h
   refine .inr (.inr ⟨hj2,?_⟩)
   rw [← h];congr 1;omega
theorem setCells_os (b:Nat):∀ (vs:List Value) (o:Nat) (w:World),(w.setCells b o vs).os=w.os
 | [],_,_=>rfl
 | v::vs,o,w=>setCells_os b vs (o+1) _
theorem setCells_tape (b:Nat):∀ (vs:List Value) (o:Nat) (w:World),(w.setCells b o vs).tape=w.tape
 | [],_,_=>rfl
 | v::vs,o,w=>setCells_tape b vs (o+1) _
theorem setCells_output (b:Nat):∀ (vs:List Value) (o:Nat) (w:World),(w.setCells b o vs).output=w.output
 | [],_,_=>rfl
 | v::vs,o,w=>setCells_output b vs (o+1) _
theorem setCells_drawn (b:Nat):∀ (vs:List Value) (o:Nat) (w:World),(w.setCells b o vs).drawn=w.drawn
 | [],_,_=>rfl
 | v::vs,o,w=>setCells_drawn b vs (o+1) _
theorem cell_in {W:World} {b o:Nat} {l:List Value} (hs:∀ j,j<l.length→(W.cell? ⟨b,o+j,none⟩).isSome=true) {j:Nat} {v:Value} (h1:o≤j) (h:l[j - o]? = some v):(W.setCells b o l).cell? ⟨b,j,none⟩=some v:=by
 have hj:=(List.getElem?_eq_some_iff.1 h)
 have:=World.cell?_setCells_in b l o W hs (j - o) hj.1
 rw [show o+(j - o)=j by omega] at this
 rw [this,← h,List.getElem?_eq_getElem hj.1]
theorem cell_out {W:World} {b o:Nat} {l:List Value} {j:Nat} (h1:j<o∨o+l.length≤j):(W.setCells b o l).cell? ⟨b,j,none⟩=W.cell? ⟨b,j,none⟩ :=
 World.cell?_setCells_out b l o W ⟨b,j,none⟩ (fun _ _=>h1)
theorem two_a {W:World} {b k l:Nat} {cs vs:List Value} (hk:k≤cs.length) (hl:vs.length=l) (hs:∀ j,j<cs.length+l→(W.cell? ⟨b,j,none⟩).isSome=true) (hp:∀ (j:Nat) (v:Value),j<k→cs[j]? = some v→W.cell? ⟨b,j,none⟩=some v)
  (j:Nat) (v:Value) (h:(cs.take k++(vs++cs.drop k))[j]? = some v):((W.setCells b (k+l) (cs.drop k)).setCells b k vs).cell? ⟨b,j,none⟩=some v:=by
 have hd:(cs.drop k).length=cs.length - k:=by simp
 rcases ins_get cs vs k l hk hl j v h with ⟨h1,h2⟩ | ⟨h1,h2,h3⟩ | ⟨h1,h2⟩
 ·rw [cell_out (by omega),cell_out (by omega)];exact hp j v h1 h2
 ·refine cell_in (fun t ht=>?_) h1 h3
  rw [cell_out (by omega)];exact hs _ (by omega)
 ·rw [cell_out (by omega)]
  exact cell_in (fun t ht=>hs _ (by omega)) h1 h2
theorem two_b {W:World} {b k l:Nat} {cs vs:List Value} (hk:k≤cs.length) (hl:vs.length=l) (hs:∀ j,j<cs.length+l→(W.cell? ⟨b,j,none⟩).isSome=true) (hp:∀ (j:Nat) (v:Value),j<k→cs[j]? = some v→W.cell? ⟨b,j,none⟩=some v)
  (j:Nat) (v:Value) (h:(cs.take k++(vs++cs.drop k))[j]? = some v):((W.setCells b k vs).setCells b (k+l) (cs.drop k)).cell? ⟨b,j,none⟩=some v:=by
 have hd:(cs.drop k).length=cs.length - k:=by simp
 rcases ins_get cs vs k l hk hl j v h with ⟨h1,h2⟩ | ⟨h1,h2,h3⟩ | ⟨h1,h2⟩
 ·rw [cell_out (by omega),cell_out (by omega)];exact hp j v h1 h2
 ·rw [cell_out (by omega)]
  exact cell_in (fun t ht=>hs _ (by omega)) h1 h3
 ·refine cell_in (fun t ht=>?_) h1 h2
  by_cases hh:k+l+t<k
  ·omega
  ·rw [cell_out (by omega)];exact hs _ (by omega)
theorem All2.split {α:Type} {R:α→List Value→Prop} {sz:Nat} (hl:∀ x c,R x c→c.length=sz):∀ (xs:List α) (cs:List Value) (i:Nat),i≤xs.length→All2 R xs cs→All2 R (xs.take i) (cs.take (i * sz))∧All2 R (xs.drop i) (cs.drop (i * sz))
 | xs,cs,0,_,h=>by simpa using ⟨(rfl:([]:List Value)=[]),h⟩
 | [],cs,i+1,hi,_=>by simp at hi
 | x::xs,cs,i+1,hi,⟨c1,c2,e,h1,h2⟩=>by
  have hc:=hl x c1 h1
  obtain ⟨a,b⟩:=All2.split hl xs c2 i (by simpa using hi) h2
  subst e
  have e1:(i+1) * sz=c1.length+i * sz:=by rw [Nat.add_mul,hc];omega
  rw [e1,List.take_succ_cons,List.drop_succ_cons]
  constructor
  ·refine ⟨c1,c2.take (i * sz),?_,h1,a⟩
   rw [List.take_append,List.take_of_length_le (l:=c1) (by omega),Nat.add_sub_cancel_left]
  ·rw [List.drop_append,List.drop_of_length_le (l:=c1) (by omega),Nat.add_sub_cancel_left];exact b
theorem all2_plain {I:Im} {e:Ty}:∀ (xs:List e.D) (cs:List Value),All2 (DRep I e) xs cs→∀ v ∈ cs,v.oneCell'=true
 | [],cs,h,v,hv=>by have h:cs=[]:=h;subst h;simp at hv
 | x::xs,cs,⟨c1,c2,e1,h1,h2⟩,v,hv=>by
  subst e1
  rcases List.mem_append.1 hv with hv | hv
  ·exact oneCell_of_plain (DRep.plain e x c1 h1 v hv)
  ·exact all2_plain xs c2 h2 v hv
end Go.Proofs.YtggcagclpkhlhaaGreatDoor.Pal
end
