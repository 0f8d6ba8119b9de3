/- The framework: an abstract run of the code over typed data, and that the machine does as it says. Part 2. -/
import Derived.Test.YtfhcammihohmjaaGreatDoorFw1
set_option linter.unusedVariables false
set_option linter.unusedSimpArgs false
set_option linter.unusedSectionVars false
noncomputable section
/- What operations give that turn no memory. -/
namespace Go.Proofs.YtfhcammihohmjaaGreatDoor.Pal
open Go
variable [MonoC]
variable {P:Program} {X Y:Nat→Nat→Prop} {G0 G G':Gh} {w0 w w':World} {s:St} {a:Act} {c:Cx}

def zt (G:Gh) (w:World) (a:Act) (ρ:Option Ty→Operand→Option V):Prop:=∀ e x v,ρ e x=some v→aY G w v (a.eval x) []
theorem RS.reads (hR:RS X G0 w0 G s a.tmps w):zt G w a (fun e x=>nl e s x):=fun _ _ _ h=>ga hR h
theorem nU {ρ:Option Ty→Operand→Option V} (hρ:zt G w a ρ):∀ (l:List Operand) (vs:List V),uf ρ l=some vs→∀ xs:List Value,l.map a.eval=xs→vs.length=xs.length∧∀ (i:Nat) (v:V) (x:Value),vs[i]? = some v→xs[i]? = some x→aY G w v x []
 | [],vs,h,xs,e=>by
  simp only [uf,Option.some.injEq] at h;subst h;subst e
  exact ⟨rfl,fun i v x h=>by simp at h⟩
 | o::r,vs,h,xs,e=>by
  simp only [uf,Option.bind_eq_some_iff,Option.some.injEq] at h
  obtain ⟨v,hv,vs',hvs,rfl⟩:=h
  subst e
  obtain ⟨h1,h2⟩:=nU hρ r vs' hvs _ rfl
  refine ⟨by simp [h1],fun i u x hi hx=>?_⟩
  cases i with
  | zero =>
   simp only [List.getElem?_cons_zero,Option.some.injEq,List.map_cons] at hi hx
   subst hi;subst hx;exact hρ _ _ _ hv
  | succ i=>exact h2 i u x (by simpa using hi) (by simpa using hx)
theorem pD:∀ (vs:List V) (xs:List Value) (l:List (Nat × List Step)),vs.length=xs.length→(∀ (i:Nat) (v:V) (x:Value),vs[i]? = some v→xs[i]? = some x→aY G w v x []) →
  (vs.foldr (fun v acc=>acc.bind fun l=>match v with | .ref k p=>some ((k,p)::l) | _=>none) (some []):Option (List (Nat × List Step)))=some l→dB G l xs
 | [],[],l,_,_,h=>by simp only [List.foldr_nil,Option.some.injEq] at h;subst h;rfl
 | [],_::_,_,h,_,_=>by simp at h
 | _::_,[],_,h,_,_=>by simp at h
 | v::vs,x::xs,l,hl,hv,h=>by
  simp only [List.foldr_cons,Option.bind_eq_some_iff] at h
  obtain ⟨l',h1,h2⟩:=h
  cases v with
  | ref k p =>
   simp only [Option.some.injEq] at h2;subst h2
   have h0:=(hv 0 _ _ rfl rfl).ref_
   exact ⟨x,xs,rfl,h0.1,h0.2,pD vs xs l' (by simpa using hl) (fun i u y hi hy=>hv (i+1) u y (by simpa using hi) (by simpa using hy)) h1⟩
  | _=>simp at h2
theorem Ek {k k':IntKind} {m n:Int} (h:k=k') {t ty:_}:(Builtin.max_ t ty #[.int k m,.int k' n]).run P w = .ok (.int k (jk m n)) w:=by
 subst h
 simp [Builtin.max_,Builtin.max2,jk]
theorem DS {k k':IntKind} {m n:Int} (h:k=k') {t ty:_}:(Builtin.min_ t ty #[.int k m,.int k' n]).run P w = .ok (.int k (nI m n)) w:=by
 subst h
 simp [Builtin.min_,Builtin.min2,nI]
theorem wx {v:V} (h:d7 v=true):v.cells=0:=by
 cases v with
 | dat τ x=>cases τ <;> first | rfl | (cases h)
 | vec _ _ _=>rfl
 | gone=>rfl
 | _=>cases h
theorem xO {v:V} (h:cZ v=false):d7 v=false:=by
 cases v with
 | dat τ x=>cases τ <;> first | rfl | (cases h)
 | vec _ _ _=>cases h
 | gone=>cases h
 | _=>rfl
theorem At {v:V} (h:v.agg=false) (hm:d7 v=false):v.cells=1:=by
 cases v with
 | dat τ x=>cases τ <;> first | rfl | (simp [V.agg,Ty.agg] at h;done) | (cases hm)
 | pr a b=>simp [V.agg] at h
 | vec _ _ _=>cases hm
 | gone=>cases hm
 | _=>rfl
theorem b8.one {v:V} {cs:List Value} {ts:List Nat} (h:b8 G w v cs ts) (hag:v.agg=false) (hm:d7 v=false):∃ x,cs=[x]:=by
 have h1:=b8.length v cs ts h
 rw [At hag hm] at h1
 exact List.length_eq_one_iff.1 h1
theorem Dd (hT:TT P c) {t:Nat} {ly:Nat × Bool} (h:c.lay t=some ly):0<ly.1:=by
 unfold Cx.lay at h
 split at h
 ·rename_i ti hl
  injection h with h;subst h
  exact (dI (hT.ti hl).1).pos
 ·cases hp:bn t c.ptrs with
  | false=>simp [hp] at h
  | true=>simp only [hp,cond_true,Option.some.injEq] at h;subst h;exact Nat.zero_lt_one
theorem ni (hT:TT P c) {t:Nat} {ly:Nat × Bool} {b o:Nat} {u:V} {cs:List Value} {ts:List Nat} (hl:c.lay t=some ly) (hu:b8 G w u cs ts) (hc:fm w b o cs) (h1:ly.1=u.cells) (h2:ly.2=u.agg) :
  ∃ x,(Instr.loadAt t (.pointer (some ⟨b,o,none⟩))).run P w = .ok x w∧(if u.agg then x = .agg cs.toArray else cs=[x]):=by
 obtain ⟨g1,g2⟩:=hT.lay hl w
 have hlen:=b8.length u cs ts hu
 cases hag:u.agg with
 | true =>
  refine ⟨.agg cs.toArray,ql (agg:=true) (by rw [g2,h2,hag]) (by rw [g1,h1,hlen]) hc (by simp),by simp⟩
 | false =>
  have:∃ x,cs=[x]:=by
   have hm:d7 u=false:=by
    cases hb:d7 u with
    | false=>rfl
    | true=>have:=wx hb;have:=Dd hT hl;omega
   have h3:=b8.one hu hag hm
   exact h3
  obtain ⟨x,rfl⟩:=this
  exact ⟨x,ql (agg:=false) (by rw [g2,h2,hag]) (by rw [g1,h1,hlen]) hc (by simp),by simp⟩
theorem kj {α:Type} {b:Bool} {x y:Option α} {r:α} (h:br b x y=some r):(b=true∧x=some r)∨(b=false∧y=some r):=lL h
theorem ap {α:Type} {b:Bool} {x:Option α} {r:α} (h:(bif b then x else none)=some r):b=true∧x=some r:=by
 cases b with
 | true=>exact ⟨rfl,h⟩
 | false=>cases h
theorem Bc {e:Ty} {v:V} {xs:List e.D} {n:Int} (h:V.as (.slc e) v=some xs) (hn:na v=some n):n=af xs:=by
 cases v with
 | dat τ y =>
  simp only [V.as] at h
  split at h
  ·rename_i he;subst he
   injection h with h;subst h
   simpa [na] using hn.symm
  ·cases h
 | view _ _ _ _ _ _=>simp [V.as] at h
 | vref _ _ _=>simp [V.as] at h
 | _=>simp [na] at hn
theorem C5 {v:V} {xs:List UInt8} {n:Int} (h:V.as .str v=some xs) (hn:na v=some n):n=af xs:=by
 cases v with
 | dat τ y =>
  simp only [V.as] at h
  split at h
  ·rename_i he;subst he
   injection h with h;subst h
   simpa [na] using hn.symm
  ·cases h
 | view _ _ _ _ _ _=>simp [V.as] at h
 | vref _ _ _=>simp [V.as] at h
 | _=>simp [na] at hn
theorem eV.str {xs:List UInt8} {x:Value} (h:eV G.I .str xs x):x = .string ⟨xs.toArray⟩:=(h.trep (w:=default)).dat_str
theorem fM {v:V} {cs:List Value} {ts:List Nat} {x:Value} (h:b8 G w v cs ts) (hx:dC v.agg cs x):aY G w v x ts:=by
 refine ⟨cs,h,?_⟩
 unfold dC at hx
 split at hx
 ·rename_i e;rw [if_pos e];exact hx
 ·rename_i e;rw [if_neg e];exact hx.1
theorem B3 {va vb:V} {x y:Value} {ca cb:List Value} (h1:b8 G w va ca []) (h2:dC va.agg ca x) (h3:b8 G w vb cb []) (h4:dC vb.agg cb y):aY G w (.tup2 va vb) (.tuple #[x,y]) [] :=
 ⟨_,⟨x,y,ca,cb,[],[],rfl,rfl,h1,h2,h3,h4⟩,rfl⟩
theorem bF {g:Nat} {cells:Array Value} {t:TypeId} {fr:Nat × Nat} (h:w.heap[g]? = some (.cells cells t fr)) (o:Nat):w.cell? ⟨g,o,none⟩=cells[o]?:=by
 simp only [World.cell?,h];simp
theorem tG {k:Nat} {e:Ty} {xs:List e.D} {cs:List Value} {ts:List Nat} (h:b8 G w (.vec k e xs) cs ts) (hx:xs ≠ []) :
  ∃ g len cap,G.ρ k=(g,0)∧ts=[g]∧cs=[]∧xs.length=len∧(len≤cap∧cap≤9223372036854775807)∧Cf G.I w g e xs (cap * e.cells)∧(∀ o,G.I g o=none)∧∀ o,G.O g o=none:=by
 obtain ⟨h1,a,len,cap,⟨a',len',cap',h2,h3,h4,h5⟩,h6⟩:=h
 simp only [List.cons.injEq,Value.slice.injEq,and_true] at h2
 obtain ⟨rfl,rfl,rfl⟩:=h2
 rcases h5 with ⟨h5,_⟩ | ⟨g,h5,h7,h8,h9,h10⟩
 ·exact absurd (List.length_eq_zero_iff.1 (by omega)) hx
 ·rcases h6 with h6 | ⟨h6,h11⟩
  ·exact absurd h6 hx
  ·rw [h5] at h6
   injection h6 with h6;injection h6 with h6
   exact ⟨g,len,cap,Prod.ext h6.symm h11,h7,h1,h3,h4,h8,h9,h10⟩
theorem CS {α:Type} {m:List (Nat × V)} {tM:List Nat} {k:Nat} {v:V} {p:List Step} {K:V→Option α} {r:α} (hM:aM G w m tM) (hv:lk m k=some v) (hp:cM p) (h:CO k v p K=some r) :
  ∃ u cu tu,K u=some r∧b8 G w u cu tu∧fm w (G.ρ k).1 ((G.ρ k).2+cn p) cu:=by
 obtain ⟨t1,t2,cs,_,hv1,hc,_,_⟩:=aM.find k m tM v hM hv
 have gen:(v.get p).bind K=some r→∃ u cu tu,K u=some r∧b8 G w u cu tu∧fm w (G.ρ k).1 ((G.ρ k).2+cn p) cu:=by
  intro h
  obtain ⟨u,hu,h⟩:=Option.bind_eq_some_iff.1 h
  obtain ⟨c1,cu,c2,tu,e1,e2,_,hu1⟩:=gC p v u cs t1 hv1 hu hp
  refine ⟨u,cu,tu,h,hu1,fun j y hj=>?_⟩
  have:=hc (cn p+j) y (by rw [e1,List.getElem?_append_right (by omega),List.getElem?_append_left (by have:=(List.getElem?_eq_some_iff.1 hj).1;omega)];rw [← hj];congr 1;omega)
  rwa [← Nat.add_assoc] at this
 cases v with
 | vec k' e xs =>
  cases p with
  | nil=>cases h
  | cons st q =>
   cases st with
   | l=>cases h
   | r o=>cases h
   | ix _ _ _=>cases h
   | el sz i =>
   replace h:(bif Nat.beq k' k && Nat.beq e.cells sz then br (bO i xs) (((V.dat e (rd e xs (aj i))).get q).bind K) none else none)=some r:=h
   obtain ⟨hb,h2⟩:=ap h
   clear h
   simp only [Bool.and_eq_true] at hb
   have hk:=aS.1 hb.1
   have hs:=aS.1 hb.2
   subst hk
   obtain ⟨hi,h⟩:=cw h2
   obtain ⟨i1,i2,i3⟩:=mY hi
   obtain ⟨u,hu,h⟩:=Option.bind_eq_some_iff.1 h
   obtain ⟨g,len,cap,g1,_,_,_,_,⟨cells,t,cc,g2,g3,g4,g5⟩,_,_⟩:=tG hv1 (fun e=>by subst e;simp at i3)
   obtain ⟨c1,c,c2,e1,hl1,hr,_⟩:=bC.at_ e.zero (fun x c=>aR.length e x c) xs cc i.toNat g4 i3
   obtain ⟨d1,cu,d2,tu,e3,hl3,_,hu1⟩:=gC q (.dat e (rd e xs (aj i))) u c [] ⟨hr,rfl⟩ hu hp
   refine ⟨u,cu,tu,h,hu1,fun j y hj=>?_⟩
   rw [g1]
   show w.cell? ⟨g,0+(i.toNat * sz+cn q)+j,none⟩=some y
   rw [bF g2,Nat.zero_add]
   refine g5 _ _ ?_
   have hjl:=(List.getElem?_eq_some_iff.1 hj).1
   rw [e1,e3,List.append_assoc,List.append_assoc]
   rw [List.getElem?_append_right (by rw [hl1,hs];omega),List.getElem?_append_right (by rw [hl1,hs,hl3];omega),List.getElem?_append_left (by rw [hl1,hs,hl3];omega),← hj]
   congr 1;rw [hl1,hs,hl3];omega
 | _=>exact gen h
theorem CF {n l:Int} (h:FW n l=true):0≤n∧n<((l.toNat:Nat):Int)∧l ≠ 0:=by
 simp only [FW,Bool.and_eq_true,decide_eq_true_eq] at h
 omega
theorem Eh {l h n:Int} {m:Nat} (b1:0≤l) (b2:l≤h) (b3:h≤(m:Int)) (hb:FW n (Df h l)=true):0≤n∧n<((h.toNat - l.toNat:Nat):Int)∧¬ m=l.toNat∧aj (Ah l n)<m∧aj (Ah l n)=l.toNat+n.toNat:=by
 have hb':(decide (0≤n) && decide (n<h - l))=true:=hb
 rw [Bool.and_eq_true,decide_eq_true_eq,decide_eq_true_eq] at hb'
 obtain ⟨h1,h2⟩:=hb'
 have e:aj (Ah l n)=(l+n).toNat:=rfl
 rw [e]
 refine ⟨h1,?_,?_,?_,?_⟩ <;> omega
theorem E6 {k:Nat} {p:List Step} {q:Nat} {e:Ty} {l hh:Int} (h2:cM p) (b1:0≤l) (b2:l≤hh) (b3:hh≤(q:Int)) :
  aY G w (.view k p q e l hh) (.slice (some (if q=l.toNat then G.addr k p else G.addr k (p++[.ix q e.cells l.toNat]))) (hh.toNat - l.toNat) (q - l.toNat)) [] :=
 ⟨_,⟨rfl,h2,⟨b1,b2,b3⟩,rfl⟩,rfl⟩
theorem mb {α:Type} (hT:TT P c) {ρ:Option Ty→Operand→Option V} {m:List (Nat × V)} {tM:List Nat} {o:Oper} {K:V→Option α} {r:α} (hW:Wf G w) (hρ:zt G w a ρ) (hM:aM G w m tM) (h:ge c o ρ m K=some r) :
  ∃ v x,(execOp a.eval o).run P w = .ok (.value x) w∧aY G w v x []∧K v=some r:=by
 obtain ⟨dst,op,ty,pos,after,guard⟩:=o
 unfold ge at h
 split at h
 ·rename_i x hop
  simp only at hop;subst hop
  simp only [Option.bind_eq_some_iff] at h
  obtain ⟨v,hv,h⟩:=h
  exact ⟨v,a.eval x,rfl,hρ _ _ _ hv,h⟩
 ·rename_i x hop
  simp only at hop;subst hop
  simp only [Option.bind_eq_some_iff] at h
  obtain ⟨v,hv,h⟩:=h
  exact ⟨v,a.eval x,rfl,hρ _ _ _ hv,h⟩
 ·rename_i p x y hop
  simp only at hop;subst hop
  simp only [Option.bind_eq_some_iff] at h
  obtain ⟨pv,hp,h⟩:=h
  split at h
  ·rename_i b
   have hb:=(hρ _ _ _ hp).dat_bool
   rcases kj h with ⟨rfl,h⟩ | ⟨rfl,h⟩
   ·obtain ⟨v,hv,h⟩:=Option.bind_eq_some_iff.1 h
    exact ⟨v,a.eval x,by simp [execOp,hb,asBool],hρ _ _ _ hv,h⟩
   ·obtain ⟨v,hv,h⟩:=Option.bind_eq_some_iff.1 h
    exact ⟨v,a.eval y,by simp [execOp,hb,asBool],hρ _ _ _ hv,h⟩
  ·cases h
 ·rename_i t parts hop
  simp only at hop;subst hop
  simp only [Option.bind_eq_some_iff] at h
  obtain ⟨ti,hti,h⟩:=h
  obtain ⟨hag,h⟩:=ap h
  simp only [Option.bind_eq_some_iff] at h
  obtain ⟨ps,hps,v,hv,h⟩:=h
  obtain ⟨x,hx,hr⟩:=A7 (parts:=parts.map fun p=>(p.1,a.eval p.2)) hT hti hag (by simpa using lW hρ _ _ hps) hv
  exact ⟨v,x,gA hx,hr,h⟩
 ·rename_i t ad hop
  simp only at hop;subst hop
  simp only [Option.bind_eq_some_iff] at h
  obtain ⟨ly,hly,av,hav,h⟩:=h
  split at h
  ·rename_i k p
   simp only [Option.bind_eq_some_iff] at h
   obtain ⟨v,hv,h⟩:=h
   obtain ⟨hp1,hp2⟩:=(hρ _ _ _ hav).ref_
   obtain ⟨u,cu,tu,h,hu1,hcu⟩:=CS hM hv hp2 h
   obtain ⟨hb,h⟩:=ap h
   simp only [Bool.and_eq_true] at hb
   obtain ⟨x,hx,hxu⟩:=ni (P:=P) hT hly hu1 hcu (aS.1 hb.1) (by simpa using hb.2)
   refine ⟨u.copy,x,?_,⟨cu,hu1.copy u cu tu,by rw [iC];exact hxu⟩,h⟩
   simp only [execOp,hp1,Gh.addr]
   exact gA hx
  ·rename_i τ y
   obtain ⟨hb,h⟩:=ap h
   simp only [Bool.and_eq_true] at hb
   obtain ⟨b,o,cc,e1,e2,e3⟩:=(hρ _ _ _ hav).ip_
   have hu1:b8 G w (.dat τ y) cc []:=⟨e2,rfl⟩
   obtain ⟨x,hx,hxu⟩:=ni (P:=P) hT hly hu1 (fun j z hj=>hW.holds _ _ _ (e3 j z hj)) (aS.1 hb.1) (by show ly.2=τ.agg;simpa using hb.2)
   refine ⟨.dat τ y,x,?_,⟨cc,hu1,hxu⟩,h⟩
   simp only [execOp,e1]
   exact gA hx
  ·cases h
 ·rename_i x hop
  simp only at hop;subst hop
  simp only [Option.bind_eq_some_iff] at h
  obtain ⟨v,hv,h⟩:=h
  have hr:=hρ _ _ _ hv
  split at h
  ·exact ⟨_,a.eval x,by simp only [execOp,hr.ref_.1];rfl,hr,h⟩
  ·obtain ⟨cs,⟨vs,e1,_,_⟩,e2⟩:=hr
   simp only [V.agg,Bool.false_eq_true,if_false] at e2
   rw [e1] at e2
   simp only [List.cons.injEq,and_true] at e2
   exact ⟨_,a.eval x,by simp only [execOp,← e2];rfl,hρ _ _ _ hv,h⟩
  ·obtain ⟨b,o,cc,e1,_⟩:=hr.ip_
   exact ⟨_,a.eval x,by simp only [execOp,e1];rfl,hr,h⟩
  ·cases h
 ·rename_i op t x y _ hop
  simp only at hop;subst hop
  simp only [Option.bind_eq_some_iff] at h
  obtain ⟨v,hv,u,hu,h⟩:=h
  obtain ⟨hb,h⟩:=ap h
  obtain ⟨v',x',h1,h2,h3⟩:=Am hT (ox:=x) (oy:=y) (hρ _ _ _ hv) (hρ _ _ _ hu) hb h
  exact ⟨v',x',gA h1,h2,h3⟩
 ·rename_i op t x hop
  simp only at hop;subst hop
  simp only [Option.bind_eq_some_iff] at h
  obtain ⟨v,hv,h⟩:=h
  split at h
  ·rename_i b
   exact ⟨_,.bool (ai b),by simp only [execOp,(hρ _ _ _ hv).dat_bool];rfl,aY.bool _,h⟩
  ·rename_i k n
   refine ⟨_,.int k (bw k 0 n),?_,aY.int _ _,h⟩
   simp only [execOp,(hρ _ _ _ hv).dat_int]
   refine gA ?_
   simp [Op.unary,Op.intArith,bw]
  ·rename_i k n
   obtain ⟨hk,h⟩:=ap h
   have hk2:k = .u32:=by cases k <;> first | rfl | (exfalso;revert hk;decide)
   subst hk2
   refine ⟨_,.int .u32 (fP .u32 4294967295 n),?_,aY.int _ _,h⟩
   simp only [execOp,(hρ _ _ _ hv).dat_int]
   refine gA ?_
   rfl
  ·cases h
 ·rename_i q t x hop
  simp only at hop;subst hop
  simp only [Option.bind_eq_some_iff] at h
  obtain ⟨σ,hσ,v,hv,τ,hτ,h⟩:=h
  split at h
  ·rename_i k0 k k1 n
   exact ⟨_,.int k (bj k n),by
    simp only [execOp,(hρ _ _ _ hv).dat_int]
    exact gA (uP ⟨_,jG (hT.ty hσ).1⟩ (jG (hT.ty hτ).1)),aY.int _ _,h⟩
  ·rename_i b
   exact ⟨_,.string ⟨b.toArray⟩,by
    simp only [execOp,(hρ _ _ _ hv).dat_str]
    exact gA (tY (hD (hT.ty hσ).1) (hD (hT.ty hτ).1)),aY.str _,h⟩
  ·cases h
 ·rename_i t x lo hi mx hop
  simp only at hop;subst hop
  simp only [Option.bind_eq_some_iff] at h
  obtain ⟨τ,hτ,v,hv,lov,hlov,hiv,hhiv,h⟩:=h
  have hlo:∀ k l,lov = .dat (.int k) l→(lo.map a.eval=none∧l=0)∨lo.map a.eval=some (.int k l):=by
   intro k l e
   subst e
   cases lo with
   | none =>
    simp only [Option.some.injEq,V.dat.injEq] at hlov
    obtain ⟨e1,e2⟩:=hlov
    injection e1 with e1;subst e1
    exact .inl ⟨rfl,(eq_of_heq e2).symm⟩
   | some y=>exact .inr (by simp [(hρ _ _ _ hlov).dat_int])
  split at h
  ·rename_i e k1 l k2 hh
   simp only [Option.bind_eq_some_iff] at h
   obtain ⟨xs,hxs,h⟩:=h
   obtain ⟨hb,h⟩:=cw h
   obtain ⟨E,m',hu,hE⟩:=dW (hT.ty hτ).1
   have hd:=aY.as_ hxs (hρ _ _ _ hv)
   have hhi:(hi.map a.eval=none∧hh=af xs)∨hi.map a.eval=some (.int k2 hh):=by
    cases hi with
    | none =>
     simp only [Option.map_eq_some_iff] at hhiv
     obtain ⟨n,hn,e1⟩:=hhiv
     simp only [V.dat.injEq] at e1
     obtain ⟨e1,e2⟩:=e1
     injection e1 with e1;subst e1
     refine .inl ⟨rfl,?_⟩
     exact (eq_of_heq e2).symm.trans (Bc hxs (by simpa [EI] using hn))
    | some y=>exact .inr (by simp [(hρ _ _ _ hhiv).dat_int])
   obtain ⟨x',h1,h2⟩:=tp (P:=P) (G:=G) (w:=w) hu hE hd (hlo _ _ rfl) hhi hb
   exact ⟨_,x',gA h1,h2,h⟩
  ·rename_i k1 l k2 hh
   simp only [Option.bind_eq_some_iff] at h
   obtain ⟨xs,hxs,h⟩:=h
   obtain ⟨hb,h⟩:=cw h
   have hu:=hD (hT.ty hτ).1
   have hd:=(aY.as_ hxs (hρ _ _ _ hv)).str
   have hhi:(hi.map a.eval=none∧hh=af xs)∨hi.map a.eval=some (.int k2 hh):=by
    cases hi with
    | none =>
     simp only [Option.map_eq_some_iff] at hhiv
     obtain ⟨n,hn,e1⟩:=hhiv
     simp only [V.dat.injEq] at e1
     obtain ⟨e1,e2⟩:=e1
     injection e1 with e1;subst e1
     refine .inl ⟨rfl,?_⟩
     exact (eq_of_heq e2).symm.trans (C5 hxs (by simpa [EI] using hn))
    | some y=>exact .inr (by simp [(hρ _ _ _ hhiv).dat_int])
   exact ⟨_,.string ⟨(ba xs l hh).toArray⟩,by
    simp only [execOp,hd]
    exact gA (te hu (hlo _ _ rfl) hhi hb),aY.str _,h⟩
  ·rename_i q e k1 l k2 hh
   split at h
   ·rename_i kk p
    obtain ⟨hb,h⟩:=cw h
    obtain ⟨E,m',hu,hE⟩:=gY (hT.ty hτ).1
    obtain ⟨hp1,hp2⟩:=(hρ _ _ _ hv).ref_
    have hhi:(hi.map a.eval=none∧hh=(q:Int))∨hi.map a.eval=some (.int k2 hh):=by
     cases hi with
     | none =>
      simp only [Option.map_eq_some_iff] at hhiv
      obtain ⟨n,hn,e1⟩:=hhiv
      simp only [V.dat.injEq] at e1
      obtain ⟨e1,e2⟩:=e1
      injection e1 with e1;subst e1
      simp only [EI,Option.some.injEq] at hn
      exact .inl ⟨rfl,(eq_of_heq e2).symm.trans hn.symm⟩
     | some y=>exact .inr (by simp [(hρ _ _ _ hhiv).dat_int])
    obtain ⟨b1,b2,b3⟩:=km hb
    have hbr:=lM (P:=P) (w:=w) (isSlice:=false) (len:=q) (cap:=q) (hlo _ _ rfl) hhi (Nat.le_refl _) hb
    refine ⟨_,.slice (some (if q=l.toNat then G.addr kk p else G.addr kk (p++[.ix q e.cells l.toNat]))) (hh.toNat - l.toNat) (q - l.toNat),?_,E6 hp2 b1 b2 b3,h⟩
    simp only [execOp,hp1]
    refine gA ?_
    simp only [Instr.sliceAt,Sem.run_bind,run_underlying hu,Result.andThen_ok,Instr.sureAddr,Sem.run_pure,Option.map_none,hbr,(dI hE).sizeOf,Gh.addr,dE,cn,Nat.add_zero,dR,Nat.add_assoc]
   ·cases h
  ·cases h
 ·rename_i t x f hop
  simp only at hop;subst hop
  simp only [Option.bind_eq_some_iff] at h
  obtain ⟨ti,hti,h⟩:=h
  obtain ⟨hf,h⟩:=ap h
  simp only [Option.bind_eq_some_iff] at h
  obtain ⟨v,hv,h⟩:=h
  obtain ⟨fs,g,hu,hg,hoff,hpo,z,hz,h0⟩:=vl hT hti hf
  split at h
  ·rename_i k p
   obtain ⟨hp1,hp2⟩:=(hρ _ _ _ hv).ref_
   refine ⟨_,.pointer (some (G.addr k (p++ff ti.ty ti.nf f))),?_,aY.ref_mk (dF _ _ hp2 hpo),h⟩
   simp only [execOp,hp1,Gh.addr,dE,← hoff,← Nat.add_assoc]
   exact gA (o5 hu hg hz h0)
  ·rename_i τ y
   simp only [Option.bind_eq_some_iff] at h
   obtain ⟨u,hu',h⟩:=h
   obtain ⟨b,o,cc,e1,e2,e3⟩:=(hρ _ _ _ hv).ip_
   obtain ⟨c1,cu,c2,tu,e4,e5,_,hu1⟩:=gC (G:=G) (w:=w) _ (.dat τ y) u cc [] ⟨e2,rfl⟩ hu' hpo
   split at h
   ·rename_i τ' y'
    refine ⟨_,.pointer (some ⟨b,o+g.offset,none⟩),?_,aY.ip_mk hu1.1 (fun j z hj=>?_),h⟩
    ·simp only [execOp,e1]
     exact gA (o5 hu hg hz h0)
    ·have:=e3 (g.offset+j) z (by rw [e4,hoff,← e5,List.getElem?_append_right (by omega),List.getElem?_append_left (by have:=(List.getElem?_eq_some_iff.1 hj).1;omega)];rw [← hj];congr 1;omega)
     rwa [← Nat.add_assoc] at this
   ·cases h
  ·cases h
 ·rename_i t x i hop
  simp only at hop;subst hop
  simp only [Option.bind_eq_some_iff] at h
  obtain ⟨τ,hτ,v,hv,iv,hiv,h⟩:=h
  split at h
  ·rename_i e k n
   split at h
   ·rename_i kk p m e' l hh
    obtain ⟨hce,h⟩:=ap h
    have hce:=aS.1 hce
    obtain ⟨hb,h⟩:=cw h
    obtain ⟨E,m',hu,hE⟩:=dW (hT.ty hτ).1
    obtain ⟨cs,⟨q1,q2,⟨b1,b2,b3⟩,q4⟩,q5⟩:=hρ _ _ _ hv
    simp only [V.agg,Bool.false_eq_true,if_false] at q5
    rw [q1] at q5
    simp only [List.cons.injEq,and_true] at q5
    obtain ⟨v1,v2,v3,v4,v5⟩:=Eh b1 b2 b3 hb
    rw [if_neg v3] at q5
    refine ⟨_,.pointer (some (G.addr kk (p++[.ix m e.cells (aj (Ah l n))]))),?_,aY.ref_mk (dF _ _ q2 (show cM [.ix m e.cells (aj (Ah l n))] from ⟨v4,trivial⟩)),h⟩
    simp only [execOp,(hρ _ _ _ hiv).dat_int,← q5]
    refine gA ?_
    simp only [Instr.indexAt,asIntOf,Sem.run_bind,Sem.run_pure,Result.andThen_ok,run_underlying hu]
    rw [if_pos ⟨v1,v2⟩]
    simp only [Sem.run_bind,(dI hE).sizeOf,Result.andThen_ok,Sem.run_pure,dR,Gh.addr,dE,cn,Nat.add_zero,v5,hce,Nat.add_mul,Nat.add_assoc]
   ·rename_i kk e' l
    obtain ⟨hce,h⟩:=ap h
    have hce:=aS.1 hce
    obtain ⟨hb,h⟩:=cw h
    obtain ⟨E,m',hu,hE⟩:=dW (hT.ty hτ).1
    obtain ⟨cs,⟨⟨ad,cap,q1,⟨b1,b2⟩,b3⟩,q4⟩,q5⟩:=hρ _ _ _ hv
    simp only [V.agg,Bool.false_eq_true,if_false] at q5
    rw [q1] at q5
    simp only [List.cons.injEq,and_true] at q5
    obtain ⟨n1,n2,hl⟩:=CF hb
    have b3:=b3.resolve_left hl
    subst b3
    refine ⟨_,.pointer (some (G.addr kk [.el e.cells n])),?_,aY.ref_mk (show cM [.el e.cells n] from trivial),h⟩
    simp only [execOp,(hρ _ _ _ hiv).dat_int,← q5]
    refine gA ?_
    simp only [Instr.indexAt,asIntOf,Sem.run_bind,Sem.run_pure,Result.andThen_ok,run_underlying hu]
    rw [if_pos ⟨n1,n2⟩]
    simp only [Sem.run_bind,(dI hE).sizeOf,Result.andThen_ok,Sem.run_pure,dR,Gh.addr,cn,Nat.add_zero]
   ·simp only [Option.bind_eq_some_iff] at h
    obtain ⟨xs,hxs,h⟩:=h
    obtain ⟨hb,h⟩:=cw h
    obtain ⟨E,m',hu,hE⟩:=dW (hT.ty hτ).1
    obtain ⟨x',h1,h2⟩:=pL (P:=P) (w:=w) (k:=k) hu hE (aY.as_ hxs (hρ _ _ _ hv)) hb
    refine ⟨_,x',?_,h2,h⟩
    simp only [execOp,(hρ _ _ _ hiv).dat_int]
    exact gA h1
  ·rename_i q e k n
   obtain ⟨E,m',hu,hE⟩:=gY (hT.ty hτ).1
   split at h
   ·rename_i kk p
    obtain ⟨hb,h⟩:=cw h
    obtain ⟨hp1,hp2⟩:=(hρ _ _ _ hv).ref_
    refine ⟨_,.pointer (some (G.addr kk (p++[.ix q e.cells (aj n)]))),?_,aY.ref_mk (dF _ _ hp2 (show cM [.ix q e.cells (aj n)] from ⟨(jg hb).2.2,trivial⟩)),h⟩
    simp only [execOp,(hρ _ _ _ hiv).dat_int,hp1,Gh.addr,dE,cn,Nat.add_zero,← Nat.add_assoc]
    exact gA (nd hu hE hb)
   ·rename_i τ' y
    simp only [Option.bind_eq_some_iff] at h
    obtain ⟨xs,hxs,h⟩:=h
    obtain ⟨hb,h⟩:=cw h
    obtain ⟨b,o,cc,e1,e2,e3⟩:=(hρ _ _ _ hv).ip_
    have hd:=j4 (G:=G) (w:=w) (.arr q e) (.dat τ' y) xs cc [] hxs ⟨e2,rfl⟩
    obtain ⟨hl,hA⟩:=hd
    have hi:=(jg hb).2.2
    obtain ⟨c1,c2,c3⟩:=(bC.elems (fun x c=>aR.length e x c) xs cc b o hA e3) (aj n) (rd e xs (aj n)) (F5 (by show aj n<List.length xs;rw [hl];exact hi))
    refine ⟨_,.pointer (some ⟨b,o+aj n * e.cells,none⟩),?_,aY.ip_mk c2 c3,h⟩
    simp only [execOp,(hρ _ _ _ hiv).dat_int,e1]
    exact gA (nd hu hE hb)
   ·cases h
  ·cases h
 ·rename_i t x i hop
  simp only at hop;subst hop
  simp only [Option.bind_eq_some_iff] at h
  obtain ⟨τ,hτ,v,hv,iv,hiv,h⟩:=h
  split at h
  ·rename_i k n
   simp only [Option.bind_eq_some_iff] at h
   obtain ⟨b,hb0,h⟩:=h
   obtain ⟨hb,h⟩:=cw h
   refine ⟨_,.int .u8 (bd b n),?_,aY.int _ _,h⟩
   simp only [execOp,(hρ _ _ _ hiv).dat_int,((hρ _ _ _ hv).as_ hb0).str]
   exact gA (Aa (hD (hT.ty hτ).1) hb)
  ·rename_i q e k n
   simp only [Option.bind_eq_some_iff] at h
   obtain ⟨xs,hxs,h⟩:=h
   obtain ⟨hb,h⟩:=cw h
   obtain ⟨E,m,hu,hE⟩:=gY (hT.ty hτ).1
   obtain ⟨cs,⟨hl,hA⟩,hx⟩:=(hρ _ _ _ hv).as_ hxs
   simp only [Ty.agg,if_true] at hx
   have hi:=(jg hb).2.2
   obtain ⟨c1,cu,c2,f1,f2,f3,_⟩:=bC.at_ (sz:=e.cells) e.zero (fun x c=>aR.length e x c) xs cs (aj n) hA (by show aj n<List.length xs;rw [hl];exact hi)
   obtain ⟨y,hy,hyc⟩:=gH hE c1 cu c2 (aR.length e _ cu f3) w
   refine ⟨.dat e (rd e xs (aj n)),y,?_,⟨cu,⟨f3,rfl⟩,hyc⟩,h⟩
   simp only [execOp,(hρ _ _ _ hiv).dat_int,hx]
   refine gA ?_
   simp only [Instr.index,asIntOf,Sem.run_bind,Sem.run_pure,Result.andThen_ok,run_underlying hu]
   rw [if_pos ⟨(jg hb).1,(jg hb).2.1⟩]
   simp only [Sem.run_bind,(dI hE).sizeOf w,Result.andThen_ok]
   rw [show n.toNat * e.cells=c1.length from f2.symm,f1]
   exact hy
  ·cases h
 ·rename_i t x i ok hop
  simp only at hop;subst hop
  simp only [Option.bind_eq_some_iff] at h
  obtain ⟨ke,hke,v,hv,iv,hiv,h⟩:=h
  split at h
  ·rename_i k
   simp only [Option.bind_eq_some_iff] at h
   obtain ⟨u,hu,y,hy,h⟩:=h
   split at h
   ·rename_i ka kb es
    split at h
    ·rename_i hh
     obtain ⟨h1,h2⟩:=hh
     obtain ⟨k1,k2⟩:=ke
     simp only at h1 h2
     subst h1;subst h2
     have hm:=hT.mp t _ hke
     obtain ⟨t1,t2,cs,_,_,_,⟨_,hat⟩,_⟩:=aM.find k m tM _ hM hu
     obtain ⟨m1,m2,ents,clock,m3,m4⟩:=hat
     have hx:=aY.as_ hy (hρ _ _ _ hiv)
     obtain ⟨z,r1,r2⟩:=yo (P:=P) hm m3 m4 hx ok
     obtain ⟨ds,⟨q1,q2⟩,q3⟩:=hρ _ _ _ hv
     simp only [V.agg,Bool.false_eq_true,if_false] at q3
     rw [q1] at q3
     simp only [List.cons.injEq,and_true] at q3
     have hrun:(execOp a.eval ⟨dst,.lookup t x i ok,ty,pos,after,guard⟩).run P w = .ok (.value (if ok then .tuple #[z,.bool (rk ka es y)] else z)) w:=by
      simp only [execOp,← q3];exact gA r1
     cases ok with
     | true =>
      obtain ⟨c0,hc1,hc2⟩:=r2.of
      exact ⟨.tup2 (.dat kb (tU ka kb es y)) (.dat .bool (rk ka es y)),_,hrun,B3 (va:=.dat kb (tU ka kb es y)) (vb:=.dat .bool (rk ka es y)) (cb:=[.bool (rk ka es y)]) ⟨hc1,rfl⟩ hc2 ⟨rfl,rfl⟩ ⟨rfl,rfl⟩,h⟩
     | false=>exact ⟨_,_,hrun,r2.trep,h⟩
    ·cases h
   ·cases h
  ·cases h
 ·rename_i x i hop
  simp only at hop;subst hop
  simp only [Option.bind_eq_some_iff] at h
  obtain ⟨v,hv,h⟩:=h
  have hr:=hρ _ _ _ hv
  have nil1:∀ (t1 t2:List Nat),[]=t1++t2→t1=[]∧t2=[]:=fun t1 t2 e=>by simpa using e.symm
  split at h
  ·obtain ⟨cs,⟨va,vb,ca,cb,t1,t2,e1,e2,g1,g2,g3,g4⟩,e3⟩:=hr
   obtain ⟨rfl,rfl⟩:=nil1 _ _ e2
   rw [e1] at e3
   simp only [V.agg,Bool.false_eq_true,if_false,List.cons.injEq,and_true] at e3
   exact ⟨_,va,by simp only [execOp,← e3];rfl,fM g1 g2,h⟩
  ·obtain ⟨cs,⟨va,vb,ca,cb,t1,t2,e1,e2,g1,g2,g3,g4⟩,e3⟩:=hr
   obtain ⟨rfl,rfl⟩:=nil1 _ _ e2
   rw [e1] at e3
   simp only [V.agg,Bool.false_eq_true,if_false,List.cons.injEq,and_true] at e3
   exact ⟨_,vb,by simp only [execOp,← e3];rfl,fM g3 g4,h⟩
  ·obtain ⟨cs,⟨va,vb,vd,ca,cb,cd,t1,t2,t3,e1,e2,g1,g2,g3,g4,g5,g6⟩,e3⟩:=hr
   obtain ⟨rfl,e2⟩:=nil1 _ _ e2
   rw [e1] at e3
   simp only [V.agg,Bool.false_eq_true,if_false,List.cons.injEq,and_true] at e3
   exact ⟨_,va,by simp only [execOp,← e3];rfl,fM g1 g2,h⟩
  ·obtain ⟨cs,⟨va,vb,vd,ca,cb,cd,t1,t2,t3,e1,e2,g1,g2,g3,g4,g5,g6⟩,e3⟩:=hr
   obtain ⟨z1,z2⟩:=nil1 _ _ e2
   obtain ⟨z3,z4⟩:=nil1 _ _ z2.symm
   subst z1;subst z3;subst z4
   rw [e1] at e3
   simp only [V.agg,Bool.false_eq_true,if_false,List.cons.injEq,and_true] at e3
   exact ⟨_,vb,by simp only [execOp,← e3];rfl,fM g3 g4,h⟩
  ·obtain ⟨cs,⟨va,vb,vd,ca,cb,cd,t1,t2,t3,e1,e2,g1,g2,g3,g4,g5,g6⟩,e3⟩:=hr
   obtain ⟨z1,z2⟩:=nil1 _ _ e2
   obtain ⟨z3,z4⟩:=nil1 _ _ z2.symm
   subst z1;subst z3;subst z4
   rw [e1] at e3
   simp only [V.agg,Bool.false_eq_true,if_false,List.cons.injEq,and_true] at e3
   exact ⟨_,vd,by simp only [execOp,← e3];rfl,fM g5 g6,h⟩
  ·cases h
 ·rename_i f first caps hop
  simp only at hop;subst hop
  cases hf:first.isEmpty with
  | true =>
   rw [hf] at h
   simp only [cond_true,Option.bind_eq_some_iff] at h
   obtain ⟨vs,hvs,l,hl,h⟩:=h
   obtain ⟨h1,h2⟩:=nU hρ _ _ hvs _ rfl
   refine ⟨_,.func (.func f) (first.map a.eval) (caps.map a.eval),rfl,⟨_,(show b8 G w (.fn f l) [.func (.func f) #[] (caps.map a.eval)] [] from ⟨caps.map a.eval,rfl,?_,rfl⟩),?_⟩,h⟩
   ·simpa using pD vs _ l h1 h2 hl
   ·have:first=#[]:=by simpa using hf
    rw [this];simp [V.agg]
  | false =>
   rw [hf] at h
   simp only [cond_false] at h
   obtain ⟨hc,h⟩:=ap h
   simp only [Option.bind_eq_some_iff] at h
   obtain ⟨vs,hvs,l,hl,h⟩:=h
   obtain ⟨h1,h2⟩:=nU hρ _ _ hvs _ rfl
   refine ⟨_,.func (.func f) (first.map a.eval) (caps.map a.eval),rfl,⟨_,(show b8 G w (.bnd f l) [.func (.func f) (first.map a.eval) #[]] [] from ⟨first.map a.eval,rfl,?_,rfl⟩),?_⟩,h⟩
   ·simpa using pD vs _ l h1 h2 hl
   ·have:caps=#[]:=by simpa using hc
    rw [this];simp [V.agg]
 ·rename_i b args argTypes hop
  simp only at hop;subst hop
  split at h
  ·rename_i x t _ hargs htys
   simp only [Option.bind_eq_some_iff] at h
   obtain ⟨τ,hτ,v,hv,h⟩:=h
   obtain ⟨hok,h⟩:=ap h
   simp only [Option.bind_eq_some_iff] at h
   obtain ⟨n,hn,h⟩:=h
   have ea:args=#[x]:=by apply Array.ext';simpa using hargs
   refine ⟨_,.int .i64 n,?_,aY.int _ _,h⟩
   have hrun:=Dg (P:=P) (ty:=ty) (hT.ty hτ).1 (hρ _ _ _ hv) hok hn
   subst ea
   have et:argTypes[0]? = some t:=by rw [← Array.getElem?_toList,htys];rfl
   have hrun':(Builtin.len_ argTypes ty (Array.map a.eval #[x])).run P w = .ok (.int .i64 n) w:=by simpa [Builtin.len_,et] using hrun
   simp only [execOp,resolve,Sem.run_bind,Sem.run_pure,Result.andThen_ok,invoke,builtin,hrun']
  ·rename_i x y hargs
   simp only [Option.bind_eq_some_iff] at h
   obtain ⟨v,hv,u,hu,h⟩:=h
   have ea:args=#[x,y]:=by apply Array.ext';simpa using hargs
   split at h
   ·rename_i k m k' n
    obtain ⟨hk,h⟩:=ap h
    refine ⟨_,.int k (jk m n),?_,aY.int _ _,h⟩
    subst ea
    have:=Ek (P:=P) (w:=w) (m:=m) (n:=n) (xj (aS.1 hk)) (t:=argTypes) (ty:=ty)
    have hrun':(Builtin.max_ argTypes ty (Array.map a.eval #[x,y])).run P w = .ok (.int k (jk m n)) w:=by simpa [(hρ _ _ _ hv).dat_int,(hρ _ _ _ hu).dat_int] using this
    simp only [execOp,resolve,Sem.run_bind,Sem.run_pure,Result.andThen_ok,invoke,builtin,hrun']
   ·cases h
  ·rename_i x y hargs
   simp only [Option.bind_eq_some_iff] at h
   obtain ⟨v,hv,u,hu,h⟩:=h
   have ea:args=#[x,y]:=by apply Array.ext';simpa using hargs
   split at h
   ·rename_i k m k' n
    obtain ⟨hk,h⟩:=ap h
    refine ⟨_,.int k (nI m n),?_,aY.int _ _,h⟩
    subst ea
    have:=DS (P:=P) (w:=w) (m:=m) (n:=n) (xj (aS.1 hk)) (t:=argTypes) (ty:=ty)
    have hrun':(Builtin.min_ argTypes ty (Array.map a.eval #[x,y])).run P w = .ok (.int k (nI m n)) w:=by simpa [(hρ _ _ _ hv).dat_int,(hρ _ _ _ hu).dat_int] using this
    simp only [execOp,resolve,Sem.run_bind,Sem.run_pure,Result.andThen_ok,invoke,builtin,hrun']
   ·cases h
  ·cases h
 ·cases h
end Go.Proofs.YtfhcammihohmjaaGreatDoor.Pal
end
noncomputable section
/- Calls: what a function promises, and how a caller goes on. -/
namespace Go.Proofs.YtfhcammihohmjaaGreatDoor.Pal
open Go
variable [MonoC]
variable {P:Program} {X Y:Nat→Nat→Prop} {G0 G G':Gh} {w0 w w':World} {s:St} {a:Act} {c:Cx}

def cK (G:Gh) (w:World):List V→List Value→List Nat→Prop
 | [],xs,ts=>xs=[]∧ts=[]
 | v::vs,xs,ts=>∃ x xs' t1 t2,xs=x::xs'∧ts=t1++t2∧aY G w v x t1∧cK G w vs xs' t2
def GL (w0:World) (G:Gh) (w:World) (n:Nat):List V→Option Value→List Nat→Prop
 | [],_,t=>t=[]
 | [.raw e xs],ax,t=>∃ x,ax=some x∧aY G w (.raw e xs) x t
 | [u],_,t=>(w0.heap.size≤(G.ρ (1000000+n)).1∧∀ q,G.O (G.ρ (1000000+n)).1 q=some (1000000+n))∧aM G w [(1000000+n,u)] t
 | [u,u'],_,t=>(w0.heap.size≤(G.ρ (1000000+n)).1∧∀ q,G.O (G.ρ (1000000+n)).1 q=some (1000000+n))∧(w0.heap.size≤(G.ρ (1000000+(n+1))).1∧∀ q,G.O (G.ρ (1000000+(n+1))).1 q=some (1000000+(n+1)))∧aM G w [(1000000+n,u),(1000000+(n+1),u')] t
 | _,_,_=>False
def uo (X:Nat→Nat→Prop) (G:Gh) (w:World) (n:Nat) (vr:V) (os:List V) (x:Value) (ax:Option Value) (G':Gh) (w':World):Prop :=
 Ev X G w G' w'∧Wf G' w'∧(∀ j,j<n→G'.ρ (1000000+j)=G.ρ (1000000+j)) ∧
  ∃ tV tM tX,aY G' w' vr x tV∧aM G' w' (cW 1000000 (os.take n)) tM∧GL w G' w' n (os.drop n) ax tX∧(∀ g,bi g tV+bi g tM+bi g tX≤1) ∧
   ∀ g,0<bi g tV+bi g tM+bi g tX→w.heap.size≤g∨∀ o,X g o
def AF (P:Program) (f:Nat) (args:Array Value) (w:World) (R:Value→World→Prop):Prop :=
 ((callFunc f args).run P w = .ok (.enter f args) w∧Calls P f args w fun e w'=>match e with | .returned v=>R v w' | _=>False) ∨
 ∃ v w',(callFunc f args).run P w = .ok (.value v) w'∧R v w'
def Entry.val (e:Entry) (args objs:List V):Option (V × List V):=e.run (V × List V) args objs fun v os=>some (v,os)
structure CallOK (P:Program) (f:Nat) (e:Entry):Prop where
 nat:∀ (α:Type) args objs (K:V→List V→Option α),e.run α args objs K=(e.val args objs).bind fun p=>K p.1 p.2
 ok:∀ args objs vr os,e.val args objs=some (vr,os)→∀ X G w argv tA tM,Wf G w→MonoC.tab G.I→(∀ b o k,G.O b o=some k→X b o∧1000000≤k)→cK G w args argv tA→aM G w (cW 1000000 objs) tM →
  (∀ g,bi g tA+bi g tM≤1)→(∀ g,0<bi g tA+bi g tM→∀ o,X g o) →
  AF P f argv.toArray w fun x w'=>∃ G',uo X G w objs.length vr os x argv.head? G' w'

theorem AF.mono {P:Program} {f:Nat} {args:Array Value} {w:World} {R R':Value→World→Prop} (h:AF P f args w R) (k:∀ v w',R v w'→R' v w'):AF P f args w R':=by
 rcases h with ⟨h1,h2⟩ | ⟨v,w',h1,h2⟩
 ·refine .inl ⟨h1,Calls.mono h2 fun e w' he=>?_⟩
  cases e with
  | returned v=>exact k v w' he
  | _=>exact he
 ·exact .inr ⟨v,w',h1,k v w' h2⟩

theorem xE.swap {g n m:Nat} (hI:∀ b o,G'.I b o=G.I b o) (hO:∀ o,G'.O g o=none) (h:xE G w g n m):xE G' w g n m :=
 ⟨h.1,fun o ho=>(hI g o).trans (h.2.1 o ho),hO⟩
theorem Im.le_of_eq {I J:Im} (h:∀ b o,J b o=I b o):I.le J:=fun b o v hv=>(h b o).trans hv
theorem cI.swap (hI:∀ b o,G'.I b o=G.I b o):∀ (τ:Ty) (x:τ.D) (cs:List Value) (ts:List Nat),(∀ g ∈ ts,∀ o,G'.O g o=none)→cI G w τ x cs ts→cI G' w τ x cs ts
 | .box τ,o,cs,ts,hO,h=>by
  cases o with
  | none=>exact h
  | some x =>
   obtain ⟨g,off,c,ts',h1,rfl,h3,h4,h5,h6,h7,h8⟩:=h
   exact ⟨g,off,c,ts',h1,rfl,h3,h4,fun q=>(hI g q).trans (h5 q),hO g (by simp),h7,cI.swap hI τ x c ts' (fun g' hg=>hO g' (by simp [hg])) h8⟩
 | .pair a b,x,cs,ts,hO,⟨c1,c2,t1,t2,h,ht,h1,h2⟩ =>
  ⟨c1,c2,t1,t2,h,ht,cI.swap hI a _ _ _ (fun g hg=>hO g (by rw [ht];simp [hg])) h1,cI.swap hI b _ _ _ (fun g hg=>hO g (by rw [ht];simp [hg])) h2⟩
 | .int k,x,cs,ts,_,⟨h,e⟩=>⟨aR.mono (Im.le_of_eq hI) _ _ _ h,e⟩
 | .bool,x,cs,ts,_,⟨h,e⟩=>⟨aR.mono (Im.le_of_eq hI) _ _ _ h,e⟩
 | .str,x,cs,ts,_,⟨h,e⟩=>⟨aR.mono (Im.le_of_eq hI) _ _ _ h,e⟩
 | .slc e,x,cs,ts,_,⟨h,e'⟩=>⟨aR.mono (Im.le_of_eq hI) _ _ _ h,e'⟩
 | .arr n e,x,cs,ts,_,⟨h,e'⟩=>⟨aR.mono (Im.le_of_eq hI) _ _ _ h,e'⟩
 | .map a b,x,cs,ts,_,⟨h,e⟩=>⟨aR.mono (Im.le_of_eq hI) _ _ _ h,e⟩
theorem b8.swap (hI:∀ b o,G'.I b o=G.I b o):∀ (v:V) (cs:List Value) (ts:List Nat),v.refs=[]→(∀ g ∈ ts,∀ o,G'.O g o=none)→b8 G w v cs ts→b8 G' w v cs ts
 | .dat τ x,cs,ts,_,_,⟨h,e⟩=>⟨aR.mono (Im.le_of_eq hI) τ x cs h,e⟩
 | .own e xs,cs,ts,_,hO,⟨ad,len,cap,h1,h2,h3,h4⟩=>by
  refine ⟨ad,len,cap,h1,h2,h3,h4.imp id ?_⟩
  rintro ⟨g,ha,rfl,hel,hob⟩
  exact ⟨g,ha,rfl,hel.mono (Im.le_of_eq hI) (fun x c=>aR.mono (Im.le_of_eq hI) e x c),hob.swap hI (hO g (by simp))⟩
 | .pr a b,cs,ts,hr,hO,⟨c1,c2,t1,t2,h1,h2,h3,h4⟩=>by
  simp only [V.refs,List.append_eq_nil_iff] at hr
  exact ⟨c1,c2,t1,t2,h1,h2,b8.swap hI a c1 t1 hr.1 (fun g h=>hO g (by simp [h2,h])) h3,b8.swap hI b c2 t2 hr.2 (fun g h=>hO g (by simp [h2,h])) h4⟩
 | .ref k p,cs,ts,hr,_,_=>by simp [V.refs] at hr
 | .nilp,cs,ts,_,_,h=>h
 | .ip τ x,cs,ts,_,_,⟨b,o,c,h1,h2,h3,h4⟩=>⟨b,o,c,h1,aR.mono (Im.le_of_eq hI) τ x c h2,h3.mono (Im.le_of_eq hI),h4⟩
 | .fn f caps,cs,ts,hr,_,⟨vs,h1,h2,h3⟩=>by
  have:caps=[]:=by simpa [V.refs] using hr
  subst this
  exact ⟨vs,h1,h2,h3⟩
 | .bnd f caps,cs,ts,hr,_,⟨vs,h1,h2,h3⟩=>by
  have:caps=[]:=by simpa [V.refs] using hr
  subst this
  exact ⟨vs,h1,h2,h3⟩
 | .tup2 a b,cs,ts,hr,hO,⟨va,vb,ca,cb,t1,t2,h1,h2,h3,h4,h5,h6⟩=>by
  simp only [V.refs,List.append_eq_nil_iff] at hr
  exact ⟨va,vb,ca,cb,t1,t2,h1,h2,b8.swap hI a ca t1 hr.1 (fun g h=>hO g (by simp [h2,h])) h3,h4,b8.swap hI b cb t2 hr.2 (fun g h=>hO g (by simp [h2,h])) h5,h6⟩
 | .tup3 a b d,cs,ts,hr,hO,⟨va,vb,vd,ca,cb,cd,t1,t2,t3,h1,h2,h3,h4,h5,h6,h7,h8⟩=>by
  simp only [V.refs,List.append_eq_nil_iff] at hr
  exact ⟨va,vb,vd,ca,cb,cd,t1,t2,t3,h1,h2,b8.swap hI a ca t1 hr.1.1 (fun g h=>hO g (by simp [h2,h])) h3,h4,b8.swap hI b cb t2 hr.1.2 (fun g h=>hO g (by simp [h2,h])) h5,h6,
   b8.swap hI d cd t3 hr.2 (fun g h=>hO g (by simp [h2,h])) h7,h8⟩
 | .lent _,_,_,_,_,h=>h
 | .unit,cs,ts,_,_,h=>h
 | .raw e xs,cs,ts,_,hO,⟨ad,len,cap,h1,h2,h3,h4⟩=>by
  refine ⟨ad,len,cap,h1,h2,h3,h4.imp id ?_⟩
  rintro ⟨g,ha,rfl,⟨cells,t,cc,hg,hs,hA,hc⟩,hI',hO'⟩
  exact ⟨g,ha,rfl,⟨cells,t,cc,hg,hs,bC.mono (fun x c=>aR.mono (Im.le_of_eq hI) e x c) _ _ hA,hc⟩,fun o=>(hI g o).trans (hI' o),hO g (by simp)⟩
 | .any,cs,ts,_,_,h=>h
 | .view k p _ _ _ _,cs,ts,hr,_,_=>by simp [V.refs] at hr
 | .mref k,cs,ts,hr,_,_=>by simp [V.refs] at hr
 | .gone,cs,ts,_,_,h=>h
 | .box τ o,cs,ts,_,hO,h=>cI.swap hI (.box τ) o cs ts hO h
theorem aY.swap (hI:∀ b o,G'.I b o=G.I b o) {v:V} {x:Value} {ts:List Nat} (hr:v.refs=[]) (hO:∀ g ∈ ts,∀ o,G'.O g o=none) (h:aY G w v x ts):aY G' w v x ts:=by
 obtain ⟨cs,h1,h2⟩:=h
 exact ⟨cs,h1.swap hI v cs ts hr hO,h2⟩

def Ea:List (Nat × List Step)→Nat→Nat→Option Nat
 | [],_,_=>none
 | (q,_)::r,n,k=>if q=k then some n else Ea r (n+1) k
theorem u6:∀ (l:List (Nat × List Step)) (n k j:Nat),Ea l n k=some j→n≤j∧j<n+l.length∧(l.map (·.1))[j - n]? = some k
 | [],_,_,_,h=>by simp [Ea] at h
 | (q,p)::r,n,k,j,h=>by
  simp only [Ea] at h
  split at h
  ·rename_i e;injection h with h;subst h;subst e;simp
  ·obtain ⟨h1,h2,h3⟩:=u6 r (n+1) k j h
   refine ⟨by omega,by simp;omega,?_⟩
   rw [show j - n=(j - (n+1))+1 by omega]
   simpa using h3
def Gh.sub (G:Gh) (l:List (Nat × List Step)):Gh :=
 { I:=G.I,O:=fun b o=>(G.O b o).bind (Ea l 1000000),ρ:=fun q=>if 1000000≤q then G.ρ ((l.map (·.1)).getD (q - 1000000) 0) else G.ρ q }
theorem sub_ρ (G:Gh) (l:List (Nat × List Step)) (j:Nat):(G.sub l).ρ (1000000+j)=G.ρ ((l.map (·.1)).getD j 0):=by
 simp only [Gh.sub];rw [if_pos (by omega),Nat.add_sub_cancel_left]
def uu (m:List (Nat × V)):List (Nat × List Step)→List (Nat × V)
 | []=>m
 | (k,_)::r=>uu (rm m k) r
theorem eY:∀ (l:List Nat) (t:Nat),bn t l=false→t ∉ l
 | [],_,_=>by simp
 | k::r,t,h=>by
  simp only [bn,Bool.or_eq_false_iff] at h
  simp only [List.mem_cons,not_or]
  refine ⟨fun e=>?_,eY r t h.2⟩
  subst e
  have:Nat.beq t t=true:=aS.2 rfl
  rw [this] at h;cases h.1
theorem wJ:∀ (l:List (Nat × List Step)) (m:List (Nat × V)),∀ k ∈ cR (uu m l),k ∈ cR m∧k ∉ l.map (·.1)
 | [],_,k,h=>⟨h,by simp⟩
 | (q,_)::r,m,k,h=>by
  obtain ⟨h1,h2⟩:=wJ r (rm m q) k h
  obtain ⟨h3,h4⟩:=fj q m k h1
  exact ⟨h3,by simp only [List.map_cons,List.mem_cons,not_or];exact ⟨h4,h2⟩⟩
theorem cm {k t:Nat} (h:k ≠ t):∀ m:List (Nat × V),lk (rm m k) t=lk m t
 | []=>rfl
 | (q,v)::r=>by
  rw [dq,bR]
  split
  ·rename_i e;subst e;rw [cm h r,if_neg h]
  ·rw [bR,cm h r]
theorem kr:∀ (l:List (Nat × List Step)) (m:List (Nat × V)) (k:Nat),k ∉ l.map (·.1)→bW (rm m k) l=bW m l
 | [],_,_,_=>rfl
 | (q,[])::r,m,k,h=>by
  simp only [List.map_cons,List.mem_cons,not_or] at h
  simp only [bW,cm h.1,kr r m k h.2]
 | (q,_::_)::r,m,k,h=>rfl
def jz (G:Gh) (w:World):List (Nat × List Step)→List V→List Nat→Prop
 | [],vs,ts=>vs=[]∧ts=[]
 | (k,_)::l,vs,ts=>∃ v vs' t1 t2 cs,vs=v::vs'∧ts=t1++t2∧b8 G w v cs t1∧fm w (G.ρ k).1 (G.ρ k).2 cs∧ky G w k v∧jz G w l vs' t2
theorem rY:∀ (l:List (Nat × List Step)) (m:List (Nat × V)) (vs:List V) (ts:List Nat),dm l=true→bW m l=some vs→aM G w m ts →
  ∃ to tr,(∀ g,bi g to+bi g tr≤bi g ts)∧jz G w l vs to∧aM G w (uu m l) tr
 | [],m,vs,ts,_,h,hM=>by
  simp only [bW,Option.some.injEq] at h;subst h
  exact ⟨[],ts,fun g=>by simp,⟨rfl,rfl⟩,hM⟩
 | (k,[])::r,m,vs,ts,hd,h,hM=>by
  simp only [dm,Bool.and_eq_true,Bool.not_eq_true'] at hd
  simp only [bW,Option.bind_eq_some_iff,Option.some.injEq] at h
  obtain ⟨v,hv,us,hus,rfl⟩:=h
  obtain ⟨t1,t2,cs,hc,h1,h2,h3,h4⟩:=aM.find k m ts v hM hv
  obtain ⟨to,tr,hc',h5,h6⟩:=rY r (rm m k) us t2 hd.2 (by rw [kr r m k (eY _ _ hd.1)];exact hus) h4
  exact ⟨t1++to,tr,fun g=>by have:=hc g;have:=hc' g;simp;omega,⟨v,us,t1,to,cs,rfl,rfl,h1,h2,h3,h5⟩,h6⟩
 | (k,_::_)::r,m,vs,ts,hd,h,hM=>by simp [bW] at h
theorem fG:∀ (vs:List V),kd vs=true→∀ v ∈ vs,v.refs=[]
 | [],_,v,h=>by simp at h
 | u::r,h,v,hv=>by
  simp only [kd,Bool.and_eq_true,List.isEmpty_iff] at h
  rcases List.mem_cons.1 hv with rfl | hv
  ·exact h.1
  ·exact fG r h.2 v hv
end Go.Proofs.YtfhcammihohmjaaGreatDoor.Pal
end
noncomputable section
/- Calls: the caller goes on. -/
namespace Go.Proofs.YtfhcammihohmjaaGreatDoor.Pal
open Go
variable [MonoC]
variable {P:Program} {X Y:Nat→Nat→Prop} {G0 G G':Gh} {w0 w w':World} {s:St} {a:Act} {c:Cx}

theorem zn:∀ (l:List (Nat × List Step)) (n j k:Nat),dm l=true→(l.map (·.1))[j]? = some k→Ea l n k=some (n+j)
 | [],_,_,_,_,h=>by simp at h
 | (q,p)::r,n,j,k,hd,h=>by
  simp only [dm,Bool.and_eq_true,Bool.not_eq_true'] at hd
  cases j with
  | zero=>simp at h;subst h;simp [Ea]
  | succ j =>
   have h':(r.map (·.1))[j]? = some k:=by simpa using h
   have hne:q ≠ k:=fun e=>eY _ _ hd.1 (e ▸ List.mem_of_getElem? h')
   simp only [Ea,if_neg hne]
   rw [zn r (n+1) j k hd.2 h']
   congr 1;omega
theorem kE:∀ (l:List (Nat × List Step)) (m:List (Nat × V)) (vs:List V),bW m l=some vs→(∀ x ∈ l,x.2=[])∧vs.length=l.length
 | [],_,vs,h=>by simp only [bW,Option.some.injEq] at h;subst h;simp
 | (k,[])::r,m,vs,h=>by
  simp only [bW,Option.bind_eq_some_iff,Option.some.injEq] at h
  obtain ⟨v,_,us,hus,rfl⟩:=h
  obtain ⟨h1,h2⟩:=kE r m us hus
  refine ⟨fun x hx=>?_,by simp [h2]⟩
  rcases List.mem_cons.1 hx with rfl | hx
  ·rfl
  ·exact h1 x hx
 | (k,_::_)::r,m,vs,h=>by simp [bW] at h
theorem pR {l:List (Nat × List Step)} {g:Nat} (h:∀ o,G.O g o=none) (o:Nat):(G.sub l).O g o=none:=by simp [Gh.sub,h o]
theorem uw:∀ (caps:List (Nat × List Step)) (xs:List Value) (R pre post:List (Nat × List Step)) (n:Nat),R=pre++(caps++post)→pre.length=n→(∀ x ∈ R,x.2=[])→dB G caps xs →
  dB (G.sub R) ((List.range' n caps.length).map fun i=>(1000000+i,[])) xs
 | [],xs,R,pre,post,n,_,_,_,h=>h
 | (k,p)::r,xs,R,pre,post,n,hR,hn,hp,⟨u,us,h1,h2,h3,h4⟩=>by
  have hp0:p=[]:=hp (k,p) (by rw [hR];simp)
  subst hp0
  refine ⟨u,us,h1,?_,trivial,?_⟩
  ·rw [h2]
   have hk:(R.map (·.1)).getD n 0=k:=by rw [hR,← hn];simp [List.getD]
   simp only [Gh.addr,sub_ρ,hk]
  ·have:=uw r us R (pre++[(k,[])]) post (n+1) (by rw [hR];simp) (by simp [hn]) hp h4
   simpa [List.range'] using this
theorem zZ (m n:Nat):((List.range m).map fun i=>((1000000+n+i,[]):Nat × List Step))=(List.range' n m).map fun i=>(1000000+i,[]):=by
 rw [List.range'_eq_map_range,List.map_map]
 apply List.map_congr_left
 intro i _
 simp only [Function.comp]
 rw [Nat.add_assoc]
theorem qu:∀ (args args':List V) (l:List (Nat × List Step)) (n:Nat) (R pre post:List (Nat × List Step)) (argv:List Value) (ts:List Nat),mQ n args=some (args',l)→R=pre++(l++post)→pre.length=n→(∀ x ∈ R,x.2=[]) →
  cK G w args argv ts→cK (G.sub R) w args' argv ts
 | [],args',l,n,R,pre,post,argv,ts,h,_,_,_,hA=>by
  simp only [mQ,Option.some.injEq,Prod.mk.injEq] at h
  obtain ⟨rfl,rfl⟩:=h
  exact hA
 | v::r,args',l,n,R,pre,post,argv,ts,h,hR,hn,hp,⟨x,xs,t1,t2,e1,e2,h1,h2⟩=>by
  simp only [mQ,Option.bind_eq_some_iff,Option.some.injEq,Prod.mk.injEq] at h
  obtain ⟨⟨v',l1⟩,hv,⟨vs',l2⟩,hr,rfl,rfl⟩:=h
  have ih:=qu r vs' l2 (n+l1.length) R (pre++l1) post xs t2 hr (by rw [hR];simp) (by simp [hn]) hp h2
  refine ⟨x,xs,t1,t2,e1,e2,?_,ih⟩
  have dflt:v.refs=[]→v'=v→aY (G.sub R) w v' x t1:=by
   intro hr e
   subst e
   exact h1.swap (show ∀ b o,(G.sub R).I b o=G.I b o from fun _ _=>rfl) hr fun g hg o=>pR (h1.owned (bb.1 hg)).2 o
  cases v with
  | ref k p =>
   simp only [pd,Option.some.injEq,Prod.mk.injEq] at hv
   obtain ⟨rfl,rfl⟩:=hv
   obtain ⟨cs,⟨g1,g2,g3⟩,g4⟩:=h1
   refine ⟨cs,⟨?_,g2,g3⟩,g4⟩
   rw [g1]
   have hk:(R.map (·.1)).getD n 0=k:=by rw [hR,← hn];simp [List.getD]
   simp only [Gh.addr,sub_ρ,hk]
  | fn f caps =>
   simp only [pd,Option.some.injEq,Prod.mk.injEq] at hv
   obtain ⟨rfl,rfl⟩:=hv
   obtain ⟨cs,⟨vs,g1,g2,g3⟩,g4⟩:=h1
   refine ⟨cs,⟨vs,g1,?_,g3⟩,g4⟩
   rw [zZ]
   exact uw _ _ R pre (l2++post) n (by rw [hR];simp) hn hp g2
  | _ =>
   simp only [pd] at hv
   obtain ⟨h3,h4⟩:=ap hv
   simp only [Option.some.injEq,Prod.mk.injEq] at h4
   exact dflt (by simpa using h3) h4.1.symm
theorem qm:∀ (l R pre:List (Nat × List Step)) (vs:List V) (ts:List Nat),R=pre++l→dm R=true→(∀ v ∈ vs,v.refs=[])→(∀ g ∈ ts,∀ o,G.O g o=none)→jz G w l vs ts →
  aM (G.sub R) w (cW (1000000+pre.length) vs) ts
 | [],R,pre,vs,ts,_,_,_,_,⟨h1,h2⟩=>by subst h1;exact h2
 | (k,p)::r,R,pre,vs,ts,hR,hd,hr,hO,⟨v,vs',t1,t2,cs,e1,e2,h1,h2,h3,h4⟩=>by
  subst e1
  have hk:(R.map (·.1))[pre.length]? = some k:=by rw [hR];simp
  have hk':(R.map (·.1)).getD pre.length 0=k:=by simp [List.getD,hk]
  have ih:=qm r R (pre++[(k,p)]) vs' t2 (by rw [hR];simp) hd (fun u hu=>hr u (by simp [hu])) (fun g hg=>hO g (by simp [e2,hg])) h4
  refine ⟨t1,t2,cs,e2,h1.swap (show ∀ b o,(G.sub R).I b o=G.I b o from fun _ _=>rfl) v cs t1 (hr v (by simp)) (fun g hg o=>pR (hO g (by simp [e2,hg])) o),?_,?_,?_⟩
  ·rw [sub_ρ,hk'];exact h2
  ·have hO:∀ b o,G.O b o=some k→(G.sub R).O b o=some (1000000+pre.length):=fun b o ho=>by
    simp only [Gh.sub,ho,Option.bind_some]
    exact zn R 1000000 pre.length k hd hk
   refine ⟨fun j hj=>?_,bH.swap (G:=G) (k:=k) (fun _ _=>rfl) (by rw [sub_ρ,hk']) (hO _ _) h3.2⟩
   rw [sub_ρ,hk']
   exact ⟨hO _ _ (h3.1 j hj).1,(h3.1 j hj).2⟩
  ·simpa [Nat.add_assoc] using ih
theorem jD {k:Nat} {u:V}:∀ (l:List (Nat × List Step)) (m:List (Nat × V)),k ∉ l.map (·.1)→uu ((k,u)::m) l=(k,u)::uu m l
 | [],_,_=>rfl
 | (q,p)::r,m,h=>by
  simp only [List.map_cons,List.mem_cons,not_or] at h
  simp only [uu]
  rw [dq,if_neg h.1,jD r _ h.2]
theorem dX:∀ (l:List (Nat × List Step)) (m m':List (Nat × V)) (us rest:List V) (to tr:List Nat),bv m l us=some (m',rest)→dm l=true→jz G w l (us.take l.length) to→aM G w (uu m l) tr →
  rest=us.drop l.length∧∃ t,(∀ g,bi g t≤bi g to+bi g tr)∧aM G w m' t
 | [],m,m',us,rest,to,tr,h,_,_,hM=>by
  simp only [bv,Option.some.injEq,Prod.mk.injEq] at h
  obtain ⟨rfl,rfl⟩:=h
  exact ⟨rfl,tr,fun g=>by omega,hM⟩
 | (k,[])::r,m,m',[],rest,to,tr,h,_,_,_=>by simp [bv] at h
 | (k,_::_)::r,m,m',us,rest,to,tr,h,_,_,_=>by cases us <;> simp [bv] at h
 | (k,[])::r,m,m',u::us,rest,to,tr,h,hd,⟨v,vs,t1,t2,cs,e1,e2,h1,h2,h3,h4⟩,hM=>by
  simp only [dm,Bool.and_eq_true,Bool.not_eq_true'] at hd
  simp only [bv,Option.bind_eq_some_iff] at h
  obtain ⟨v0,hv0,h⟩:=h
  obtain ⟨hb,h⟩:=ap h
  simp only [List.length_cons,List.take_succ_cons,List.cons.injEq] at e1
  obtain ⟨rfl,rfl⟩:=e1
  have hk:=eY _ _ hd.1
  obtain ⟨g1,t,g2,g3⟩:=dX r (eX m k u) m' us rest t2 (t1++tr) h hd.2 h4 (by
   show aM G w (uu ((k,u)::rm m k) r) _
   rw [jD r _ hk]
   exact ⟨t1,tr,cs,rfl,h1,h2,h3,hM⟩)
  exact ⟨by simpa using g1,t,fun g=>by have:=g2 g;subst e2;simp at this ⊢;omega,g3⟩
theorem ol:∀ (l:List (Nat × List Step)) (m m':List (Nat × V)) (us rest:List V),bv m l us=some (m',rest)→∀ (j:Nat) (u:V),j<l.length→us[j]? = some u→d7 u=false
 | [],_,_,_,_,_,j,_,hj,_=>by simp at hj
 | (k,[])::r,m,m',[],rest,h,_,_,_,_=>by simp [bv] at h
 | (k,_::_)::r,m,m',us,rest,h,_,_,_,_=>by cases us <;> simp [bv] at h
 | (k,[])::r,m,m',u::us,rest,h,j,u',hj,hu=>by
  simp only [bv,Option.bind_eq_some_iff] at h
  obtain ⟨v0,hv0,h⟩:=h
  obtain ⟨hb,h⟩:=ap h
  simp only [Bool.and_eq_true,Bool.not_eq_true'] at hb
  cases j with
  | zero =>
   simp only [List.getElem?_cons_zero,Option.some.injEq] at hu
   subst hu;exact hb.2
  | succ j=>exact ol r (eX m k u) m' us rest h j u' (by simpa using hj) (by simpa using hu)
theorem kJ:∀ (l:List (Nat × List Step)) (m m':List (Nat × V)) (us rest vs:List V),bv m l us=some (m',rest)→dm l=true→bW m l=some vs→∀ (j:Nat) (u v:V),j<l.length→us[j]? = some u→vs[j]? = some v→v.cells=u.cells
 | [],_,_,_,_,_,_,_,_,j,_,_,hj,_,_=>by simp at hj
 | (k,[])::r,m,m',[],rest,_,h,_,_,_,_,_,_,_,_=>by simp [bv] at h
 | (k,_::_)::r,m,m',us,rest,_,h,_,_,_,_,_,_,_,_=>by cases us <;> simp [bv] at h
 | (k,[])::r,m,m',u::us,rest,vs,h,hd,hc,j,u',v',hj,hu,hv=>by
  simp only [dm,Bool.and_eq_true,Bool.not_eq_true'] at hd
  simp only [bv,Option.bind_eq_some_iff] at h
  obtain ⟨v0,hv0,h⟩:=h
  obtain ⟨hb,h⟩:=ap h
  simp only [bW,Option.bind_eq_some_iff,Option.some.injEq] at hc
  obtain ⟨v1,hv1,ws,hws,rfl⟩:=hc
  rw [hv0] at hv1;injection hv1 with hv1;subst hv1
  cases j with
  | zero =>
   simp only [List.getElem?_cons_zero,Option.some.injEq] at hu hv
   subst hu;subst hv;exact aS.1 (by simp only [Bool.and_eq_true] at hb;exact hb.1)
  | succ j =>
   refine kJ r (eX m k u) m' us rest ws h hd.2 ?_ j u' v' (by simpa using hj) (by simpa using hu) (by simpa using hv)
   have hk:=eY _ _ hd.1
   have:∀ (l:List (Nat × List Step)),k ∉ l.map (·.1)→bW ((k,u)::rm m k) l=bW m l:=by
    intro l
    induction l with
    | nil=>intro _;rfl
    | cons x l ih =>
     intro hx
     obtain ⟨q,p⟩:=x
     simp only [List.map_cons,List.mem_cons,not_or] at hx
     cases p with
     | nil=>simp only [bW,bR,if_neg hx.1,cm hx.1,ih hx.2]
     | cons _ _=>rfl
   exact (this r hk).trans hws
end Go.Proofs.YtfhcammihohmjaaGreatDoor.Pal
end
noncomputable section
/- Calls: the whole of it. -/
namespace Go.Proofs.YtfhcammihohmjaaGreatDoor.Pal
open Go
variable [MonoC]
variable {P:Program} {X Y:Nat→Nat→Prop} {G0 G G':Gh} {w0 w w':World} {s:St} {a:Act} {c:Cx}

def B0:List Nat→Nat→Nat→Option Nat
 | [],_,_=>none
 | d::r,n,k=>if k=n then some d else B0 r (n+1) k
def FC:List Nat→Nat→Nat→Option Nat
 | [],_,_=>none
 | d::r,n,k=>if k=d then some n else FC r (n+1) k
theorem qA:∀ (nw:List Nat) (n k:Nat),k ∉ nw→FC nw n k=none
 | [],_,_,_=>rfl
 | d::r,n,k,h=>by
  simp only [List.mem_cons,not_or] at h
  simp only [FC,if_neg h.1];exact qA r (n+1) k h.2
def Gh.back (G : Gh) (h : Nat) (G' : Gh) (nw : List Nat) (n : Nat) : Gh :=
  { I := G'.I, O := fun b o => if b < h then G.O b o else (G'.O b o).bind fun e => if (G'.ρ e).1 = b then B0 nw (1000000 + n) e else none, ρ := fun k => match FC nw (1000000 + n) k with
      | some q=>G'.ρ q
      | none=>G.ρ k }
section
variable {l:List (Nat × List Step)} {nw:List Nat} {n:Nat}
theorem Db (hE:Ev X (G.sub l) w G' w'):Ev X G w (G.back w.heap.size G' nw n) w' :=
 ⟨hE.evo,hE.le,hE.grow,fun b o hb=>by simp [Gh.back,hb]⟩
theorem EA (hW:Wf G w) (hE:Ev X (G.sub l) w G' w') (hW':Wf G' w') (hX:∀ b o,b<w.heap.size→X b o→(G.sub l).O b o ≠ none∨∀ q,G.O b q=none)
  (hN:∀ e d,B0 nw (1000000+n) e=some d→∀ q,G'.O (G'.ρ e).1 q=some e):Wf (G.back w.heap.size G' nw n) w':=by
 refine ⟨hW'.holds,fun b o v hv=>?_,fun b o k hk=>?_,fun b o k hk hlt q=>?_⟩
 ·simp only [Gh.back]
  split
  ·rename_i hb
   cases hk:G.O b o with
   | none=>rfl
   | some k =>
    exfalso
    have hio:=hW'.io b o v hv
    rcases hE.grow b o v hv with h1 | h1 | h1
    ·have:=hW.io b o v h1;rw [hk] at this;cases this
    ·omega
    ·rcases hX b o hb h1 with h2 | h2
     ·apply h2;rw [← hE.own b o hb];exact hio
     ·rw [h2 o] at hk;cases hk
  ·have:=hW'.io b o v hv
   simp [this]
 ·simp only [Gh.back] at hk
  split at hk
  ·exact Nat.lt_of_lt_of_le (hW.lt b o k hk) hE.evo.size
  ·simp only [Option.bind_eq_some_iff] at hk
   obtain ⟨q,e,_⟩:=hk
   exact hW'.lt b o _ e
 ·simp only [Gh.back] at hk ⊢
  split at hk
  ·rename_i hb
   rw [if_pos hb];exact hW.whole b o k hk hlt q
  ·rename_i hb
   rw [if_neg hb]
   simp only [Option.bind_eq_some_iff] at hk
   obtain ⟨e,h1,h2⟩:=hk
   split at h2
   ·rename_i hb'
    subst hb'
    rw [hN e k h2 q]
    simp [h2]
   ·cases h2
theorem kt (hE:Ev X (G.sub l) w G' w') (hX:∀ b o,b<w.heap.size→X b o→(G.sub l).O b o ≠ none∨∀ q,G.O b q=none) {g:Nat} (hO:∀ o,G'.O g o=none) (hg:w.heap.size≤g∨∀ o,X g o) (o:Nat):(G.back w.heap.size G' nw n).O g o=none:=by
 simp only [Gh.back]
 split
 ·rename_i hb
  rcases hg with hg | hg
  ·omega
  ·rcases hX g 0 hb (hg 0) with h2 | h2
   ·exact absurd ((hE.own g 0 hb).symm.trans (hO 0)) h2
   ·exact h2 o
 ·simp [hO o]
end
theorem rT {l0:List (Nat × List Step)} {nw:List Nat} {n:Nat} (hd0:dm l0=true) (hE:Ev X (G.sub l0) w G' w') (hX:∀ b o,b<w.heap.size→X b o→(G.sub l0).O b o ≠ none∨∀ q,G.O b q=none) (hpar:∀ j,j<l0.length→G'.ρ (1000000+j)=(G.sub l0).ρ (1000000+j))
  (hnw:∀ d ∈ nw,d ∉ l0.map (·.1)) :
  ∀ (l pre:List (Nat × List Step)) (us vs:List V) (ts to:List Nat),l0=pre++l→us.length=l.length→(∀ u ∈ us,u.refs=[])→(∀ (j:Nat) (u v:V),us[j]? = some u→vs[j]? = some v→v.cells=u.cells)→(∀ (j:Nat) (u:V),us[j]? = some u→d7 u=false)→(∀ g ∈ ts,w.heap.size≤g∨∀ o,X g o) →
   jz G w l vs to→aM G' w' (cW (1000000+pre.length) us) ts→jz (G.back w.heap.size G' nw n) w' l us ts
 | [],pre,us,vs,ts,to,_,hl,_,_,_,_,_,hM=>by
  have:us=[]:=List.eq_nil_of_length_eq_zero (by simpa using hl)
  subst this
  exact ⟨rfl,hM⟩
 | (k,p)::r,pre,[],vs,ts,to,_,hl,_,_,_,_,_,_=>by simp at hl
 | (k,p)::r,pre,u::us,vs,ts,to,h0,hl,hr,hc,hmp,ht,⟨v,vs',t1,t2,cs,e1,e2,h1,h2,h3,h4⟩,⟨s1,s2,ds,f1,f2,f3,f4,f5⟩=>by
  subst e1
  have hk:(l0.map (·.1))[pre.length]? = some k:=by rw [h0];simp
  have hk':(l0.map (·.1)).getD pre.length 0=k:=by simp [List.getD,hk]
  have hρ:G'.ρ (1000000+pre.length)=G.ρ k:=by rw [hpar _ (by rw [h0];simp),sub_ρ,hk']
  have hkb:(G.back w.heap.size G' nw n).ρ k=G.ρ k:=by
   have:k ∉ nw:=fun hd=>hnw k hd (List.mem_of_getElem? hk)
   simp only [Gh.back,qA nw _ k this]
  have hcell:v.cells=u.cells:=hc 0 u v rfl rfl
  refine ⟨u,us,s1,s2,ds,rfl,f1,?_,?_,?_,?_⟩
  ·exact f2.swap (show ∀ b o,(G.back w.heap.size G' nw n).I b o=G'.I b o from fun _ _=>rfl) u ds s1 (hr u (by simp)) (fun g hg o=>kt hE hX (f2.owned u ds s1 g hg).2 (ht g (by simp [f1,hg])) o)
  ·rw [hkb,← hρ];exact f3
  ·refine ⟨fun j hj=>?_,bH.no (hmp 0 u rfl)⟩
   rw [hkb]
   have hjv:j<v.cells:=by omega
   have ho:=(h3.1 j hjv).1
   refine ⟨?_,by rw [← hρ];exact (f4.1 j hj).2⟩
   simp only [Gh.back,if_pos (hE.evo.size |> fun _=>show (G.ρ k).1<w.heap.size from by
    have:=World.block_lt_of_cell? w _ (h2 j _ (List.getElem?_eq_getElem (by rw [b8.length v cs t1 h1];exact hjv)));exact this)]
   exact ho
  ·exact rT hd0 hE hX hpar hnw r (pre++[(k,p)]) us vs' s2 t2 (by rw [h0];simp) (by simpa using hl) (fun u hu=>hr u (by simp [hu])) (fun j u v hu hv=>hc (j+1) u v (by simpa using hu) (by simpa using hv)) (fun j u hu=>hmp (j+1) u (by simpa using hu)) (fun g hg=>ht g (by simp [f1,hg])) h4 (by simpa [Nat.add_assoc] using f5)
theorem mC:∀ (l:List (Nat × List Step)) (m m':List (Nat × V)) (us rest:List V),bv m l us=some (m',rest)→dm l=true→(∀ x ∈ uu m l,x ∈ m')∧∀ k ∈ l.map (·.1),k ∈ cR m'
 | [],m,m',us,rest,h,_=>by
  simp only [bv,Option.some.injEq,Prod.mk.injEq] at h
  obtain ⟨rfl,rfl⟩:=h
  exact ⟨fun x hx=>hx,by simp⟩
 | (k,[])::r,m,m',[],rest,h,_=>by simp [bv] at h
 | (k,_::_)::r,m,m',us,rest,h,_=>by cases us <;> simp [bv] at h
 | (k,[])::r,m,m',u::us,rest,h,hd=>by
  simp only [dm,Bool.and_eq_true,Bool.not_eq_true'] at hd
  simp only [bv,Option.bind_eq_some_iff] at h
  obtain ⟨v0,hv0,h⟩:=h
  obtain ⟨hb,h⟩:=ap h
  obtain ⟨h1,h2⟩:=mC r _ m' us rest h hd.2
  have e:uu (eX m k u) r=(k,u)::uu (rm m k) r:=jD r _ (eY _ _ hd.1)
  rw [e] at h1
  refine ⟨fun x hx=>h1 x (by simp [show uu m ((k,[])::r)=uu (rm m k) r from rfl] at hx;simp [hx]),fun q hq=>?_⟩
  simp only [List.map_cons,List.mem_cons] at hq
  rcases hq with rfl | hq
  ·exact List.mem_map.2 ⟨_,h1 (q,u) (by simp),rfl⟩
  ·exact h2 q hq
theorem oo {m m':List (Nat × V)} (h:∀ x ∈ m,x ∈ m') {k:Nat} (hk:k ∈ bh m):k ∈ bh m':=by
 have mem:∀ (m:List (Nat × V)) k,k ∈ bh m ↔ ∃ x ∈ m,k ∈ x.2.refs:=by
  intro m k
  induction m with
  | nil=>simp [bh]
  | cons y m ih=>obtain ⟨t,v⟩:=y;simp [bh,ih]
 obtain ⟨x,hx,hr⟩:=(mem m k).1 hk
 exact (mem m' k).2 ⟨x,h x hx,hr⟩
theorem BF (tmps:Array Value) (t:Nat):tmps.setIfInBounds t (tmps.getD t undef)=tmps:=by
 apply Array.ext
 ·simp
 ·intro i h1 h2
  rw [Array.getElem_setIfInBounds]
  split
  ·rename_i e;subst e;simp [Array.getD,h2]
  ·rfl
def D7 (tmps:Array Value) (d:Option Nat) (x:Value):Array Value:=match d with | some t=>tmps.setIfInBounds t x | none=>tmps
theorem gk.put' {v:V} {x:Value} {d:Option Nat} {tmps:Array Value} (hv:cF v) (hd:∀ t,d=some t→t<tmps.size) (h:gk X G0 w0 G s tmps w v x):RS X G0 w0 G (s.dst d v) (D7 tmps d x) w:=by
 have:=gk.put (a:={ tmps:=tmps,defers:=[] }) hv hd h
 cases d <;> exact this
theorem oq {α : Type} {f : Nat} {args : List V} {d a0 : Option Nat} {K : St → Option α} {r : α} {tmps : Array Value} {argv : List Value} {tE tM tA : List Nat} (hC : ∀ f e, lkN c.fns f = some e → CallOK P f e) (h : vH c f args d a0 s K = some r)
    (hB:Base X G0 w0 G w) (hE:aL G w tmps s.env tE) (hM:aM G w s.mem tM) (hA:cK G w args argv tA) (hcnt:∀ g,bi g tE+bi g tM+bi g tA≤1)
    (htok:∀ g,0<bi g tE+bi g tM+bi g tA→w0.heap.size≤g∨∀ o,X g o) (ha0:∀ t,a0=some t→argv.head? = some (tmps.getD t undef)) (hd:∀ t,d=some t→t<tmps.size) :
    AF P f argv.toArray w fun x w'=>∃ G' s',RS X G0 w0 G' s' (D7 tmps d x) w'∧K s'=some r:=by
  simp only [vH,Option.bind_eq_some_iff] at h
  obtain ⟨e,he,⟨args',l⟩,hcan,h⟩:=h
  obtain ⟨hdist,h⟩:=ap h
  simp only [Option.bind_eq_some_iff] at h
  obtain ⟨objs,hobjs,h⟩:=h
  obtain ⟨hnr,h⟩:=ap h
  have hOK:=hC f e he
  rw [hOK.nat] at h
  simp only [Option.bind_eq_some_iff] at h
  obtain ⟨⟨vr,os⟩,hval,⟨m',rest⟩,hgb,h⟩:=h
  obtain ⟨hnr',h⟩:=ap h
  obtain ⟨hpaths,hlen⟩:=kE l s.mem objs hobjs
  obtain ⟨to,tr,hsp,hobj,hrest⟩:=rY l s.mem objs tM hdist hobjs hM
  have hargs:=qu args args' l 0 l [] [] argv tA hcan (by simp) rfl hpaths hA
  have hoown:∀ g ∈ to,∀ o,G.O g o=none:=fun g hg=>(aM.owned s.mem tM hM g (by have:=hsp g;have:=bb.1 hg;omega)).2
  have hAown : ∀ (args : List V) (argv : List Value) (tA : List Nat), cK G w args argv tA → ∀ g, 0 < bi g tA → g < w.heap.size ∧ ∀ o, G.O g o = none := by
    intro args
    induction args with
    | nil=>intro argv tA h g hg;obtain ⟨_,rfl⟩:=h;simp at hg
    | cons v vs ih =>
      intro argv tA h g hg
      obtain ⟨x,xs,t1,t2,_,rfl,h1,h2⟩:=h
      simp only [bN] at hg
      rcases Nat.eq_zero_or_pos (bi g t1) with h0 | h0
      · exact ih xs t2 h2 g (by omega)
      · exact h1.owned h0
  have hnum:=qm l l [] objs to rfl hdist (fG objs hnr) hoown hobj
  let X1:Nat→Nat→Prop:=fun b o=>(G.sub l).O b o ≠ none∨0<bi b tA+bi b to
  have hX1 : ∀ b o, b < w.heap.size → X1 b o → (G.sub l).O b o ≠ none ∨ ∀ q, G.O b q = none := by
    intro b o _ hx
    refine hx.imp id fun hp q=>?_
    rcases Nat.eq_zero_or_pos (bi b tA) with h0 | h0
    · exact hoown b (bb.2 (by omega)) q
    · exact (hAown args argv tA hA b h0).2 q
  have hsub : Wf (G.sub l) w := ⟨hB.wf.holds, fun b o v hv => by simp [Gh.sub, hB.wf.io b o v hv], fun b o k hk => by
    simp only [Gh.sub,Option.bind_eq_some_iff] at hk
    obtain ⟨q,hq,_⟩:=hk
    exact hB.wf.lt b o q hq,fun b o k hk hlt=>by
    simp only [Gh.sub,Option.bind_eq_some_iff] at hk
    obtain ⟨q,_,hq⟩:=hk
    have:=(u6 _ _ _ _ hq).1
    omega⟩
  have hdo := hOK.ok args' objs vr os hval X1 (G.sub l) w argv tA to hsub (MonoC.mono _ _ hB.ev.le hB.tab) (fun b o k hk => ⟨.inl (by rw [hk]; simp), by simp only [Gh.sub, Option.bind_eq_some_iff] at hk; obtain ⟨q, _, hq⟩ := hk; exact (u6 _ _ _ _ hq).1⟩) hargs (by simpa using hnum)
    (fun g=>by have:=hcnt g;have:=hsp g;omega) (fun g hg o=>.inr hg)
  refine hdo.mono ?_
  rintro x w' ⟨G',hEv,hW',hpar,tV,tM',tX,hTV,hTM,hRest,hc',ht'⟩
  rw [hlen] at hpar hTM hRest
  have hX0 : ∀ b o, b < w0.heap.size → X1 b o → X b o := by
    intro b o hb hx
    rcases hx with hx | hx
    · cases hk:G.O b o with
      | none=>exact absurd (by simp [Gh.sub,hk]) hx
      | some k=>exact hB.xo b o k hb hk
    · rcases htok b (by have:=hsp b;omega) with h1 | h1
      · omega
      · exact h1 o
  have hnotX : ∀ g, (∀ o, G.O g o = none) → bi g tA + bi g to = 0 → ∀ o, ¬ X1 g o := by
    intro g hg hz o hx
    rcases hx with hx | hx
    · exact hx (pR hg o)
    · omega
  have tok0 : ∀ g, (w.heap.size ≤ g ∨ ∀ o, X1 g o) → w0.heap.size ≤ g ∨ ∀ o, X g o := by
    intro g hg
    rcases hg with hg | hg
    · exact .inl (Nat.le_trans hB.ev.evo.size hg)
    · by_cases hb:g<w0.heap.size
      · exact .inr fun o=>hX0 g o hb (hg o)
      · exact .inl (by omega)
  have frame : ∀ nw : List Nat, (∀ d ∈ nw, d < 1000000 ∧ d ∉ cR m' ∧ d ∉ bh s.env ∧ d ∉ bh (uu s.mem l) ∧ d ∉ l.map (·.1) ∧ d ∉ cR (uu s.mem l)) → (∀ e d, B0 nw (1000000 + l.length) e = some d → ∀ q, G'.O (G'.ρ e).1 q = some e) →
      let Gn:=G.back w.heap.size G' nw l.length
      Base X G0 w0 Gn w'∧aL Gn w' tmps s.env tE∧aM Gn w' (uu s.mem l) tr∧jz Gn w' l (os.take l.length) tM':=by
    intro nw hnw hN
    have hEb:Ev X1 G w (G.back w.heap.size G' nw l.length) w':=Db hEv
    have hWb:=EA (nw:=nw) (n:=l.length) hB.wf hEv hW' hX1 hN
    have hρ : ∀ k, (∀ d ∈ nw, k ≠ d) → (G.back w.heap.size G' nw l.length).ρ k = G.ρ k := by
      intro k hk
      have:k ∉ nw:=fun h=>hk k h rfl
      simp only [Gh.back,qA nw _ k this]
    refine ⟨hB.step hEb hWb (fun j=>hρ _ fun d hd=>by have:=(hnw d hd).1;omega) hX0,?_,?_,?_⟩
    · refine hE.ev hEb s.env tE (fun k hk=>hρ k fun d hd=>fun e=>(hnw d hd).2.2.1 (e ▸ hk)) fun g hg=>?_
      have:=bb.1 hg
      exact hnotX g (aL.owned s.env tE hE g this).2 (by have:=hcnt g;have:=hsp g;omega)
    · refine aM.ev hEb _ tr (fun k hk=>hρ k fun d hd=>fun e=>(hnw d hd).2.2.2.1 (e ▸ hk)) (fun k hk=>hρ k fun d hd=>fun e=>(hnw d hd).2.2.2.2.2 (e ▸ hk)) (fun g hg=>?_) (fun k hk b o ho hx=>?_) hrest
      · have:=bb.1 hg
        exact hnotX g (aM.owned s.mem tM hM g (by have:=hsp g;omega)).2 (by have:=hcnt g;have:=hsp g;omega)
      · rcases hx with hx | hx
        · simp only [Gh.sub,ho,Option.bind_some] at hx
          cases hi:Ea l 1000000 k with
          | none=>exact hx hi
          | some j=>exact (wJ l s.mem k hk).2 (List.mem_of_getElem? (u6 l _ _ _ hi).2.2)
        · have hb:=hB.wf.lt b o k ho
          rcases Nat.eq_zero_or_pos (bi b tA) with h0 | h0
          · have:=hoown b (bb.2 (by omega)) o
            rw [ho] at this;cases this
          · have:=(hAown args argv tA hA b h0).2 o
            rw [ho] at this;cases this
    · refine rT hdist hEv hX1 hpar (fun d hd => (hnw d hd).2.2.2.2.1) l [] (os.take l.length) objs tM' to rfl ?_ (fun u hu => fG os hnr' u (List.mem_of_mem_take hu)) (fun j u v hu hv => ?_) (fun j u hu => by
        have hj : j < l.length := by
          have:=(List.getElem?_eq_some_iff.1 hu).1
          rw [List.length_take] at this;omega
        rw [List.getElem?_take,if_pos hj] at hu
        exact ol l s.mem m' os rest hgb j u hj hu) (fun g hg=>ht' g (by have:=bb.1 hg;omega)) hobj (by simpa using hTM)
      · have : ∀ (l : List (Nat × List Step)) (m : List (Nat × V)) (os rest : List V) (m' : List (Nat × V)), bv m l os = some (m', rest) → l.length ≤ os.length := by
          intro l
          induction l with
          | nil=>intro m os rest m' _;exact Nat.zero_le _
          | cons y l ih =>
            intro m os rest m' hg
            obtain ⟨k,p⟩:=y
            cases p with
            | cons _ _=>cases os <;> simp [bv] at hg
            | nil =>
              cases os with
              | nil=>simp [bv] at hg
              | cons u os =>
                simp only [bv,Option.bind_eq_some_iff] at hg
                obtain ⟨_,_,hg⟩:=hg
                obtain ⟨_,hg⟩:=ap hg
                have:=ih _ _ _ _ hg
                simp;omega
        rw [List.length_take];have:=this l s.mem os rest m' hgb;omega
      · have hj : j < l.length := by
          have:=(List.getElem?_eq_some_iff.1 hu).1
          rw [List.length_take] at this;omega
        refine kJ l s.mem m' os rest objs hgb hdist hobjs j u v hj ?_ hv
        rw [List.getElem?_take] at hu
        rw [if_pos hj] at hu;exact hu
  have vr0 : ∀ (nw : List Nat) (u : V) (y : Value) (t : List Nat), u.refs = [] → aY G' w' u y t → (∀ g ∈ t, w.heap.size ≤ g ∨ ∀ o, X1 g o) → aY (G.back w.heap.size G' nw l.length) w' u y t := by
    intro nw u y t hu hT ht
    exact hT.swap (show ∀ b o,(G.back w.heap.size G' nw l.length).I b o=G'.I b o from fun _ _=>rfl) hu fun g hg o=>kt hEv hX1 (hT.owned (bb.1 hg)).2 (ht g hg) o
  have tokOK : ∀ g, 0 < bi g tE + (bi g tM' + bi g tr) + (bi g tV + bi g tX) → w0.heap.size ≤ g ∨ ∀ o, X g o := by
    intro g hg
    by_cases h1:0<bi g tE+bi g tM
    · exact htok g (by omega)
    · exact tok0 g (ht' g (by have:=hsp g;omega))
  have cntOK : ∀ g, bi g tE + (bi g tM' + bi g tr) + (bi g tV + bi g tX) ≤ 1 := by
    intro g
    have h1:=hc' g
    have h2:=hcnt g
    have h3:=hsp g
    by_cases hp:0<bi g tV+bi g tM'+bi g tX
    · have hz : bi g tE + bi g tr = 0 := by
        rcases Nat.eq_zero_or_pos (bi g tE+bi g tr) with h0 | h0
        · exact h0
        · exfalso
          have ⟨hlt, hO⟩ : g < w.heap.size ∧ ∀ o, G.O g o = none := by
            rcases Nat.eq_zero_or_pos (bi g tE) with h4 | h4
            · exact aM.owned s.mem tM hM g (by omega)
            · exact aL.owned s.env tE hE g h4
          rcases ht' g hp with h5 | h5
          · omega
          · exact hnotX g hO (by omega) 0 (h5 0)
      omega
    · omega
  obtain ⟨hsub1,hsub2⟩:=mC l s.mem m' os rest hgb hdist
  split at h
  · rename_i hr0
    simp only at hr0;subst hr0
    obtain ⟨hvr,hK⟩:=ap h
    have hvr':vr.refs=[]:=by simpa using hvr
    obtain ⟨g1,g2,g3,g4⟩:=frame [] (fun d hd=>by cases hd) (fun _ _ h=>by cases h)
    obtain ⟨e1,t,e2,e3⟩:=dX l s.mem m' os [] tM' tr hgb hdist g4 g3
    refine ⟨_,_,gk.put' (s:=⟨s.env,m'⟩) (ct hTV) hd ⟨g1,tE,t,tV,g2,e3,vr0 [] vr x tV hvr' hTV (fun g hg=>ht' g (by have:=bb.1 hg;omega)),fun g=>by have:=cntOK g;have:=e2 g;omega,fun g hg=>tokOK g (by have:=e2 g;omega)⟩,hK⟩
  · rename_i e0 xs hr0
    simp only at hr0;subst hr0
    cases a0 with
    | none=>cases h
    | some t0 =>
      simp only at h
      obtain ⟨hvr,hK⟩:=ap h
      have hvr':vr.refs=[]:=by simpa using hvr
      obtain ⟨g1,g2,g3,g4⟩:=frame [] (fun d hd=>by cases hd) (fun _ _ h=>by cases h)
      obtain ⟨e1,t,e2,e3⟩:=dX l s.mem m' os _ tM' tr hgb hdist g4 g3
      rw [← e1] at hRest
      obtain ⟨x0,hx0,hT0⟩:=hRest
      rw [ha0 t0 rfl] at hx0
      injection hx0 with hx0;subst hx0
      have hT1:=vr0 [] _ _ tX rfl hT0 (fun g hg=>ht' g (by have:=bb.1 hg;omega))
      obtain ⟨tE',hcE,hE'⟩:=aL.rm t0 s.env tE g2
      refine ⟨_, _, gk.put' (s := ⟨(t0, .raw e0 xs) :: rm s.env t0, m'⟩) (ct hTV) hd ⟨g1, tX ++ tE', t, tV, ⟨tX, tE', rfl, hT1, hE'⟩, e3, vr0 [] vr x tV hvr' hTV (fun g hg => ht' g (by have := bb.1 hg; omega)),
        fun g=>by have:=cntOK g;have:=e2 g;have:=hcE g;simp;omega,fun g hg=>tokOK g (by have:=e2 g;have:=hcE g;simp at hg;omega)⟩,hK⟩
  · rename_i u hno hr0
    simp only at hr0;subst hr0
    cases d with
    | none=>cases h
    | some dd =>
      simp only at h
      obtain ⟨hch,h⟩:=ap h
      simp only [Bool.and_eq_true,Option.isNone_iff_eq_none] at hch
      obtain ⟨⟨⟨c1,c2⟩,c3⟩,c4⟩:=hch
      simp only [Option.bind_eq_some_iff] at h
      obtain ⟨v',hv',hK⟩:=h
      have hlt:dd<1000000:=Nat.le_of_ble_eq_true c1
      have hkm:=iJ _ _ c2
      obtain ⟨_,_,g3',g4'⟩:=frame [] (fun d hd=>by cases hd) (fun _ _ h=>by cases h)
      obtain ⟨e1',_⟩:=dX l s.mem m' os _ tM' tr hgb hdist g4' g3'
      rw [← e1'] at hRest
      have hRest' : (w.heap.size ≤ (G'.ρ (1000000 + l.length)).1 ∧ ∀ q, G'.O (G'.ρ (1000000 + l.length)).1 q = some (1000000 + l.length)) ∧ aM G' w' [(1000000 + l.length, u)] tX := by
        cases u with
        | raw e xs=>exact absurd rfl (hno e xs)
        | _=>exact hRest
      obtain ⟨g1, g2, g3, g4⟩ := frame [dd] (fun d hd => by
        have hd:d=dd:=by simpa using hd
        subst hd
        exact ⟨hlt, hkm, cN _ _ c3, fun hk => cN _ _ c4 (oo hsub1 hk), fun hk => hkm (hsub2 _ hk), fun hk => by
          obtain ⟨y,hy,e⟩:=List.mem_map.1 hk
          exact hkm (List.mem_map.2 ⟨y,hsub1 y hy,e⟩)⟩) (fun e d he q=>by
        simp only [B0] at he
        split at he
        · rename_i hx;rw [hx];exact hRest'.1.2 q
        · cases he)
      obtain ⟨e1,t,e2,e3⟩:=dX l s.mem m' os _ tM' tr hgb hdist g4 g3
      have hur:u.refs=[]:=fG os hnr' u (List.mem_of_mem_drop (by rw [← e1];simp))
      obtain ⟨⟨hnew,_⟩,t1,t2,cs,f1,f2,f3,f4,f5⟩:=hRest'
      simp only [aM] at f5;subst f5
      simp only [List.append_nil] at f1;subst f1
      have hρd:(G.back w.heap.size G' [dd] l.length).ρ dd=G'.ρ (1000000+l.length):=by simp [Gh.back,FC]
      have hmem : aM (G.back w.heap.size G' [dd] l.length) w' ((dd, u) :: m') (tX ++ t) := by
        refine ⟨tX,t,cs,rfl,?_,?_,?_,e3⟩
        · exact f2.swap (show ∀ b o,(G.back w.heap.size G' [dd] l.length).I b o=G'.I b o from fun _ _=>rfl) u cs tX hur (fun g hg o=>kt hEv hX1 (f2.owned u cs tX g hg).2 (ht' g (by have:=bb.1 hg;omega)) o)
        · rw [hρd];exact f3
        · refine ⟨fun j hj=>?_,bH.swap (G:=G') (k:=1000000+l.length) (fun _ _=>rfl) hρd (fun ho=>?_) f4.2⟩
          case refine_2 =>
            simp only [Gh.back]
            rw [if_neg (by omega),ho];simp [B0]
          rw [hρd]
          refine ⟨?_,(f4.1 j hj).2⟩
          simp only [Gh.back]
          rw [if_neg (by omega),(f4.1 j hj).1];simp [B0]
      have hTV' : aY (G.back w.heap.size G' [dd] l.length) w' v' x tV := by
        unfold fresh at hv'
        split at hv'
        · rename_i k
          obtain ⟨hb,hv'⟩:=ap hv'
          injection hv' with hv';subst hv'
          obtain ⟨ds,⟨z1,z2,z3⟩,z4⟩:=hTV
          refine ⟨ds,⟨?_,trivial,z3⟩,z4⟩
          rw [z1,aS.1 hb];simp only [Gh.addr,hρd]
        · rename_i k
          obtain ⟨hb,hv'⟩:=ap hv'
          injection hv' with hv';subst hv'
          obtain ⟨ds,⟨z1,z3⟩,z4⟩:=hTV
          refine ⟨ds,⟨?_,z3⟩,z4⟩
          rw [z1,aS.1 hb,hρd]
        · rename_i k b _
          obtain ⟨hb,hv'⟩:=ap hv'
          injection hv' with hv';subst hv'
          simp only [Bool.and_eq_true,List.isEmpty_iff] at hb
          obtain ⟨ds,⟨va,vb,ca,cb,s1,s2,z1,z2,⟨z3,z3',z3''⟩,z4,z5,z6⟩,z7⟩:=hTV
          refine ⟨ds,⟨va,vb,ca,cb,s1,s2,z1,z2,⟨?_,trivial,z3''⟩,z4,?_,z6⟩,z7⟩
          · rw [z3,aS.1 hb.1];simp only [Gh.addr,hρd]
          · exact z5.swap (show ∀ b o,(G.back w.heap.size G' [dd] l.length).I b o=G'.I b o from fun _ _=>rfl) b cb s2 hb.2 (fun g hg o=>kt hEv hX1 (z5.owned b cb s2 g hg).2 (ht' g (by have:=bb.1 (show g ∈ tV by rw [z2];simp [hg]);omega)) o)
        · cases hv'
      refine ⟨_,_,gk.put' (d:=some dd) (s:=⟨s.env,(dd,u)::m'⟩) (ct hTV') hd ⟨g1,tE,tX++t,tV,g2,hmem,hTV',fun g=>by have:=cntOK g;have:=e2 g;simp;omega,fun g hg=>tokOK g (by have:=e2 g;simp at hg;omega)⟩,hK⟩
  · rename_i u u' hr0
    simp only at hr0;subst hr0
    cases d with
    | none=>cases h
    | some dd =>
      simp only at h
      obtain ⟨hch,h⟩:=ap h
      simp only [Bool.and_eq_true,Option.isNone_iff_eq_none] at hch
      obtain ⟨⟨c1,⟨⟨c2,c3⟩,c4⟩⟩,⟨⟨c5,c6⟩,c7⟩⟩:=hch
      simp only [Option.bind_eq_some_iff] at h
      obtain ⟨v',hv',hK⟩:=h
      have hlt:dd<500000:=Nat.le_of_ble_eq_true c1
      have hkm:=iJ _ _ c2
      have hkm':=iJ _ _ c5
      have one : ∀ d, d < 1000000 → d ∉ cR m' → cz d s.env = true → cz d m' = true → d < 1000000 ∧ d ∉ cR m' ∧ d ∉ bh s.env ∧ d ∉ bh (uu s.mem l) ∧ d ∉ l.map (·.1) ∧ d ∉ cR (uu s.mem l) := fun d h1 h2 h3 h4 =>
        ⟨h1, h2, cN _ _ h3, fun hk => cN _ _ h4 (oo hsub1 hk), fun hk => h2 (hsub2 _ hk), fun hk => by
          obtain ⟨y,hy,e⟩:=List.mem_map.1 hk
          exact h2 (List.mem_map.2 ⟨y,hsub1 y hy,e⟩)⟩
      obtain ⟨_,_,g3',g4'⟩:=frame [] (fun d hd=>by cases hd) (fun _ _ h=>by cases h)
      obtain ⟨e1',_⟩:=dX l s.mem m' os _ tM' tr hgb hdist g4' g3'
      rw [← e1'] at hRest
      have hRest' : (w.heap.size ≤ (G'.ρ (1000000 + l.length)).1 ∧ ∀ q, G'.O (G'.ρ (1000000 + l.length)).1 q = some (1000000 + l.length)) ∧ (w.heap.size ≤ (G'.ρ (1000000 + (l.length + 1))).1 ∧ ∀ q, G'.O (G'.ρ (1000000 + (l.length + 1))).1 q = some (1000000 + (l.length + 1))) ∧ aM G' w' [(1000000 + l.length, u), (1000000 + (l.length + 1), u')] tX := by
        cases u <;> exact hRest
      obtain ⟨g1, g2, g3, g4⟩ := frame [dd, dd + 500000] (fun d hd => by
        have hd:d=dd∨d=dd+500000:=by simpa using hd
        rcases hd with rfl | rfl
        · exact one _ (by omega) hkm c3 c4
        · exact one _ (by omega) hkm' c6 c7) (fun e d he q=>by
        simp only [B0] at he
        split at he
        · rename_i hx;rw [hx];exact hRest'.1.2 q
        · split at he
          · rename_i hx;rw [hx];exact hRest'.2.1.2 q
          · cases he)
      obtain ⟨e1,t,e2,e3⟩:=dX l s.mem m' os _ tM' tr hgb hdist g4 g3
      have hur:u.refs=[]:=fG os hnr' u (List.mem_of_mem_drop (by rw [← e1];simp))
      have hur':u'.refs=[]:=fG os hnr' u' (List.mem_of_mem_drop (by rw [← e1];simp))
      obtain ⟨⟨hnew,_⟩,⟨hnew',_⟩,t1,t2,cs,f1,f2,f3,f4,t3,t4,cs',f5,f6,f7,f8,f9⟩:=hRest'
      simp only [aM] at f9;subst f9
      simp only [List.append_nil] at f5;subst f5
      subst f1
      obtain ⟨Gn,hGn⟩:∃ Gn,Gn=G.back w.heap.size G' [dd,dd+500000] l.length:=⟨_,rfl⟩
      have hρd:Gn.ρ dd=G'.ρ (1000000+l.length):=by rw [hGn];simp [Gh.back,FC]
      have hρd':Gn.ρ (dd+500000)=G'.ρ (1000000+(l.length+1)):=by rw [hGn];simp [Gh.back,FC,Nat.add_assoc]
      have sw : ∀ (u : V) (cs : List Value) (t : List Nat), u.refs = [] → b8 G' w' u cs t → (∀ g ∈ t, 0 < bi g tV + bi g tM' + bi g (t1 ++ t2)) → b8 Gn w' u cs t := fun u cs t hu hv ht => by
        rw [hGn]
        exact hv.swap (show ∀ b o,(G.back w.heap.size G' [dd,dd+500000] l.length).I b o=G'.I b o from fun _ _=>rfl) u cs t hu (fun g hg o=>kt hEv hX1 (hv.owned u cs t g hg).2 (ht' g (ht g hg)) o)
      have hmem : aM Gn w' ((dd, u) :: (dd + 500000, u') :: m') (t1 ++ (t2 ++ t)) := by
        refine ⟨t1,t2++t,cs,rfl,sw u cs t1 hur f2 (fun g hg=>by have:=bb.1 hg;simp;omega),?_,?_,t2,t,cs',rfl,sw u' cs' t2 hur' f6 (fun g hg=>by have:=bb.1 hg;simp;omega),?_,?_,by rw [hGn];exact e3⟩
        · rw [hρd];exact f3
        · refine ⟨fun j hj=>?_,bH.swap (G:=G') (k:=1000000+l.length) (fun _ _=>by rw [hGn];rfl) hρd (fun ho=>?_) f4.2⟩
          case refine_2 =>
            rw [hGn]
            simp only [Gh.back]
            rw [if_neg (by omega),ho];simp [B0]
          rw [hρd]
          refine ⟨?_,(f4.1 j hj).2⟩
          rw [hGn]
          simp only [Gh.back]
          rw [if_neg (by omega),(f4.1 j hj).1];simp [B0]
        · rw [hρd'];exact f7
        · refine ⟨fun j hj=>?_,bH.swap (G:=G') (k:=1000000+(l.length+1)) (fun _ _=>by rw [hGn];rfl) hρd' (fun ho=>?_) f8.2⟩
          case refine_2 =>
            rw [hGn]
            simp only [Gh.back]
            rw [if_neg (by omega),ho];simp [B0,Nat.add_assoc]
          rw [hρd']
          refine ⟨?_,(f8.1 j hj).2⟩
          rw [hGn]
          simp only [Gh.back]
          rw [if_neg (by omega),(f8.1 j hj).1];simp [B0,Nat.add_assoc]
      have hTV' : aY Gn w' v' x tV := by
        unfold C4 at hv'
        split at hv'
        · rename_i k k'
          obtain ⟨hb,hv'⟩:=ap hv'
          injection hv' with hv';subst hv'
          simp only [Bool.and_eq_true] at hb
          obtain ⟨ds,⟨va,vb,ca,cb,s1,s2,z1,z2,⟨z3,z3'⟩,z4,⟨z5,z5'⟩,z6⟩,z9⟩:=hTV
          refine ⟨ds,⟨va,vb,ca,cb,s1,s2,z1,z2,⟨?_,z3'⟩,z4,⟨?_,z5'⟩,z6⟩,z9⟩
          · rw [z3,aS.1 hb.1,hρd]
          · rw [z5,aS.1 hb.2,hρd']
        · rename_i k k' b _
          obtain ⟨hb,hv'⟩:=ap hv'
          injection hv' with hv';subst hv'
          simp only [Bool.and_eq_true,List.isEmpty_iff] at hb
          obtain ⟨ds,⟨va,vb,vd,ca,cb,cd,s1,s2,s3,z1,z2,⟨z3,z3',z3''⟩,z4,⟨z5,z5',z5''⟩,z6,z7,z8⟩,z9⟩:=hTV
          refine ⟨ds,⟨va,vb,vd,ca,cb,cd,s1,s2,s3,z1,z2,⟨?_,trivial,z3''⟩,z4,⟨?_,trivial,z5''⟩,z6,?_,z8⟩,z9⟩
          · rw [z3,aS.1 hb.1.1];simp only [Gh.addr,hρd]
          · rw [z5,aS.1 hb.1.2];simp only [Gh.addr,hρd']
          · exact sw b cd s3 hb.2 z7 (fun g hg=>by have:=bb.1 (show g ∈ tV by rw [z2];simp [hg]);omega)
        · cases hv'
      rw [← hGn] at g1 g2
      refine ⟨_,_,gk.put' (d:=some dd) (s:=⟨s.env,(dd,u)::(dd+500000,u')::m'⟩) (ct hTV') hd ⟨g1,tE,t1++(t2++t),tV,g2,hmem,hTV',fun g=>by have:=cntOK g;have:=e2 g;simp at *;omega,fun g hg=>tokOK g (by have:=e2 g;simp at *;omega)⟩,hK⟩
  · cases h
end Go.Proofs.YtfhcammihohmjaaGreatDoor.Pal
end
noncomputable section
/- Rows that are variables: a row is made one; its elements are turned. -/
namespace Go.Proofs.YtfhcammihohmjaaGreatDoor.Pal
open Go
variable [MonoC]
variable {P:Program} {X Y:Nat→Nat→Prop} {G0 G G':Gh} {w0 w w':World} {s:St} {a:Act} {c:Cx}

theorem gk.storeV {v v':V} {x:Value} {k T sz:Nat} {q:List Step} {e:Ty} {xs:List e.D} {i:Int} {y:e.D} (hR:gk X G0 w0 G s a.tmps w v x) (hl:lk s.mem k=some (.vec k e xs)) (hs:e.cells=sz) (hi:bO i xs=true)
  (hp:V.put q (.dat e (rd e xs (aj i))) v=some v') (hy:V.as e v'=some y) (hpo:cM q) (ht:cZ v=false) (hT:(sizeOf T).run P w = .ok v.cells w) :
  ∃ w',(Instr.storeAt T (.pointer (some (G.addr k (.el sz i::q)))) x).run P w = .ok () w'∧RS X G0 w0 G { s with mem:=eX s.mem k (.vec k e (ja xs (aj i) y)) } a.tmps w':=by
 obtain ⟨hB,tE,tM,tV,h1,h2,⟨cx,h3,h3'⟩,h4,h5⟩:=hR
 obtain ⟨t1,t2,cs,hcnt,hv0,hcells,howns,hrest⟩:=aM.find k s.mem tM _ h2 hl
 obtain ⟨i1,i2,i3⟩:=mY hi
 obtain ⟨g,len,cap,g1,gt,gc,glen,gcap,⟨cells,t,cc,b1,b2,b3,b4⟩,gI,gO⟩:=tG hv0 (fun e=>by subst e;simp at i3)
 obtain ⟨c1,c,c2,e1,hl1,hr,hset⟩:=bC.at_ e.zero (fun x c=>aR.length e x c) xs cc (aj i) b3 i3
 obtain ⟨hc1,hag,d1,d0,d2,t',e2,hl2,hl0,hcn,hv1⟩:=gW q (.dat e (rd e xs (aj i))) v v' c cx [] tV ⟨hr,rfl⟩ h3 hp hpo
 have hd:=j4 e v' y _ _ hy hv1
 have hA:=hset y _ hd
 subst gt
 have hxc:=iu h3 h3'
 have hpl:=b8.plain v cx tV h3 ht
 have hsx:x.cells.size=v.cells:=by rw [← Array.length_toList,hxc,b8.length v cx _ h3]
 obtain ⟨A,hAd⟩:∃ A,A=c1++d1:=⟨_,rfl⟩
 obtain ⟨B,hBd⟩:∃ B,B=d2++c2:=⟨_,rfl⟩
 obtain ⟨o,ho⟩:∃ o,o=aj i * e.cells+cn q:=⟨_,rfl⟩
 have hAl:A.length=o:=by rw [hAd,List.length_append,hl1,hl2,ho]
 have ecc:cc=A++(d0++B):=by rw [e1,e2,hAd,hBd];simp
 have ecc':c1++((d1++(cx++d2))++c2)=A++(cx++B):=by rw [hAd,hBd];simp
 rw [ecc'] at hA
 have hone:bi g [g]=1:=by simp [bi]
 have hg0:bi g tE=0∧bi g t2=0∧bi g tV=0:=by
  have:=hcnt g;have:=h4 g;omega
 have hex:∀ j,j<cx.length→(w.cell? ⟨g,o+j,none⟩).isSome=true:=by
  intro j hj
  rw [bF b1]
  have hj':o+j<cc.length:=by rw [ecc];simp;omega
  rw [b4 (o+j) _ (List.getElem?_eq_getElem hj')];rfl
 have hst:=run_storeCells_cells (P:=P) g o cx 0 w (by simpa using hex) (fun j _=>by simp [World.frozen?,b1]) (fun v hv=>dO (hpl v hv))
 refine ⟨w.setCells g o cx,?_,?_⟩
 ·simp only [Instr.storeAt,Instr.sureAddr,Sem.run_bind,Sem.run_pure,Result.andThen_ok,storeVar,hT,hsx,ne_eq,not_true,if_false]
  rw [hxc]
  have hadr:G.addr k (.el sz i::q)=⟨g,o,none⟩:=by
   unfold Gh.addr
   rw [g1,ho,← hs]
   show (⟨g,0+(i.toNat * e.cells+cn q),none⟩:Addr)=_
   rw [Nat.zero_add];rfl
  rw [hadr]
  simpa using hst
 ·let Y:Nat→Nat→Prop:=fun b _=>b=g
  have hE:Ev Y G w G (w.setCells g o cx):=.quiet (Evo.setCells _ cx _ w fun _ _=>rfl)
  have hW:Wf G (w.setCells g o cx):=by
   refine ⟨fun b o' v hv=>?_,hB.wf.io,fun b o q hq=>by rw [World.size_setCells];exact hB.wf.lt b o q hq,hB.wf.whole⟩
   have hb:=World.block_lt_of_cell? w _ (hB.wf.holds b o' v hv)
   rw [hE.evo.cell hb (fun hy=>by have hy:b=g:=hy;subst hy;rw [gI o'] at hv;cases hv)]
   exact hB.wf.holds b o' v hv
  have hrow:Cf G.I (w.setCells g o cx) g e (ja xs (aj i) y) (cap * e.cells):=by
   obtain ⟨cells',k1,k2⟩:∃ cells',(w.setCells g o cx).heap[g]? = some (.cells cells' t (0,0))∧cells'.size=cells.size:=by
    have hlt:g<w.heap.size:=(Array.getElem?_eq_some_iff.1 b1).1
    rcases hE.evo.block g hlt with e | ⟨u,u',t',fr,k1,k2,k3,_⟩ | ⟨m1,q1,m2,q2,k1,_⟩
    ·exact ⟨cells,e.trans b1,rfl⟩
    ·rw [b1] at k1
     injection k1 with k1;injection k1 with q1 q2 q3;subst q1;subst q2;subst q3
     exact ⟨u',k2,k3⟩
    ·rw [b1] at k1;injection k1 with k1;cases k1
   refine ⟨cells',t,A++(cx++B),k1,k2.trans b2,hA,fun j u hj=>?_⟩
   rw [← bF k1]
   by_cases hin:o≤j∧j<o+cx.length
   ·have:=World.cell?_setCells_in g cx o w hex (j - o) (by omega)
    rw [show o+(j - o)=j by omega] at this
    rw [this,← hj,List.getElem?_append_right (by omega),List.getElem?_append_left (by omega),hAl,List.getElem?_eq_getElem (by omega)]
   ·rw [World.cell?_setCells_out g cx _ w _ (fun _ _=>by simp only;omega),bF b1]
    refine b4 j u ?_
    rw [← hj,ecc]
    by_cases hlt:j<o
    ·rw [List.getElem?_append_left (by omega),List.getElem?_append_left (by omega)]
    ·rw [List.getElem?_append_right (by omega),List.getElem?_append_right (by omega),List.getElem?_append_right (by omega),List.getElem?_append_right (by omega),hl0]
  have hnY:∀ l:List Nat,bi g l=0→∀ g' ∈ l,∀ o,¬ Y g' o:=fun l hl g' hg' o (hy:g'=g)=>by subst hy;have:=bb.1 hg';omega
  refine ⟨hB.step hE hW (fun _=>rfl) (fun b o hb (hy:b=g)=>?_),tE,[g]++t2,h1.ev hE s.env tE (fun _ _=>rfl) (hnY tE hg0.1),
   ⟨[g],t2,[],rfl,⟨rfl,some ⟨g,0,none⟩,len,cap,⟨_,_,_,rfl,by simp [ja,glen],gcap,.inr ⟨g,rfl,rfl,hrow,gI,gO⟩⟩,.inr ⟨by rw [g1],by rw [g1]⟩⟩,fun j u hj=>by simp at hj,⟨fun j hj=>absurd hj (Nat.not_lt_zero j),trivial⟩,
   aM.ev hE _ t2 (fun _ _=>rfl) (fun _ _=>rfl) (hnY t2 hg0.2.1) (fun q hq b o ho (hy:b=g)=>by subst hy;rw [gO o] at ho;cases ho) hrest⟩,fun g'=>?_,fun g' hg'=>?_⟩
  ·subst hy
   rcases h5 b (by have:=hcnt b;omega) with h | h
   ·omega
   ·exact h o
  ·have:=h4 g';have:=hcnt g';rw [bN];omega
  ·exact h5 g' (by have:=hcnt g';rw [bN] at hg';omega)
theorem gk.storeK {α:Type} {v u0:V} {x:Value} {k T:Nat} {p:List Step} {K:V→Option α} {r:α} (hR:gk X G0 w0 G s a.tmps w v x) (hl:lk s.mem k=some u0) (hp:vf k u0 p v K=some r) (hpo:cM p) (ht:cZ v=false) (hT:(sizeOf T).run P w = .ok v.cells w) :
  ∃ u1 w',K u1=some r∧(Instr.storeAt T (.pointer (some (G.addr k p))) x).run P w = .ok () w'∧RS X G0 w0 G { s with mem:=eX s.mem k u1 } a.tmps w':=by
 have gen:(V.put p u0 v).bind K=some r→∃ u1 w',K u1=some r∧(Instr.storeAt T (.pointer (some (G.addr k p))) x).run P w = .ok () w'∧RS X G0 w0 G { s with mem:=eX s.mem k u1 } a.tmps w':=by
  intro h
  obtain ⟨u1,hu1,h⟩:=Option.bind_eq_some_iff.1 h
  obtain ⟨w',g1,g2⟩:=gk.store (P:=P) hR hl hu1 hpo ht hT
  exact ⟨u1,w',h,g1,g2⟩
 cases u0 with
 | vec k' e xs =>
  cases p with
  | nil=>cases hp
  | cons st q =>
   cases st with
   | l=>cases hp
   | r o=>cases hp
   | ix _ _ _=>cases hp
   | el sz i =>
    replace hp:(bif Nat.beq k' k && Nat.beq e.cells sz then br (bO i xs) ((V.put q (.dat e (rd e xs (aj i))) v).bind fun v'=>(V.as e v').bind fun y=>K (.vec k' e (ja xs (aj i) y))) none else none)=some r:=hp
    obtain ⟨hb,h2⟩:=ap hp
    clear hp
    simp only [Bool.and_eq_true] at hb
    have hk:=aS.1 hb.1
    have hs:=aS.1 hb.2
    subst hk
    obtain ⟨hi,h3⟩:=cw h2
    simp only [Option.bind_eq_some_iff] at h3
    obtain ⟨v',hv',y,hy,h3⟩:=h3
    obtain ⟨w',g1,g2⟩:=gk.storeV (P:=P) hR hl hs hi hv' hy hpo ht hT
    exact ⟨_,w',h3,g1,g2⟩
 | _=>exact gen hp
theorem qe {α:Type} {tmps:Array Value} {ln:Bool} {d:Option Nat} {K:St→Option α} {r:α} (hR:RS X G0 w0 G s tmps w) (h:A5 ln d s K=some r):∃ G' s',RS X G0 w0 G' s' tmps w∧K s'=some r:=by
 unfold A5 at h
 split at h
 ·rename_i d
  split at h
  ·rename_i e xs hl
   obtain ⟨hb,h⟩:=ap h
   simp only [Bool.and_eq_true,Option.isNone_iff_eq_none] at hb
   obtain ⟨⟨⟨hd,hm⟩,hn1⟩,hn2⟩:=hb
   have hd:=Nat.le_of_ble_eq_true hd
   obtain ⟨hB,tE,tM,h1,h2,h3,h4⟩:=hR
   obtain ⟨t1,t2,hc,⟨cs,⟨ad,len,cap,e1,e2,e3,e4⟩,hx⟩,hE⟩:=aL.find d s.env tE _ h1 hl trivial
   obtain ⟨pl,hpl⟩:∃ pl:Nat × Nat,xs=[]∨(ad=some ⟨pl.1,0,none⟩∧pl.2=0):=by
    rcases e4 with ⟨hcap,_⟩ | ⟨g,ha,_⟩
    ·exact ⟨(0,0),.inl (List.length_eq_zero_iff.1 (by omega))⟩
    ·exact ⟨(g,0),.inr ⟨ha,rfl⟩⟩
   let G':Gh:={ G with ρ:=fun k=>if k=d then pl else G.ρ k }
   have hρd:G'.ρ d=pl:=if_pos rfl
   have hρ:∀ k,k ≠ d→G'.ρ k=G.ρ k:=fun k hk=>if_neg hk
   have hEv:Ev (fun _ _=>False) G w G' w:=⟨Evo.refl _ w,Im.le_refl _,fun _ _ _ hv=>.inl hv,fun _ _ _=>rfl⟩
   have hW:Wf G' w:=⟨hB.wf.holds,hB.wf.io,hB.wf.lt,hB.wf.whole⟩
   have hB':=hB.step hEv hW (fun j=>hρ _ (by omega)) (fun _ _ _ h=>h.elim)
   have hE':aL G' w tmps (rm s.env d) t2:=aL.ev hEv _ t2 (fun k hk=>hρ k fun e=>by subst e;exact cN _ _ hn1 hk) (fun _ _ _ h=>h) hE
   have hM':aM G' w s.mem tM:=aM.ev hEv _ tM (fun k hk=>hρ k fun e=>by subst e;exact cN _ _ hn2 hk) (fun k hk=>hρ k fun e=>by subst e;exact iJ _ _ hm hk) (fun _ _ _ h=>h) (fun _ _ _ _ _ h=>h) h2
   refine ⟨G',⟨(d,.vref d e (af xs))::rm s.env d,(d,.vec d e xs)::s.mem⟩,⟨hB',[]++t2,t1++tM,(aL.cons (v:=.vref d e (af xs)) trivial).2 ⟨[],t2,rfl,⟨cs,⟨⟨ad,cap,?_,?_,?_⟩,rfl⟩,hx⟩,hE'⟩,⟨t1,tM,[],rfl,⟨rfl,ad,len,cap,⟨ad,len,cap,rfl,e2,e3,e4⟩,?_⟩,fun j u hj=>by simp at hj,⟨fun j hj=>absurd hj (Nat.not_lt_zero j),trivial⟩,hM'⟩,
    fun g=>by have:=h3 g;have:=hc g;simp;omega,fun g hg=>h4 g (by have:=hc g;simp at hg;omega)⟩,h⟩
   ·rw [e1,← e2];simp [af]
   ·simp only [af];omega
   ·rcases hpl with hpl | hpl
    ·subst hpl;exact .inl rfl
    ·refine .inr ?_
     rw [hρd,hpl.1,hpl.2]
   ·rw [hρd];exact hpl
  ·exact ⟨G,s,hR,h⟩
 ·exact ⟨G,s,hR,h⟩
end Go.Proofs.YtfhcammihohmjaaGreatDoor.Pal
end
noncomputable section
/- One operation. -/
namespace Go.Proofs.YtfhcammihohmjaaGreatDoor.Pal
open Go
variable [MonoC]
variable {P:Program} {X Y:Nat→Nat→Prop} {G0 G G':Gh} {w0 w w':World} {s:St} {a:Act} {c:Cx} {Q:Exit→Act→World→Prop}

def EV {α:Type} (X:Nat→Nat→Prop) (G0:Gh) (w0:World) (a:Act) (K:St→Option α) (r:α):Act→World→Prop :=
 fun a' w'=>∃ G' s',RS X G0 w0 G' s' a'.tmps w'∧a'.tmps.size=a.tmps.size∧a'.defers=a.defers∧K s'=some r
theorem fR (a:Act) (d:Option Nat) (x:Value):(a.put d x).tmps.size=a.tmps.size:=by cases d <;> simp [Act.put]
theorem dU (a:Act) (d:Option Nat) (x:Value):(a.put d x).defers=a.defers:=by cases d <;> rfl
theorem iA {α:Type} {o:Oper} {K:St→Option α} {r:α} {x:Value} {v:V} {s':St} (hx:(execOp a.eval o).run P w = .ok (.value x) w') (hR:gk X G0 w0 G' s' a.tmps w' v x) (hd:∀ t,o.dst=some t→t<a.tmps.size)
  (hK:K (s'.dst o.dst v)=some r):o.wp P a w (EV X G0 w0 a K r) Q:=by
 obtain ⟨_,_,_,_,_,_,hT,_⟩:=id hR
 simp only [Oper.wp,hx,Oper.upon]
 exact ⟨G',_,gk.put (ct hT) hd hR,fR _ _ _,dU _ _ _,hK⟩
theorem kH {α:Type} {o:Oper} {K:St→Option α} {r:α} (hT:TT P c) (hR:RS X G0 w0 G s a.tmps w) (h:qn c o s K=some r) (hd:∀ t,o.dst=some t→t<a.tmps.size):o.wp P a w (EV X G0 w0 a K r) Q:=by
 obtain ⟨hB,tE,tM,h1,h2,h3,h4⟩:=id hR
 obtain ⟨v,x,g1,g2,g3⟩:=mb hT hB.wf hR.reads h2 h
 exact iA g1 (hR.withV g2) hd g3
theorem xl {d t:Nat} (hR:RS X G0 w0 G { s with env:=s.env } a.tmps w) (h:a.tmps.getD t undef=a.tmps.getD d undef):RS X G0 w0 G { s with env:=(t,.lent d)::rm s.env t } a.tmps w:=by
 obtain ⟨hB,tE,tM,h1,h2,h3,h4⟩:=hR
 obtain ⟨t2,e1,e2⟩:=aL.rm t s.env tE h1
 exact ⟨hB,t2,tM,⟨h,e2⟩,h2,fun g=>by have:=e1 g;have:=h3 g;omega,fun g hg=>h4 g (by have:=e1 g;omega)⟩
theorem xy:∀ (p:List Step) (v u v':V) (cs:List Value) (ts:List Nat),b8 G w v cs ts→v.get p=some u→V.put p v u.copy=some v'→cM p →
  ∃ c1 cu c2 tu tv,cs=c1++(cu++c2)∧c1.length=cn p∧(∀ g,bi g tu+bi g tv≤bi g ts)∧b8 G w u cu tu∧b8 G w v' cs tv∧v'.cells=v.cells:=by
 intro p
 induction p with
 | nil =>
  intro v u v' cs ts hv hg hp _
  simp only [V.get,Option.some.injEq] at hg;subst hg
  simp only [V.put] at hp
  obtain ⟨hb,hp⟩:=ap hp
  injection hp with hp;subst hp
  simp only [Bool.and_eq_true] at hb
  exact ⟨[],cs,[],ts,[],by simp,rfl,fun g=>by simp,hv,qG (hv.copy v cs ts),(jr v v.copy).1.trans (aS.1 hb.1.1.1).symm⟩
 | cons st p ih =>
  intro v u v' cs ts hv hg hp hpo
  cases v with
  | dat τ x =>
   obtain ⟨hd,rfl⟩:=id hv
   obtain ⟨c1,cu,c2,tu,e1,e2,e3,e4⟩:=gC (st::p) (.dat τ x) u cs [] hv hg hpo
   have htu:tu=[]:=by
    cases tu with
    | nil=>rfl
    | cons g t=>have:=e3 g;simp [bi] at this
   subst htu
   have hcp:=e4.copy u cu []
   obtain ⟨k1,_,d1,d0,d2,t',f1,f2,f3,f4,f5⟩:=gW (st::p) (.dat τ x) u.copy v' cs cu [] [] hv hcp hp hpo
   have:d1=c1∧d0=cu∧d2=c2:=by
    have h1:d1.length=c1.length:=by rw [f2,e2]
    have h2:=e1.symm.trans f1
    obtain ⟨g1,g2⟩:=List.append_inj h2 h1.symm
    obtain ⟨g3,g4⟩:=List.append_inj g2 f3.symm
    exact ⟨g1.symm,g3.symm,g4.symm⟩
   obtain ⟨rfl,rfl,rfl⟩:=this
   refine ⟨d1,d0,d2,[],t',e1,e2,fun g=>by have:=f4 g;simpa using this,e4,by rw [e1];exact f5,k1⟩
  | pr va vb =>
   obtain ⟨c1,c2,t1,t2,e1,e2,h1,h2⟩:=hv
   cases st with
   | l =>
    simp only [V.get] at hg
    simp only [V.put,Option.map_eq_some_iff] at hp
    obtain ⟨a',ha',rfl⟩:=hp
    obtain ⟨d1,du,d2,tu,tv,f1,f2,f3,f4,f5,f6⟩:=ih va u a' c1 t1 h1 hg ha' hpo
    refine ⟨d1,du,d2++c2,tu,tv++t2,by rw [e1,f1];simp,f2,fun g=>by have:=f3 g;subst e2;simp;omega,f4,by rw [e1];exact dY f5 h2,?_⟩
    rw [dV];simp [V.cells,f6]
   | r o =>
    simp only [V.get] at hg
    obtain ⟨hb,hg⟩:=ap hg
    simp only [V.put] at hp
    obtain ⟨_,hp⟩:=ap hp
    simp only [Option.map_eq_some_iff] at hp
    obtain ⟨b',hb',rfl⟩:=hp
    obtain ⟨d1,du,d2,tu,tv,f1,f2,f3,f4,f5,f6⟩:=ih vb u b' c2 t2 h2 hg hb' hpo
    have hl:=b8.length va c1 t1 h1
    refine ⟨c1++d1,du,d2,tu,t1++tv,by rw [e1,f1];simp,by simp [cn,f2,hl,aS.1 hb],fun g=>by have:=f3 g;subst e2;simp;omega,f4,by rw [e1];exact dY h1 f5,?_⟩
    rw [dV];simp [V.cells,f6]
   | ix n sz i=>simp [V.get] at hg
   | el sz i=>simp [V.get] at hg
  | _=>cases st <;> simp [V.get] at hg
theorem sp {ρ:Option Ty→Operand→Option V} (hρ:zt G w a ρ):∀ (l:List Operand) (tys:List (Option Ty)) (vs:List V),mT ρ tys l=some vs→cK G w vs (l.map a.eval) []
 | [],tys,vs,h=>by simp only [mT,Option.some.injEq] at h;subst h;exact ⟨rfl,rfl⟩
 | x::r,tys,vs,h=>by
  simp only [mT,Option.bind_eq_some_iff,Option.some.injEq] at h
  obtain ⟨v,hv,us,hus,rfl⟩:=h
  exact ⟨a.eval x,r.map a.eval,[],[],rfl,rfl,hρ _ _ _ hv,sp hρ r _ us hus⟩
theorem oi:∀ (vs us:List V) (xs ys:List Value) (ts:List Nat),cK G w vs xs ts→cK G w us ys []→cK G w (vs++us) (xs++ys) ts
 | [],us,xs,ys,ts,⟨h1,h2⟩,k=>by subst h1;subst h2;exact k
 | v::vs,us,xs,ys,ts,⟨x,xs',t1,t2,e1,e2,h1,h2⟩,k=>by
  subst e1
  exact ⟨x,xs'++ys,t1,t2,rfl,e2,h1,oi vs us xs' ys t2 h2 k⟩
theorem nF:∀ (caps:List (Nat × List Step)) (xs:List Value),dB G caps xs→cK G w (caps.map fun x=>.ref x.1 x.2) xs []
 | [],xs,h=>⟨h,rfl⟩
 | (k,p)::r,xs,⟨u,us,h1,h2,h3,h4⟩=>⟨u,us,[],[],h1,rfl,⟨[u],⟨by rw [h2],h3,rfl⟩,rfl⟩,nF r us h4⟩
theorem qT:∀ (us vs:List V) (ys xs:List Value) (ts:List Nat),cK G w us ys []→cK G w vs xs ts→cK G w (us++vs) (ys++xs) ts
 | [],vs,ys,xs,ts,⟨h1,_⟩,k=>by subst h1;exact k
 | u::us,vs,ys,xs,ts,⟨x,ys',t1,t2,e1,e2,h1,h2⟩,k=>by
  have e3:t1=[]:=(List.append_eq_nil_iff.1 e2.symm).1
  have e4:t2=[]:=(List.append_eq_nil_iff.1 e2.symm).2
  subst e1;subst e3;subst e4
  exact ⟨x,ys'++xs,[],ts,rfl,rfl,h1,qT us vs ys' xs ts h2 k⟩
theorem pP {mv:Bool} {tys:List (Option Ty)} {l:List Operand} {vs:List V} {s':St} (hR:RS X G0 w0 G s a.tmps w) (h:xx mv tys s l=some (vs,s')) :
  Base X G0 w0 G w∧∃ tE tM tA,aL G w a.tmps s'.env tE∧aM G w s'.mem tM∧cK G w vs (l.map a.eval) tA∧(∀ g,bi g tE+bi g tM+bi g tA≤1)∧∀ g,0<bi g tE+bi g tM+bi g tA→w0.heap.size≤g∨∀ o,X g o:=by
 cases l with
 | nil =>
  simp only [xx,Option.some.injEq,Prod.mk.injEq] at h
  obtain ⟨rfl,rfl⟩:=h
  obtain ⟨hB,tE,tM,h1,h2,h3,h4⟩:=hR
  exact ⟨hB,tE,tM,[],h1,h2,⟨rfl,rfl⟩,by simpa using h3,by simpa using h4⟩
 | cons x r =>
  simp only [xx,Option.bind_eq_some_iff,Option.some.injEq,Prod.mk.injEq] at h
  obtain ⟨⟨v,s1⟩,hv,us,hus,rfl,rfl⟩:=h
  have hR1:=mG hR hv
  have hA:=sp (RS.reads hR1.rs) r _ us hus
  obtain ⟨hB,tE,tM,tV,h1,h2,h3,h4,h5⟩:=hR1
  exact ⟨hB,tE,tM,tV,h1,h2,⟨a.eval x,r.map a.eval,tV,[],rfl,by simp,h3,hA⟩,h4,h5⟩
theorem zd {α:Type} {o:Oper} {K:St→Option α} {r:α} {f:Nat} {argv:Array Value} (hx:(execOp a.eval o).run P w=(callFunc f argv).run P w) (h:AF P f argv w fun x w'=>∃ G' s',RS X G0 w0 G' s' (D7 a.tmps o.dst x) w'∧K s'=some r) :
  o.wp P a w (EV X G0 w0 a K r) Q:=by
 have key:∀ x,(a.put o.dst x).tmps=D7 a.tmps o.dst x:=fun x=>by cases o.dst <;> rfl
 rcases h with ⟨h1,h2⟩ | ⟨v,w',h1,G',s',h2,h3⟩
 ·simp only [Oper.wp,hx,h1,Oper.upon]
  refine Calls.mono h2 fun e w' he=>?_
  cases e with
  | returned v =>
   obtain ⟨G',s',g1,g2⟩:=he
   exact ⟨G',s',by rw [key];exact g1,fR _ _ _,dU _ _ _,g2⟩
  | _=>exact he.elim
 ·simp only [Oper.wp,hx,h1,Oper.upon]
  exact ⟨G',s',by rw [key];exact h2,fR _ _ _,dU _ _ _,h3⟩
theorem yn {dst:Option Tmp} {f:Operand} {args:Array Operand} {argTypes:Array TypeId} {ty:TypeId} {pos:String} {after:Array Edge} {guard:Option (Nat × Bool)} {g:Nat} {caps:Array Value} (hf:a.eval f = .func (.func g) #[] caps) :
  (execOp a.eval { dst:=dst,op:=.call { callee:=.value f,args:=args,argTypes:=argTypes },type:=ty,pos:=pos,after:=after,guard:=guard }).run P w=(callFunc g (args.map a.eval++caps)).run P w:=by
 simp [execOp,resolve,hf,Deferred.ofValue,invoke]
theorem vO {dst:Option Tmp} {f:Operand} {args:Array Operand} {argTypes:Array TypeId} {ty:TypeId} {pos:String} {after:Array Edge} {guard:Option (Nat × Bool)} {g:Nat} {caps:Array Value} (hf:a.eval f = .func (.func g) caps #[]) :
  (execOp a.eval { dst:=dst,op:=.call { callee:=.value f,args:=args,argTypes:=argTypes },type:=ty,pos:=pos,after:=after,guard:=guard }).run P w=(callFunc g (caps++args.map a.eval)).run P w:=by
 simp [execOp,resolve,hf,Deferred.ofValue,invoke]
theorem wE (l:List Value):∀ (n:Nat) (i:Nat),(List.replicate n l).flatten[i]? = if i<n * l.length then l[i % l.length]? else none
 | 0,i=>by simp
 | n+1,i=>by
  rw [List.replicate_succ,List.flatten_cons]
  by_cases h:i<l.length
  ·rw [List.getElem?_append_left h,if_pos (by rw [Nat.add_mul];omega),Nat.mod_eq_of_lt h]
  ·have hl:l.length≤i:=by omega
   rw [List.getElem?_append_right hl,wE l n]
   have e:(i - l.length) % l.length=i % l.length:=by rw [← Nat.mod_eq_sub_mod hl]
   rw [e]
   by_cases h2:i - l.length<n * l.length
   ·rw [if_pos h2,if_pos (by rw [Nat.add_mul];omega)]
   ·rw [if_neg h2,if_neg (by rw [Nat.add_mul];omega)]
theorem qo (z:Array Value) (n:Nat):(Builtin.zeroCells z n).toList=(List.replicate n z.toList).flatten:=by
 apply List.ext_getElem?
 intro i
 rw [wE]
 have hl:z.toList.length=z.size:=Array.length_toList
 rw [hl]
 by_cases h:i<n * z.size
 ·rw [if_pos h]
  have hp:0<z.size:=by
   rcases Nat.eq_zero_or_pos z.size with h0 | h0
   ·rw [h0] at h;omega
   ·exact h0
  have hm:i % z.size<z.size:=Nat.mod_lt _ hp
  simp [Builtin.zeroCells,h,hm]
 ·rw [if_neg h]
  simp [Builtin.zeroCells];omega
theorem AL {t E ty m:Nat} {e:Ty} {ad:Addr} {ad':Addr} {z:Value} {x:Value} (hE:P.underlying t=some (.slice E)) (hz:(zeroValue E).run P w = .ok z w) (hz2:z.cells.toList=dj e)
  (hx:x = .slice (some (if m=0 then ad else ad')) m m) (ha:ad'=ad) (hs:(storeCells ad (dj (.arr m e))).run P w = .ok () w'):(Builtin.clear_ #[t] ty #[x]).run P w = .ok (.tuple #[]) w':=by
 subst hx;subst ha
 cases m with
 | zero =>
  have:w'=w:=by simpa [dj,storeCells] using hs.symm
  subst this
  simp [Builtin.clear_,run_underlying hE]
 | succ m =>
  have e1:(Builtin.zeroCells z.cells (m+1)).toList=dj (.arr (m+1) e):=by rw [qo,hz2];rfl
  simp only [Builtin.clear_,List.getElem?_toArray,List.getElem?_cons_zero,Sem.run_bind,run_underlying hE,Result.andThen_ok,hz,e1,Nat.add_one_ne_zero,if_false,hs,Sem.run_pure]
theorem cJ {α : Type} {mv ln : Bool} {o : Oper} {K : St → Option α} {r : α} (hT : TT P c) (hC : ∀ f e, lkN c.fns f = some e → CallOK P f e) (hR : RS X G0 w0 G s a.tmps w) (h : fc c mv ln o s K = some r) (hd : ∀ t, o.dst = some t → t < a.tmps.size) :
    o.wp P a w (EV X G0 w0 a K r) Q:=by
  obtain ⟨dst,op,ty,pos,after,guard⟩:=o
  have mvCase : ∀ x, (op = .move x ∨ op = .assign x) → (bif mv then (wP mv (c.ty ty) s x).bind fun vs => K (DN ln x ⟨dst, op, ty, pos, after, guard⟩ (vs.2.dst dst vs.1)) else qn c ⟨dst, op, ty, pos, after, guard⟩ s K) = some r →
      Oper.wp P ⟨dst,op,ty,pos,after,guard⟩ a w (EV X G0 w0 a K r) Q:=by
    intro x hx h
    cases mv with
    | false=>exact kH hT hR h hd
    | true =>
      simp only [cond_true,Option.bind_eq_some_iff] at h
      obtain ⟨⟨v,s'⟩,hv,hK⟩:=h
      have hR1:=mG hR hv
      have hrun : (execOp a.eval ⟨dst, op, ty, pos, after, guard⟩).run P w = .ok (.value (a.eval x)) w := by
        rcases hx with rfl | rfl <;> rfl
      obtain ⟨_,_,_,_,_,_,hTr,_⟩:=id hR1
      have hR2:=gk.put (ct hTr) hd hR1
      simp only [Oper.wp,hrun,Oper.upon]
      refine ⟨G,_,?_,fR _ _ _,dU _ _ _,hK⟩
      cases ln with
      | false=>exact hR2
      | true =>
        cases x with
        | tmp t =>
          cases dst with
          | none=>exact hR2
          | some d =>
            refine xl hR2 ?_
            show (a.tmps.setIfInBounds d (a.tmps.getD t undef)).getD t undef=(a.tmps.setIfInBounds d (a.tmps.getD t undef)).getD d undef
            rw [j0 (hd d rfl)]
            by_cases e:d=t
            · subst e;rw [j0 (hd d rfl)]
            · rw [fL e]
        | _=>exact hR2
  unfold fc at h
  split at h
  · rename_i x hop
    simp only at hop;subst hop
    exact mvCase x (.inl rfl) h
  · rename_i x hop
    simp only at hop;subst hop
    exact mvCase x (.inr rfl) h
  · rename_i t hop
    simp only at hop;subst hop
    simp only [Option.bind_eq_some_iff] at h
    obtain ⟨z,hz,h⟩:=h
    cases dst with
    | none=>cases h
    | some d =>
      simp only at h
      obtain ⟨hch,hK⟩:=ap h
      simp only [Bool.and_eq_true,Option.isNone_iff_eq_none] at hch
      obtain ⟨⟨⟨c1,c2⟩,c3⟩,c4⟩:=hch
      obtain ⟨x,cs,g1,g2,g3,g4,g5⟩:=hT.zero hz G w
      obtain ⟨y, hy, hyc⟩ : ∃ y, aY G w z y [] ∧ y.cells = x.cells := by
        cases hag:z.agg with
        | true=>exact ⟨.agg cs.toArray,⟨cs,g2,by simp [hag]⟩,by show cs.toArray=x.cells;apply Array.ext';simpa using g3.symm⟩
        | false =>
          obtain ⟨u,rfl⟩:=g2.one hag g5
          refine ⟨u,⟨[u],g2,by simp [hag]⟩,?_⟩
          apply Array.ext'
          rw [iu g2 (by simp [hag]),g3]
      have hb:=gk.box (T:=t) (hR.withV hy) (Nat.le_of_ble_eq_true c1) c2 c3 c4 (by rw [g4];rfl) g5
      rw [hyc] at hb
      refine iA ?_ hb hd hK
      simp only [execOp]
      refine gA ?_
      simp only [Instr.alloc,Sem.run_bind,g1,Result.andThen_ok,newVar,newRow,run_newObj_alloc,Sem.run_pure]
  · rename_i t x hop
    simp only at hop;subst hop
    simp only [Option.bind_eq_some_iff] at h
    obtain ⟨⟨v,s'⟩,hv,h⟩:=h
    cases dst with
    | none=>cases h
    | some d =>
      simp only at h
      obtain ⟨hch,hK⟩:=ap h
      simp only [Bool.and_eq_true,Option.isNone_iff_eq_none] at hch
      obtain ⟨⟨⟨⟨⟨c1,c2⟩,c3⟩,c4⟩,c5⟩,c6⟩:=hch
      have hb:=gk.box (T:=t) (mG hR hv) (Nat.le_of_ble_eq_true c1) c2 c3 c4 (by simpa using c5) (xO (by simpa using c6))
      refine iA ?_ hb hd hK
      simp only [execOp]
      refine gA ?_
      simp only [Instr.box,Sem.run_bind,Result.andThen_ok,newVar,newRow,run_newObj_alloc,Sem.run_pure]
  · rename_i t n parts hop
    simp only at hop;subst hop
    simp only [Option.bind_eq_some_iff] at h
    obtain ⟨τ,hτ,h⟩:=h
    split at h
    · rename_i e
      simp only [Option.bind_eq_some_iff] at h
      obtain ⟨ps,hps,h⟩:=h
      obtain ⟨hb,h⟩:=ap h
      simp only [Option.bind_eq_some_iff] at h
      obtain ⟨xs,hxs,hK⟩:=h
      simp only [Bool.and_eq_true] at hb
      obtain ⟨E,m,hu,hE⟩:=dW (hT.ty hτ).1
      obtain ⟨v,w',G',g1,g2⟩:=qH (t:=t) (n:=n) (parts:=parts.map fun p=>(p.1,a.eval p.2)) hR hu hE (by simpa using lW hR.reads _ _ hps) (aS.1 hb.1) (Nat.le_of_ble_eq_true hb.2) hxs
      exact iA (gA g1) g2 hd hK
    · cases h
  · rename_i t ad hop
    simp only at hop;subst hop
    cases mv with
    | false=>exact kH hT hR h hd
    | true =>
      simp only [cond_true,Option.bind_eq_some_iff] at h
      obtain ⟨ly,hly,av,hav,h⟩:=h
      have hra:=ga hR hav
      split at h
      · rename_i k p
        simp only [Option.bind_eq_some_iff] at h
        obtain ⟨v,hv,u,hu,h⟩:=h
        obtain ⟨hb,h⟩:=ap h
        simp only [Option.bind_eq_some_iff] at h
        obtain ⟨v',hv',hK⟩:=h
        simp only [Bool.and_eq_true] at hb
        obtain ⟨hp1,hp2⟩:=hra.ref_
        obtain ⟨hB,tE,tM,h1,h2,h3,h4⟩:=hR
        obtain ⟨t1,t2,cs,hc,g1,g2,g3,g4⟩:=aM.find k s.mem tM v h2 hv
        obtain ⟨c1,cu,c2,tu,tv,e1,e2,e3,e4,e5,e6⟩:=xy p v u v' cs t1 g1 hu hv' hp2
        have hcu : fm w (G.ρ k).1 ((G.ρ k).2 + cn p) cu := by
          intro j y hj
          have:=g2 (cn p+j) y (by rw [e1,List.getElem?_append_right (by omega),List.getElem?_append_left (by have:=(List.getElem?_eq_some_iff.1 hj).1;omega)];rw [← hj];congr 1;omega)
          rwa [← Nat.add_assoc] at this
        obtain ⟨x,hx,hxu⟩:=ni (P:=P) hT hly e4 hcu (aS.1 hb.1) (by simpa using hb.2)
        refine iA (s' := { s with mem := eX s.mem k v' }) (v := u) (x := x) (G' := G) (w' := w) ?_ ⟨hB, tE, tv ++ t2, tu, h1, ⟨tv, t2, cs, rfl, e5, g2, ⟨by rw [e6]; exact g3.1, bH.no (ju hv')⟩, g4⟩, ⟨cu, e4, hxu⟩,
          fun g=>by have:=h3 g;have:=hc g;have:=e3 g;simp;omega,fun g hg=>h4 g (by have:=hc g;have:=e3 g;simp at hg;omega)⟩ hd hK
        simp only [execOp,hp1,Gh.addr]
        exact gA hx
      · cases h
  · rename_i t ad x hop
    simp only at hop;subst hop
    simp only [Option.bind_eq_some_iff] at h
    obtain ⟨ly,hly,av,hav,⟨v,s'⟩,hv,h⟩:=h
    have hra:=ga hR hav
    split at h
    · rename_i k p
      obtain ⟨hb,h⟩:=ap h
      simp only [Option.bind_eq_some_iff] at h
      obtain ⟨u0,hu0,h⟩:=h
      simp only [Bool.and_eq_true,Bool.not_eq_true',Option.isNone_iff_eq_none] at hb
      obtain ⟨hp1,hp2⟩:=hra.ref_
      obtain ⟨u1,w',hK,g1,g2⟩:=gk.storeK (P:=P) (T:=t) (mG hR hv) hu0 h hp2 hb.1.2 (by rw [(hT.lay hly w).1,aS.1 hb.1.1])
      have hdn:=hb.2
      subst hdn
      simp only [Oper.wp,execOp,Sem.run_bind,hp1,g1,Result.andThen_ok,Sem.run_pure,Oper.upon]
      exact ⟨G,_,g2,rfl,rfl,hK⟩
    · cases h
  · rename_i f args argTypes hop
    simp only at hop;subst hop
    simp only [Option.bind_eq_some_iff] at h
    obtain ⟨fv,hfv,h⟩:=h
    have hrf:=ga hR hfv
    split at h
    · rename_i g caps
      simp only [Option.bind_eq_some_iff] at h
      obtain ⟨⟨vs,s'⟩,hvs,h⟩:=h
      obtain ⟨hB,tE,tM,tA,g1,g2,g3,g4,g5⟩:=pP hR hvs
      obtain ⟨_,⟨cv,e1,e2,_⟩,e3⟩:=hrf
      simp only [V.agg,Bool.false_eq_true,if_false] at e3
      rw [e1] at e3
      simp only [List.cons.injEq,and_true] at e3
      have hA:=oi _ _ _ _ _ g3 (nF caps cv.toList e2)
      refine zd (yn e3.symm) ?_
      have := oq (P := P) (tmps := a.tmps) hC h hB g1 g2 hA g4 g5 (fun t ht => by
        split at ht
        · rename_i t' r' hl
          injection ht with ht;subst ht
          rw [hl];rfl
        · cases ht) hd
      have e:(args.toList.map a.eval++cv.toList).toArray=args.map a.eval++cv:=by apply Array.ext';simp
      rw [e] at this
      exact this.mono fun x w' hh => by
        obtain ⟨G',s1,k1,k2⟩:=hh
        exact qe k1 k2
    · rename_i g caps
      simp only [Option.bind_eq_some_iff] at h
      obtain ⟨⟨vs,s'⟩,hvs,h⟩:=h
      obtain ⟨hB,tE,tM,tA,g1,g2,g3,g4,g5⟩:=pP hR hvs
      obtain ⟨_,⟨cv,e1,e2,_⟩,e3⟩:=hrf
      simp only [V.agg,Bool.false_eq_true,if_false] at e3
      rw [e1] at e3
      simp only [List.cons.injEq,and_true] at e3
      have hA:=qT _ _ _ _ _ (nF caps cv.toList e2) g3
      refine zd (vO e3.symm) ?_
      have:=oq (P:=P) (tmps:=a.tmps) hC h hB g1 g2 hA g4 g5 (fun t ht=>by cases ht) hd
      have e:(cv.toList++args.toList.map a.eval).toArray=cv++args.map a.eval:=by apply Array.ext';simp
      rw [e] at this
      exact this.mono fun x w' hh => by
        obtain ⟨G',s1,k1,k2⟩:=hh
        exact qe k1 k2
    · cases h
  · rename_i args argTypes hop
    simp only at hop;subst hop
    split at h
    · rename_i x y t t2 hargs htys
      simp only [Option.bind_eq_some_iff] at h
      obtain ⟨⟨v,s'⟩,hv,u,hu,h⟩:=h
      split at h
      · rename_i e' e2 e xs hty hty2 hvv
        simp only at hvv;subst hvv
        obtain ⟨hb,h⟩:=ap h
        simp only [Option.bind_eq_some_iff] at h
        obtain ⟨ys,hys,h⟩:=h
        obtain ⟨hroom,hK⟩:=cw h
        have hR1:=mG hR hv
        have hy:=aY.as_ hys (ga hR1.rs hu)
        obtain ⟨E,m,hE,hEe⟩:=dW (hT.ty hty).1
        obtain ⟨E2,m2,hE2,_⟩:=dW (hT.ty hty2).1
        obtain ⟨v',w',G',g1,g2⟩:=xF (ty:=ty) hR1 hy hE hE2 hEe (aS.1 hb) hroom
        refine iA ?_ g2 hd hK
        have ea:args=#[x,y]:=by apply Array.ext';simpa using hargs
        have et:argTypes=#[t,t2]:=by apply Array.ext';simpa using htys
        subst ea;subst et
        simp only [execOp,resolve,Sem.run_bind,Sem.run_pure,Result.andThen_ok,invoke,builtin,List.map_toArray,List.map_cons,List.map_nil,g1]
      · cases h
    · cases h
  · rename_i t hop
    simp only at hop;subst hop
    simp only [Option.bind_eq_some_iff] at h
    obtain ⟨ke,hke,h⟩:=h
    cases dst with
    | none=>cases h
    | some d =>
      simp only at h
      obtain ⟨hch,hK⟩:=ap h
      simp only [Bool.and_eq_true,Option.isNone_iff_eq_none] at hch
      obtain ⟨⟨⟨c1,c2⟩,c3⟩,c4⟩:=hch
      refine iA ?_ (gk.mkMap (ka:=ke.1) (kb:=ke.2) hR (Nat.le_of_ble_eq_true c1) c2 c3 c4) hd hK
      simp only [execOp]
      refine gA ?_
      simp only [Instr.makeMap,Option.map_none,Sem.run_bind,Sem.run_pure,Result.andThen_ok,run_newObj_alloc]
  · rename_i t x i y hop
    simp only at hop;subst hop
    simp only [Option.bind_eq_some_iff] at h
    obtain ⟨ke,hke,v,hv,iv,hiv,yv,hyv,h⟩:=h
    split at h
    · rename_i k
      simp only [Option.bind_eq_some_iff] at h
      obtain ⟨u,hu,a1,ha1,b1,hb1,h⟩:=h
      split at h
      · rename_i ka kb es
        split at h
        · rename_i hh
          obtain ⟨h1,h2⟩:=hh
          obtain ⟨k1,k2⟩:=ke
          simp only at h1 h2
          subst h1;subst h2
          obtain ⟨hdn,hK⟩:=ap h
          have hdn:dst=none:=by simpa using hdn
          subst hdn
          have hm:=hT.mp t _ hke
          obtain ⟨w',g1,g2⟩:=RS.mapPut (P:=P) hm hR hu (aY.as_ ha1 (ga hR hiv)) (aY.as_ hb1 (ga hR hyv))
          obtain ⟨ds,⟨q1,q2⟩,q3⟩:=ga hR hv
          simp only [V.agg,Bool.false_eq_true,if_false] at q3
          rw [q1] at q3
          simp only [List.cons.injEq,and_true] at q3
          rw [q3] at g1
          simp only [Oper.wp,execOp,Sem.run_bind,g1,Result.andThen_ok,Sem.run_pure,Oper.upon]
          exact ⟨G,_,g2,rfl,rfl,hK⟩
        · cases h
      · cases h
    · cases h
  · rename_i args argTypes hop
    simp only at hop;subst hop
    split at h
    · rename_i x t hargs htys
      simp only [Option.bind_eq_some_iff] at h
      obtain ⟨v,hv,h⟩:=h
      split at h
      · rename_i e k p m e' l hh hty
        obtain ⟨hb,h⟩:=ap h
        rw [Bool.and_eq_true] at hb
        obtain ⟨hce,hlh⟩:=hb
        have hlh : l = 0 ∧ hh = (m : Int) := by
          unfold ES at hlh
          split at hlh
          · rename_i a b
            simp only [Bool.and_eq_true] at hlh
            exact ⟨by rw [aS.1 hlh.1];rfl,by rw [aS.1 hlh.2];rfl⟩
          · cases hlh
        obtain ⟨hl0,hhm⟩:=hlh
        obtain ⟨u,hu,h⟩:=Option.bind_eq_some_iff.1 h
        obtain ⟨u',hu',hK⟩:=Option.bind_eq_some_iff.1 h
        subst hl0;subst hhm
        obtain ⟨E,m',hE,hEe⟩:=dW (hT.ty hty).1
        obtain ⟨cs,⟨q1,q2,_,q4⟩,q5⟩:=ga hR hv
        simp only [V.agg,Bool.false_eq_true,if_false] at q5
        rw [q1] at q5
        simp only [List.cons.injEq,and_true] at q5
        have hz:=ij G w (.arr m e)
        have hR1:=gk.storeC (P:=P) (hR.withV (v:=.dat (.arr m e) (aV m e.zero)) (x:=.agg (dj (.arr m e)).toArray) ⟨_,hz,rfl⟩) hu hu' q2 rfl
        obtain ⟨w',g1,g2⟩:=hR1
        obtain ⟨z,hz1,hz2⟩:=(dI hEe).zero w
        have ea:args=#[x]:=by apply Array.ext';simpa using hargs
        have et:argTypes=#[t]:=by apply Array.ext';simpa using htys
        subst ea;subst et
        have g3:(Builtin.clear_ #[t] ty #[a.eval x]).run P w = .ok (.tuple #[]) w':=AL (m:=m) (ad:=G.addr k p) (ad':=G.addr k (p++[.ix m e'.cells 0])) hE hz1 hz2 (by rw [← q5];rfl) (by simp [Gh.addr,dE,cn]) g1
        have hR2:gk X G0 w0 G { s with mem:=eX s.mem k u' } a.tmps w' .unit (.tuple #[]):=g2.withV ⟨_,⟨rfl,rfl⟩,rfl⟩
        refine iA ?_ hR2 hd hK
        simp only [execOp,resolve,Sem.run_bind,Sem.run_pure,Result.andThen_ok,invoke,builtin,List.map_toArray,List.map_cons,List.map_nil,g3]
      · cases h
    · cases h
  · exact kH hT hR h hd
end Go.Proofs.YtfhcammihohmjaaGreatDoor.Pal
end
noncomputable section
/- Regions in their order; what is iI from region to region. -/
namespace Go.Proofs.YtfhcammihohmjaaGreatDoor.Pal
open Go
variable [MonoC]
variable {P:Program} {X Y:Nat→Nat→Prop} {G0 G G':Gh} {w0 w w':World} {s:St} {a:Act} {c:Cx} {Q:Exit→Act→World→Prop}

theorem AH {tmps:Array Value} {g:Nat} {b:Bool} (h:tmps.getD g undef = .bool b):tmps[g]? = some (.bool b):=by
 rw [Array.getD_eq_getD_getElem?] at h
 cases hg:tmps[g]? with
 | none=>rw [hg] at h;cases h
 | some v=>rw [hg] at h;simp at h;rw [h]
theorem RS.find {t:Nat} {v:V} (hR:RS X G0 w0 G s a.tmps w) (h:lk s.env t=some v) (hn:cF v):∃ ts,aY G w v (a.tmps.getD t undef) ts:=by
 obtain ⟨_,tE,tM,h1,_⟩:=hR
 obtain ⟨t1,t2,_,h2,_⟩:=aL.find t s.env tE v h1 h hn
 exact ⟨t1,h2⟩
theorem RS.refine_ {g:Nat} {b:Bool} (hR:RS X G0 w0 G s a.tmps w) (h:lk s.env g=some (.dat .bool b)):RS X G0 w0 G (s.set g (.dat .bool b)) a.tmps w:=by
 obtain ⟨ts,hT⟩:=hR.find h trivial
 obtain ⟨hB,tE,tM,h1,h2,h3,h4⟩:=hR
 obtain ⟨t2,e1,e2⟩:=aL.write g (a.tmps.getD g undef) s.env tE h1
 rw [BF] at e2
 have:aY G w (.dat .bool b) (a.tmps.getD g undef) []:=by rw [hT.dat_bool];exact aY.bool b
 exact ⟨hB,[]++t2,tM,⟨[],t2,rfl,this,e2⟩,h2,fun g=>by have:=e1 g;have:=h3 g;simp;omega,fun g hg=>h4 g (by have:=e1 g;simp at hg;omega)⟩
theorem pM:aY G w .unit undef []:=⟨_,⟨rfl,rfl⟩,rfl⟩
theorem RS.skip {d:Option Nat} (hR:RS X G0 w0 G s a.tmps w):RS X G0 w0 G (s.dst d .unit) (a.put d undef).tmps w:=by
 cases d with
 | none=>exact hR
 | some d =>
  obtain ⟨hB,tE,tM,h1,h2,h3,h4⟩:=hR
  obtain ⟨t2,e1,e2⟩:=aL.write d undef s.env tE h1
  refine ⟨hB,[]++t2,tM,(aL.cons (v:=.unit) trivial).2 ⟨[],t2,rfl,?_,e2⟩,h2,fun g=>by have:=e1 g;have:=h3 g;simp;omega,fun g hg=>h4 g (by have:=e1 g;simp at hg;omega)⟩
  have:(a.put (some d) undef).tmps.getD d undef=undef:=by
   show (a.tmps.setIfInBounds d undef).getD d undef=undef
   simp only [Array.getD_eq_getD_getElem?,Array.getElem?_setIfInBounds]
   split
   ·split <;> rfl
   ·rename_i h;exact absurd trivial h
  rw [this];exact pM
theorem jB {ops:Array Oper} {j g:Nat} (hR:RS X G0 w0 G s a.tmps w) (hg:(ops[j]?).bind (·.dst)=some g) (h:lk s.env g=some .unit):yielded ops a.tmps j=none:=by
 obtain ⟨ts,cs,⟨h1,_⟩,h2⟩:=hR.find h trivial
 simp only [V.agg,Bool.false_eq_true,if_false] at h2
 rw [h1] at h2
 simp only [List.cons.injEq,and_true] at h2
 simp only [yielded,hg,Option.bind_some]
 rw [Array.getD_eq_getD_getElem?] at h2
 cases hx:a.tmps[g]? with
 | none=>rfl
 | some v=>rw [hx] at h2;simp only [Option.getD_some] at h2;subst h2;rfl
theorem jM {ops:Array Oper} {j g:Nat} {b:Bool} (hR:RS X G0 w0 G s a.tmps w) (hg:(ops[j]?).bind (·.dst)=some g) (h:lk s.env g=some (.dat .bool b)):yielded ops a.tmps j=some b:=by
 obtain ⟨ts,hT⟩:=hR.find h trivial
 simp only [yielded,hg,Option.bind_some,AH hT.dat_bool]
theorem hJ {α : Type} {ops : Array Oper} {mvs lns : List Nat} {K : St → Option α} {res : α} {n : Nat} {ds : List Deferred} (hT : TT P c) (hC : ∀ f e, lkN c.fns f = some e → CallOK P f e) (hdst : ∀ o ∈ ops.toList, ∀ t, o.dst = some t → t < n)
    (hQ:∀ a' w' G' s',RS X G0 w0 G' s' a'.tmps w'→a'.tmps.size=n→a'.defers=ds→K s'=some res→Q .normal a' w') :
    ∀ (r:List Oper) (i:Nat) (s:St) (a:Act) (w:World) (G:Gh),ops.toList.drop i=r→cS c ops mvs lns i r s K=some res→RS X G0 w0 G s a.tmps w→a.tmps.size=n→a.defers=ds→wpOps P ops Q (List.range' i r.length) a w
  | [], i, s, a, w, G, _, h, hR, hn, hds => by
    simp only [cS] at h
    exact hQ a w G s hR hn hds h
  | o :: r, i, s, a, w, G, hr, h, hR, hn, hds => by
    have hi : ops[i]? = some o := by
      rw [← Array.getElem?_toList]
      have:(ops.toList.drop i)[0]? = some o:=by rw [hr];rfl
      simpa using this
    have hr' : ops.toList.drop (i + 1) = r := by
      rw [← List.drop_drop,hr];rfl
    have hmem:o ∈ ops.toList:=by rw [← Array.getElem?_toList] at hi;exact List.mem_of_getElem? hi
    have hd:∀ t,o.dst=some t→t<a.tmps.size:=fun t ht=>by rw [hn];exact hdst o hmem t ht
    have go : ∀ (s1 : St) (K' : St → Option α), RS X G0 w0 G s1 a.tmps w → (∀ s2, K' s2 = some res → cS c ops mvs lns (i + 1) r s2 K = some res) → fc c (bn i mvs) (bn i lns) o s1 K' = some res →
        o.wp P a w (wpOps P ops Q (List.range' (i+1) r.length)) Q:=by
      intro s1 K' hR1 hK' hs
      refine Oper.wp_mono (fun a' w' hN=>?_) (cJ (Q:=Q) hT hC hR1 hs hd)
      obtain ⟨G',s',g1,g2,g3,g4⟩:=hN
      exact hJ hT hC hdst hQ r (i+1) s' a' w' G' hr' (hK' s' g4) g1 (g2.trans hn) (g3.trans hds)
    show wpOps P ops Q (i::List.range' (i+1) r.length) a w
    simp only [wpOps,hi]
    simp only [cS] at h
    cases hgd:o.guard with
    | none =>
      simp only [hgd] at h
      rw [if_pos (by simp [Region.wanted,hgd])]
      exact .inl (go s _ hR (fun s2 h2=>h2) h)
    | some jw =>
      obtain ⟨j,want⟩:=jw
      simp only [hgd,Option.bind_eq_some_iff] at h
      obtain ⟨g,hg,gv,hgv,h⟩:=h
      have hg':(ops[j]?).bind (·.dst)=some g:=by simpa [Option.bind_eq_some_iff] using hg
      split at h
      · rename_i b
        have hy:=jM hR hg' hgv
        have hR1:=hR.refine_ hgv
        have hw : Region.wanted o (yielded ops a.tmps) = (b == want) := by
          simp only [Region.wanted,hgd,hy]
          cases b <;> cases want <;> rfl
        have skip : ∀ (s1 : St), RS X G0 w0 G s1 a.tmps w → cS c ops mvs lns (i + 1) r (s1.dst o.dst .unit) K = some res → wpOps P ops Q (List.range' (i + 1) r.length) (a.put o.dst undef) w := by
          intro s1 hR1 h1
          exact hJ hT hC hdst hQ r (i+1) _ _ w G hr' h1 hR1.skip ((fR _ _ _).trans hn) ((dU _ _ _).trans hds)
        rcases kj h with ⟨rfl,h⟩ | ⟨rfl,h⟩
        · cases want with
          | true =>
            rw [if_pos (by rw [hw];rfl)]
            exact .inl (go _ _ hR1 (fun s2 h2=>h2) h)
          | false =>
            rw [if_neg (by rw [hw];simp)]
            exact skip _ hR1 h
        · cases want with
          | true =>
            rw [if_neg (by rw [hw];simp)]
            exact skip _ hR1 h
          | false =>
            rw [if_pos (by rw [hw];rfl)]
            exact .inl (go _ _ hR1 (fun s2 h2=>h2) h)
      · have hy:=jB hR hg' hgv
        rw [if_neg (by simp [Region.wanted,hgd,hy])]
        exact hJ hT hC hdst hQ r (i+1) _ _ w G hr' h hR.skip ((fR _ _ _).trans hn) ((dU _ _ _).trans hds)
      · cases h
theorem aL.findL {tmps:Array Value} (t:Nat):∀ (env:List (Nat × V)) (ts:List Nat) (u:Nat),aL G w tmps env ts→lk env t=some (.lent u)→tmps.getD t undef=tmps.getD u undef
 | [],_,_,_,h=>by simp [lk] at h
 | (k,v)::r,ts,u,h,hl=>by
  rw [bR] at hl
  by_cases e:k=t
  ·rw [if_pos e] at hl
   injection hl with hl;subst hl;subst e
   exact h.1
  ·rw [if_neg e] at hl
   cases v with
   | lent x=>exact aL.findL t r ts u h.2 hl
   | _ =>
    obtain ⟨s1,s2,rfl,h1,h2⟩:=h
    exact aL.findL t r s2 u h2 hl
theorem aL.pick {tmps:Array Value}:∀ (l:List Nat) (env:List (Nat × V)) (ts:List Nat),aL G w tmps env ts→∃ t,(∀ g,bi g t≤bi g ts)∧aL G w tmps (Pal.pick env l) t
 | [],env,ts,h=>⟨[],fun g=>by simp,rfl⟩
 | t::l,env,ts,h=>by
  have lentCase:∀ t u,lk env t=some (.lent u)→∃ t3,(∀ g,bi g t3≤bi g ts)∧aL G w tmps ((t,.lent u)::Pal.pick (Pal.rm env t) l) t3:=by
   intro t u hl
   obtain ⟨t2,e1,e2⟩:=aL.rm t env ts h
   obtain ⟨t3,e4,e5⟩:=aL.pick l (Pal.rm env t) t2 e2
   exact ⟨t3,fun g=>by have:=e1 g;have:=e4 g;omega,aL.findL t env ts u h hl,e5⟩
  simp only [Pal.pick]
  cases Nat.ble 10000000 t with
  | true =>
   simp only [cond_true]
   cases hl:lk env (t - 10000000) with
   | none=>exact aL.pick l env ts h
   | some v =>
    by_cases hn:cF v
    ·obtain ⟨t1,t2,e1,e2,e3⟩:=aL.find _ env ts v h hl hn
     obtain ⟨t3,e4,e5⟩:=aL.pick l _ t2 e3
     have hc:cF v.copy:=ct e2.copy
     exact ⟨[]++t3,fun g=>by have:=e1 g;have:=e4 g;simp;omega,(aL.cons hc).2 ⟨[],t3,rfl,e2.copy,e5⟩⟩
    ·cases v with
     | lent u=>exact lentCase _ u hl
     | _=>exact absurd trivial hn
  | false =>
   simp only [cond_false]
   cases hl:lk env t with
   | none=>exact aL.pick l env ts h
   | some v =>
    by_cases hn:cF v
    ·obtain ⟨t1,t2,e1,e2,e3⟩:=aL.find t env ts v h hl hn
     obtain ⟨t3,e4,e5⟩:=aL.pick l (Pal.rm env t) t2 e3
     exact ⟨t1++t3,fun g=>by have:=e1 g;have:=e4 g;simp;omega,(aL.cons hn).2 ⟨t1,t3,rfl,e2,e5⟩⟩
    ·cases v with
     | lent u=>exact lentCase t u hl
     | _=>exact absurd trivial hn
theorem aM.pick:∀ (l:List Nat) (m:List (Nat × V)) (ts:List Nat),aM G w m ts→∃ t,(∀ g,bi g t≤bi g ts)∧aM G w (Pal.pick m l) t
 | [],m,ts,h=>⟨[],fun g=>by simp,rfl⟩
 | t::l,m,ts,h=>by
  simp only [Pal.pick]
  cases Nat.ble 10000000 t with
  | true =>
   simp only [cond_true]
   cases hl:lk m (t - 10000000) with
   | none=>exact aM.pick l m ts h
   | some v =>
    obtain ⟨t1,t2,cs,e1,e2,e3,e4,e5⟩:=aM.find _ m ts v h hl
    obtain ⟨t3,f1,f2⟩:=aM.pick l _ t2 e5
    have hcl:v.copy.cells=v.cells:=by rw [← b8.length _ _ _ (e2.copy v cs t1),b8.length _ _ _ e2]
    exact ⟨[]++t3,fun g=>by have:=e1 g;have:=f1 g;simp;omega,[],t3,cs,rfl,e2.copy v cs t1,e3,⟨by rw [hcl];exact e4.1,e4.2.copy⟩,f2⟩
  | false =>
   simp only [cond_false]
   cases hl:lk m t with
   | none=>exact aM.pick l m ts h
   | some v =>
    obtain ⟨t1,t2,cs,e1,e2,e3,e4,e5⟩:=aM.find t m ts v h hl
    obtain ⟨t3,f1,f2⟩:=aM.pick l (Pal.rm m t) t2 e5
    exact ⟨t1++t3,fun g=>by have:=e1 g;have:=f1 g;simp;omega,t1,t3,cs,rfl,e2,e3,e4,f2⟩
theorem RS.prune {tmps:Array Value} (l m:List Nat) (hR:RS X G0 w0 G s tmps w):RS X G0 w0 G (Pal.prune l m s) tmps w:=by
 obtain ⟨hB,tE,tM,h1,h2,h3,h4⟩:=hR
 obtain ⟨t1,e1,e2⟩:=aL.pick l s.env tE h1
 obtain ⟨t2,f1,f2⟩:=aM.pick m s.mem tM h2
 exact ⟨hB,t1,t2,e2,f2,fun g=>by have:=h3 g;have:=e1 g;have:=f1 g;omega,fun g hg=>h4 g (by have:=e1 g;have:=f1 g;omega)⟩
theorem my (t u:Nat):∀ m:List (Nat × V),rm (rm m t) u=rm (rm m u) t
 | []=>rfl
 | (k,v)::r=>by
  rw [dq,dq]
  by_cases h1:k=t <;> by_cases h2:k=u
  ·rw [if_pos h1,if_pos h2,my t u r]
  ·rw [if_pos h1,if_neg h2,dq,if_pos h1,my t u r]
  ·rw [if_neg h1,if_pos h2,dq,if_pos h2,my t u r]
  ·rw [if_neg h1,if_neg h2,dq,dq,if_neg h1,if_neg h2,my t u r]
theorem oh {tmps:Array Value}:∀ (env:List (Nat × V)) (ts:List Nat) (t x:Nat),aL G w tmps env ts→pK env=some (t,x)→tmps.getD t undef=tmps.getD x undef
 | [],_,_,_,_,h=>by simp [pK] at h
 | (k,v)::r,ts,t,x,hE,h=>by
  cases v with
  | lent u =>
   simp only [pK,Option.some.injEq,Prod.mk.injEq] at h
   obtain ⟨rfl,rfl⟩:=h
   exact hE.1
  | _ =>
   obtain ⟨s1,s2,rfl,_,h2⟩:=hE
   exact oh r s2 t x h2 h
theorem RS.settle {tmps:Array Value} (hR:RS X G0 w0 G s tmps w):RS X G0 w0 G { s with env:=Pal.settle s.env } tmps w:=by
 obtain ⟨hB,tE,tM,h1,h2,h3,h4⟩:=hR
 have done:∀ env',(∃ t2,(∀ g,bi g t2≤bi g tE)∧aL G w tmps env' t2)→RS X G0 w0 G { s with env:=env' } tmps w:=by
  rintro env' ⟨t2,e1,e2⟩
  exact ⟨hB,t2,tM,e2,h2,fun g=>by have:=h3 g;have:=e1 g;omega,fun g hg=>h4 g (by have:=e1 g;omega)⟩
 refine done _ ?_
 unfold Pal.settle
 split
 ·exact ⟨tE,fun _=>Nat.le_refl _,h1⟩
 ·rename_i t x hl
  have heq:=oh s.env tE t x h1 hl
  split
  ·rename_i v hv
   by_cases hn:cF v
   ·obtain ⟨t1,t2,e1,e2,e3⟩:=aL.find x s.env tE v h1 hv hn
    obtain ⟨t3,e4,e5⟩:=aL.rm t (Pal.rm s.env x) t2 e3
    rw [my] at e5
    exact ⟨t1++t3,fun g=>by have:=e1 g;have:=e4 g;simp;omega,(aL.cons hn).2 ⟨t1,t3,rfl,by rw [heq];exact e2,e5⟩⟩
   ·cases v with
    | lent u =>
     obtain ⟨t2,e1,e2⟩:=aL.rm t s.env tE h1
     obtain ⟨t3,e4,e5⟩:=aL.rm x _ t2 e2
     exact ⟨t3,fun g=>by have:=e1 g;have:=e4 g;omega,heq.trans (aL.findL x s.env tE u h1 hv),e5⟩
    | _=>exact absurd trivial hn
  ·exact aL.rm t s.env tE h1
end Go.Proofs.YtfhcammihohmjaaGreatDoor.Pal
end
noncomputable section
/- What an operation gives does not hang on what is done with it. -/
namespace Go.Proofs.YtfhcammihohmjaaGreatDoor.Pal
open Go
variable [MonoC]
variable {c:Cx}
theorem bX {α β:Type} {b:Bool} {x y:Option α} {f:α→Option β}:(br b x y).bind f=br b (x.bind f) (y.bind f):=by cases b <;> rfl
theorem bD {α β:Type} {b:Bool} {x:Option α} {f:α→Option β}:(bif b then x else none).bind f=bif b then x.bind f else none:=by cases b <;> rfl
theorem pZ {α β:Type} {b:Bool} {x y:Option α} {f:α→Option β}:(bif b then x else y).bind f=bif b then x.bind f else y.bind f:=by cases b <;> rfl
theorem aA {α β γ:Type} {x:Option α} {f:α→Option β} {g:α→Option γ} {k:γ→Option β} (h:∀ a,f a=(g a).bind k):x.bind f=(x.bind g).bind k:=by
 cases x with
 | none=>rfl
 | some a=>exact h a
theorem Cl {α:Type} (pt:Bool) (ty:Option Ty) (op:BinOp) (x y:V) (K:V→Option α):oA pt ty op x y K=(oA pt ty op x y some).bind K:=by
 unfold oA
 split
 ·cases op <;> simp only [bX,Option.bind_some,Option.bind_none]
 ·cases op <;> simp only [bX,Option.bind_some,Option.bind_none]
 ·cases pt <;> cases op <;> rfl
 ·cases pt <;> cases op <;> rfl
 ·cases pt <;> cases op <;> rfl
 ·split
  ·rename_i τ
   cases τ.hasEq with
   | false=>rfl
   | true =>
    simp only [cond_true]
    refine aA fun a=>aA fun b=>?_
    cases op <;> rfl
  ·rfl
theorem BM {α β:Type} {k:Nat} {v:V} {p:List Step} {f:V→Option α} {g:V→Option β} {h:β→Option α} (hf:∀ u,f u=(g u).bind h):CO k v p f=(CO k v p g).bind h:=by
 unfold CO
 split
 ·split
  ·rw [bD,bX]
   congr 2
   exact aA hf
  ·rfl
 ·exact aA hf
theorem wh {α β:Type} {k:Nat} {v:V} {p:List Step} {u:V} {f:V→Option α} {g:V→Option β} {h:β→Option α} (hf:∀ u,f u=(g u).bind h):vf k v p u f=(vf k v p u g).bind h:=by
 unfold vf
 split
 ·split
  ·rw [bD,bX]
   congr 2
   exact aA fun v'=>aA fun y=>hf _
  ·rfl
 ·exact aA hf
theorem lm {α:Type} (k:Nat) (v:V) (p:List Step) (u:V) (f:V→Option α):vf k v p u f=(vf k v p u some).bind f:=wh fun _=>rfl
theorem BC {α:Type} (o:Oper) (ρ:Option Ty→Operand→Option V) (m:List (Nat × V)) (K:V→Option α):ge c o ρ m K=(ge c o ρ m some).bind K:=by
 unfold ge
 split
 ·exact aA fun a=>rfl
 ·exact aA fun a=>rfl
 ·refine aA fun a=>?_
  split
  ·rw [bX]
   congr 1
   ·exact aA fun a=>rfl
   ·exact aA fun a=>rfl
  ·rfl
 ·refine aA fun a=>?_
  rw [bD];congr 1
  exact aA fun b=>aA fun d=>rfl
 ·refine aA fun a=>aA fun b=>?_
  split
  ·refine aA fun d=>BM fun e=>?_
   rw [bD];rfl
  ·rw [bD];rfl
  ·rfl
 ·refine aA fun a=>?_
  split <;> rfl
 ·refine aA fun a=>aA fun b=>?_
  rw [bD,← Cl]
 ·refine aA fun a=>?_
  split
  ·rfl
  ·rfl
  ·rw [bD];rfl
  ·rfl
 ·refine aA fun a=>aA fun b=>aA fun d=>?_
  split <;> rfl
 ·refine aA fun a=>aA fun b=>aA fun d=>aA fun e=>?_
  split
  ·exact aA fun a=>by rw [bX];rfl
  ·exact aA fun a=>by rw [bX];rfl
  ·split
   ·rw [bX];rfl
   ·rfl
  ·rfl
 ·refine aA fun a=>?_
  rw [bD];congr 1
  refine aA fun b=>?_
  split
  ·rfl
  ·refine aA fun d=>?_
   split <;> rfl
  ·rfl
 ·refine aA fun a=>aA fun b=>aA fun d=>?_
  split
  ·split
   ·rw [bD,bX];rfl
   ·rw [bD,bX];rfl
   ·exact aA fun a=>by rw [bX];rfl
  ·split
   ·rw [bX];rfl
   ·exact aA fun a=>by rw [bX];rfl
   ·rfl
  ·rfl
 ·refine aA fun a=>aA fun b=>aA fun d=>?_
  split
  ·exact aA fun a=>by rw [bX];rfl
  ·exact aA fun a=>by rw [bX];rfl
  ·rfl
 ·refine aA fun ke=>aA fun v=>aA fun iv=>?_
  split
  ·refine aA fun u=>aA fun y=>?_
   split
   ·split
    ·rw [pZ];rfl
    ·rfl
   ·rfl
  ·rfl
 ·refine aA fun a=>?_
  split <;> rfl
 ·rw [pZ];congr 1
  ·exact aA fun a=>aA fun b=>rfl
  ·rw [bD];congr 1
   exact aA fun a=>aA fun b=>rfl
 ·split
  ·refine aA fun a=>aA fun b=>?_
   rw [bD];congr 1
   exact aA fun d=>rfl
  ·refine aA fun a=>aA fun b=>?_
   split
   ·rw [bD];rfl
   ·rfl
  ·refine aA fun a=>aA fun b=>?_
   split
   ·rw [bD];rfl
   ·rfl
  ·rfl
 ·rfl
end Go.Proofs.YtfhcammihohmjaaGreatDoor.Pal
end
noncomputable section
/- Regions whose order is free: what the steps give in the text's order. -/
namespace Go.Proofs.YtfhcammihohmjaaGreatDoor.Pal
open Go
variable [MonoC]
variable {P:Program} {X Y:Nat→Nat→Prop} {G0 G G':Gh} {w0 w w':World} {s:St} {a:Act} {c:Cx} {Q:Exit→Act→World→Prop}

theorem fS (s:St) (e:Option Ty) (x:Operand):nl e s x=jP (lk s.env) e x:=by cases x <;> rfl
theorem yx (s:St):(fun e x=>nl e s x)=jP (lk s.env):=by funext e x;exact fS s e x
theorem ew {α:Type} (mv:Bool) (o:Oper) (L:Nat→Option V) (m:List (Nat × V)) (K:V→Option α):iy c mv o L m K=(iy c mv o L m some).bind K:=by
 unfold iy
 split
 ·split
  ·refine aA fun a=>aA fun b=>?_
   split
   ·rw [bD];congr 1
    refine aA fun d=>?_
    rw [bX];rfl
   ·rfl
  ·rfl
 ·exact aA fun a=>rfl
 ·exact aA fun a=>rfl
 ·refine aA fun a=>?_
  split
  ·refine aA fun b=>?_
   rw [bD];congr 1
   exact aA fun d=>rfl
  ·rfl
 ·exact BC o _ m K
abbrev ut (v:V) (m:List (Nat × V)):Option (V × List (Nat × V)):=some (v,m)
theorem Ap {α:Type} (hC:∀ f e,lkN c.fns f=some e→CallOK P f e) (mv:Bool) (o:Oper) (L:Nat→Option V) (m:List (Nat × V)) (K:V→List (Nat × V)→Option α):da c mv o L m K=(da c mv o L m ut).bind fun x=>K x.1 x.2:=by
 unfold da
 split
 ·refine aA fun a=>?_
  split
  ·refine aA fun b=>?_
   cases he:lkN c.fns _ with
   | none=>rfl
   | some e =>
    simp only [Option.bind_some]
    refine aA fun ar=>?_
    rw [bD];congr 1
    refine aA fun objs=>?_
    rw [bD];congr 1
    rw [(hC _ e he).nat,(hC _ e he).nat (V × List (Nat × V))]
    refine aA fun p=>?_
    refine aA fun m'=>?_
    rw [bD];rfl
  ·rfl
 ·refine aA fun a=>aA fun b=>aA fun d=>?_
  split
  ·rw [bD];congr 1
   exact aA fun u=>wh fun u'=>rfl
  ·rfl
 ·refine aA fun ke=>aA fun v=>aA fun iv=>aA fun yv=>?_
  split
  ·refine aA fun u=>aA fun a=>aA fun b=>?_
   split
   ·split
    ·rw [bD];rfl
    ·rfl
   ·rfl
  ·rfl
 ·cases mv with
  | true =>
   simp only [cond_true]
   refine aA fun a=>aA fun b=>?_
   split
   ·refine aA fun d=>aA fun e=>?_
    rw [bD];congr 1
    exact aA fun u=>rfl
   ·rfl
  | false =>
   simp only [cond_false]
   rw [ew,ew (K:=fun v=>ut v m),Option.bind_assoc];rfl
 ·refine aA fun z=>?_
  split
  ·rw [bD];rfl
  ·rfl
 ·rw [ew,ew (K:=fun v=>ut v m),Option.bind_assoc];rfl
theorem wo {ops:Array Oper} {o:Oper} {v:V} {m:List (Nat × V)} (h:AZ ops o v m=true):DA v=true:=by
 simp only [AZ,Bool.and_eq_true] at h;exact h.1
theorem vB {dst:Option Nat} {v:V} {m:List (Nat × V)}:∀ {ds:List Nat},GJ ds dst v m=true→∀ d ∈ ds,cz d m=true∧(dst=some d∨bn d v.refs=false)
 | [],_,d,hd=>by cases hd
 | e::r,h,d,hd=>by
  simp only [GJ,Bool.and_eq_true,Bool.or_eq_true,Bool.not_eq_true'] at h
  rcases List.mem_cons.1 hd with rfl | hd
  ·refine ⟨h.1.1,h.1.2.imp (fun hh=>?_) id⟩
   unfold GZ at hh
   split at hh
   ·rename_i t;rw [Nat.eq_of_beq_eq_true hh]
   ·cases hh
  ·exact vB h.2 d hd
theorem nC {e m:List (Nat × V)}:∀ {ds:List Nat},Ax ds e m=true→∀ d ∈ ds,cz d e=true∧cz d m=true
 | [],_,d,hd=>by cases hd
 | q::r,h,d,hd=>by
  simp only [Ax,Bool.and_eq_true] at h
  rcases List.mem_cons.1 hd with rfl | hd
  ·exact h.1
  ·exact nC h.2 d hd
theorem vu {o:Oper} {t:TypeId} {d:Nat}:∀ {l:List Oper},o ∈ l→o.op = .alloc t→o.dst=some d→d ∈ jW l
 | [],h,_,_=>by cases h
 | p::r,h,h1,h2=>by
  rcases List.mem_cons.1 h with rfl | h
  ·simp [jW,h1,h2]
  ·have ih:=vu (l:=r) h h1 h2
   unfold jW
   split
   ·exact List.mem_cons_of_mem _ ih
   ·exact ih
def oB (L:Nat→Option V) (d:Option Nat) (x:Option V):Nat→Option V:=fun t=>if d=some t then x else L t
def fO (c:Cx) (ops:Array Oper) (mvs:List Nat) (m:List (Nat × V)) (i:Nat) (o:Oper) (L:Nat→Option V) (x:V × Bool) (m':List (Nat × V)):Prop :=
 match o.guard with
 | none=>x.2=true∧da c (bn i mvs) o L m ut=some (x.1,m')∧AZ ops o x.1 m'=true
 | some (j,want)=>∃ g gv,(ops[j]?).bind (·.dst)=some g∧L g=some gv∧((gv = .dat .bool want∧x.2=true∧da c (bn i mvs) o L m ut=some (x.1,m')∧AZ ops o x.1 m'=true)∨((gv = .dat .bool (!want)∨gv = .unit)∧x=(.unit,false)∧m'=m))
def ey (L:Nat→Option V) (mv:Bool) (o:Oper) (x:V × Bool):Nat→Option V:=oB (mE L (if x.2 then cB mv o else none)) o.dst (some x.1)
def qX (mvs:List Nat) (ops:Array Oper) (Ls:Nat→Nat→Option V) (xs:Nat→V × Bool) (j:Nat):List Nat × Bool:=match ops[j]? with
 | some o=>if (xs j).2 then jI (bn j mvs) o (Ls j) else ([],false)
 | none=>([],false)
structure Tr (c:Cx) (ops:Array Oper) (mvs:List Nat) (pr:List (List Nat)) (Ls:Nat→Nat→Option V) (ms:Nat→List (Nat × V)) (xs:Nat→V × Bool) (i n:Nat):Prop where
 step:∀ j,i≤j→j<n→∃ o m1,ops[j]? = some o∧fO c ops mvs (ms j) j o (Ls j) (xs j) m1∧lk m1=lk (ms (j+1))∧Ls (j+1)=ey (Ls j) (bn j mvs) o (xs j)
 far:∀ p j,i≤p→p<j→j<n→kG (lB pr j) (qX mvs ops Ls xs j) p (qX mvs ops Ls xs p)=true
theorem me:∀ (env:List (Nat × V)) (d:Nat),bP env=true→B1 env d=rm env d
 | [],_,_=>rfl
 | (k,v)::r,d,h=>by
  simp only [bP,Bool.and_eq_true] at h
  have ih:=me r d h.2
  cases v with
  | lent t=>cases h.1
  | _=>simp only [B1,rm,ih,Bool.or_false]
theorem ic:∀ (env:List (Nat × V)) (d:Nat),bP env=true→bP (rm env d)=true
 | [],_,_=>rfl
 | (k,v)::r,d,h=>by
  have h2:=h
  simp only [bP,Bool.and_eq_true] at h
  rw [dq]
  split
  ·exact ic r d h.2
  ·simp only [bP,Bool.and_eq_true];exact ⟨h.1,ic r d h.2⟩
theorem lQ (d:Nat):∀ env:List (Nat × V),lk (rm env d) d=none
 | []=>rfl
 | (k,v)::r=>by
  rw [dq]
  split
  ·exact lQ d r
  ·rename_i e;rw [bR,if_neg e,lQ d r]
theorem nz {env:List (Nat × V)} {d:Nat} {v:V} (h:bP env=true):lk ((d,v)::B1 env d)=oB (lk env) (some d) (some v):=by
 funext t
 rw [bR,me env d h]
 simp only [oB,Option.some.injEq]
 split
 ·rfl
 ·rename_i e;exact cm e env
theorem gw {env:List (Nat × V)} {d:Nat} {v:V} (h:bP env=true) (hv:DA v=true):bP ((d,v)::B1 env d)=true:=by
 rw [me env d h]
 simp only [bP,Bool.and_eq_true]
 refine ⟨?_,ic env d h⟩
 cases v <;> first | rfl | (simp [DA] at hv)
theorem kT (L:Nat→Option V) (t u:Nat):mE L (some t) u=if t=u then none else L u:=by
 simp only [mE]
 by_cases h:t=u
 ·subst h;simp
 ·have:Nat.beq t u=false:=by rw [Bool.eq_false_iff];intro e;exact h (Nat.eq_of_beq_eq_true e)
  simp [h,this]
theorem nG (env:List (Nat × V)) (d:Option Nat):lk (sA env d)=mE (lk env) d:=by
 cases d with
 | none=>rfl
 | some t =>
  funext u
  rw [kT]
  split
  ·rename_i e;subst e;exact lQ t env
  ·rename_i e;exact cm e env
theorem ph {env:List (Nat × V)} (d:Option Nat) (h:bP env=true):bP (sA env d)=true:=by
 cases d with
 | none=>exact h
 | some t=>exact ic env t h
theorem kP (L:Nat→Option V) (x:Option V):oB L none x=L:=by funext t;simp [oB]
theorem Ad {L:Nat→Option V} {g:Nat} {v:V} (h:L g=some v):oB L (some g) (some v)=L:=by
 funext t
 simp only [oB,Option.some.injEq]
 split
 ·rename_i e;subst e;exact h.symm
 ·rfl
theorem pu {o:List Nat} {fp:List Nat × Bool}:∀ {past:List (Nat × (List Nat × Bool))},iY o fp past=true→∀ x ∈ past,kG o fp x.1 x.2=true
 | [],_,x,hx=>by cases hx
 | (j,fq)::r,h,x,hx=>by
  simp only [iY,Bool.and_eq_true] at h
  rcases List.mem_cons.1 hx with rfl | hx
  ·exact h.1
  ·exact pu h.2 x hx
theorem nk (t:Nat):∀ l:List Nat,bn t l=true ↔ t ∈ l
 | []=>by simp [bn]
 | k::r=>by
  simp only [bn,Bool.or_eq_true,nk t r,List.mem_cons]
  exact or_congr ⟨fun h=>(Nat.eq_of_beq_eq_true h).symm,fun h=>by subst h;simp⟩ Iff.rfl
theorem qB:∀ (a b:List Nat),wU a b=true ↔ ∀ k ∈ a,k ∉ b
 | [],b=>by simp [wU]
 | k::r,b=>by
  simp only [wU,Bool.and_eq_true,Bool.not_eq_true',qB r b,List.mem_cons,forall_eq_or_imp]
  refine and_congr ?_ Iff.rfl
  rw [← nk k b]
  simp
theorem yu (o:List Nat) (j:Nat) (fq:List Nat × Bool) (b:Bool):kG o ([],b) j fq=true:=by simp [kG,wU]
theorem xq (o:List Nat) (fp:List Nat × Bool) (j:Nat) (b:Bool):kG o fp j ([],b)=true:=by
 have:wU fp.1 []=true:=(qB _ _).2 fun k _ h=>by cases h
 simp [kG,this]
theorem Aq (i:Nat) (fp:List Nat × Bool) (past:List (Nat × (List Nat × Bool))):(∀ x ∈ past,x ∈ tJ i fp past)∧(fp.1=[]∨(i,fp) ∈ tJ i fp past):=by
 unfold tJ
 split
 ·rename_i h;exact ⟨fun x hx=>hx,.inl h⟩
 ·exact ⟨fun x hx=>List.mem_cons_of_mem _ hx,.inr (by simp)⟩
def GA {α : Type} (c : Cx) (ops : Array Oper) (mvs : List Nat) (pr : List (List Nat)) (K : List (Nat × (List Nat × Bool)) → List Oper → St → Option α) (res : α) (k : Nat) (r : List Oper) (i : Nat) (past : List (Nat × (List Nat × Bool))) (s : St) : Prop :=
  ∃ Ls ms xs s1 past1, K past1 (r.drop k) s1 = some res ∧ bP s1.env = true ∧ Tr c ops mvs pr Ls ms xs i (i + min k r.length) ∧ Ls i = lk s.env ∧ ms i = s.mem ∧ Ls (i + min k r.length) = lk s1.env ∧ ms (i + min k r.length) = s1.mem ∧
        (∀ x ∈ past,x ∈ past1)∧(∀ j,i≤j→j<i+min k r.length→(qX mvs ops Ls xs j).1=[]∨(j,qX mvs ops Ls xs j) ∈ past1)∧∀ j,i≤j→j<i+min k r.length→∀ x ∈ past,kG (lB pr j) (qX mvs ops Ls xs j) x.1 x.2=true
theorem pq {α : Type} {ops : Array Oper} {mvs : List Nat} {pr : List (List Nat)} {K : List (Nat × (List Nat × Bool)) → List Oper → St → Option α} {res : α} (hC : ∀ f e, lkN c.fns f = some e → CallOK P f e) :
    ∀ (k : Nat) (r : List Oper) (i : Nat) (past : List (Nat × (List Nat × Bool))) (s : St), ops.toList.drop i = r → mc c ops mvs pr i k past r s K = some res → bP s.env = true →
      GA c ops mvs pr K res k r i past s
  | 0,r,i,past,s,hr,h,hn=>⟨fun _=>lk s.env,fun _=>s.mem,fun _=>(.unit,false),s,past,by simpa [mc] using h,hn,⟨fun j h1 h2=>by omega,fun p j h1 h2 h3=>by omega⟩,rfl,rfl,rfl,rfl,fun _ hx=>hx,fun j h1 h2=>by omega,fun j h1 h2=>by omega⟩
  | k+1,[],i,past,s,hr,h,hn=>⟨fun _=>lk s.env,fun _=>s.mem,fun _=>(.unit,false),s,past,by simpa [mc] using h,hn,⟨fun j h1 h2=>by simp at h2;omega,fun p j h1 h2 h3=>by simp at h3;omega⟩,rfl,rfl,rfl,rfl,fun _ hx=>hx,fun j h1 h2=>by simp at h2;omega,fun j h1 h2=>by simp at h2;omega⟩
  | k + 1, o :: r, i, past, s, hr, h, hn => by
    have hi : ops[i]? = some o := by
      rw [← Array.getElem?_toList]
      have:(ops.toList.drop i)[0]? = some o:=by rw [hr];rfl
      simpa using this
    have hr':ops.toList.drop (i+1)=r:=by rw [← List.drop_drop,hr];rfl
    have hmin:i+min (k+1) (o::r).length=i+1+min k r.length:=by simp only [List.length_cons];omega
    have glue : ∀ (x : V × Bool) (m' : List (Nat × V)) (s1 : St) (past' : List (Nat × (List Nat × Bool))), fO c ops mvs s.mem i o (lk s.env) x m' → lk s1.env = ey (lk s.env) (bn i mvs) o x → s1.mem = m' → bP s1.env = true →
        iY (lB pr i) (if x.2 then jI (bn i mvs) o (lk s.env) else ([],false)) past=true→past'=tJ i (if x.2 then jI (bn i mvs) o (lk s.env) else ([],false)) past→mc c ops mvs pr (i+1) k past' r s1 K=some res →
        GA c ops mvs pr K res (k+1) (o::r) i past s:=by
      intro x m' s1 past' hG hl hm hn1 hpast hp' hrun
      obtain ⟨Ls,ms,xs,s2,past1,e1,e2,e3,e4,e5,e6,e7,e8,e9,e10⟩:=pq hC k r (i+1) past' s1 hr' hrun hn1
      have hne:∀ j,i+1≤j→j ≠ i:=fun j hj=>by omega
      have hf : qX mvs ops (fun j => if j = i then lk s.env else Ls j) (fun j => if j = i then x else xs j) i = if x.2 then jI (bn i mvs) o (lk s.env) else ([], false) := by
        simp only [qX,hi,if_true]
      have hf' : ∀ j, i + 1 ≤ j → qX mvs ops (fun j => if j = i then lk s.env else Ls j) (fun j => if j = i then x else xs j) j = qX mvs ops Ls xs j := fun j hj => by
        simp only [qX,if_neg (hne j hj)]
      obtain ⟨a1,a2⟩:=Aq i (if x.2 then jI (bn i mvs) o (lk s.env) else ([],false)) past
      rw [← hp'] at a1 a2
      unfold GA
      rw [hmin]
      refine ⟨fun j=>if j=i then lk s.env else Ls j,fun j=>if j=i then s.mem else ms j,fun j=>if j=i then x else xs j,s2,past1,e1,e2,⟨fun j h1 h2=>?_,fun p j h1 h2 h3=>?_⟩,if_pos rfl,if_pos rfl,?_,?_,fun y hy=>e8 y (a1 y hy),fun j h1 h2=>?_,fun j h1 h2 y hy=>?_⟩
      · by_cases e:j=i
        · subst e
          refine ⟨o,m',hi,?_,?_,?_⟩
          · simp only [if_true];exact hG
          · simp only [if_neg (hne (j+1) (Nat.le_refl _)),e5,hm]
          · simp only [if_true,if_neg (hne (j+1) (Nat.le_refl _)),e4];exact hl
        · obtain ⟨o',m1,h3,h4,h4',h5⟩:=e3.step j (by omega) h2
          refine ⟨o',m1,h3,?_,?_,?_⟩
          · simp only [if_neg e];exact h4
          · simp only [if_neg (hne (j+1) (by omega))];exact h4'
          · simp only [if_neg e,if_neg (hne (j+1) (by omega))];exact h5
      · rw [hf' j (by omega)]
        by_cases e:p=i
        · subst e
          rw [hf]
          rcases a2 with a2 | a2
          · rw [show (if x.2=true then jI (bn p mvs) o (lk s.env) else ([],false))=([],(if x.2=true then jI (bn p mvs) o (lk s.env) else ([],false)).2) from Prod.ext a2 rfl]
            exact xq _ _ _ _
          · exact e10 j (by omega) h3 _ a2
        · rw [hf' p (by omega)]
          exact e3.far p j (by omega) h2 h3
      · simp only [if_neg (hne (i+1+min k r.length) (by omega))];exact e6
      · simp only [if_neg (hne (i+1+min k r.length) (by omega))];exact e7
      · by_cases e:j=i
        · subst e;rw [hf];exact a2.imp id fun h=>e8 _ h
        · rw [hf' j (by omega)];exact e9 j (by omega) h2
      · by_cases e:j=i
        · subst e
          rw [hf];exact pu hpast y hy
        · rw [hf' j (by omega)];exact e10 j (by omega) h2 y (a1 y hy)
    have step : ∀ E1 : List (Nat × V), bP E1 = true → lk E1 = lk s.env → (bif iY (lB pr i) (jI (bn i mvs) o (lk E1)) past then da c (bn i mvs) o (lk E1) s.mem fun v m => bif AZ ops o v m then mc c ops mvs pr (i + 1) k (tJ i (jI (bn i mvs) o (lk E1)) past) r (({ env := sA E1 (cB (bn i mvs) o), mem := m } : St).dst o.dst v) K else none else none) = some res →
        (∀ v m',da c (bn i mvs) o (lk s.env) s.mem ut=some (v,m')→AZ ops o v m'=true→fO c ops mvs s.mem i o (lk s.env) (v,true) m')→GA c ops mvs pr K res (k+1) (o::r) i past s:=by
      intro E1 hn1 hl hs hG
      rw [hl] at hs
      obtain ⟨hpast,hs⟩:=ap hs
      rw [Ap hC,Option.bind_eq_some_iff] at hs
      obtain ⟨⟨v,m'⟩,hv,hs⟩:=hs
      obtain ⟨hnv,hs⟩:=ap hs
      have hn2:=ph (cB (bn i mvs) o) hn1
      have key : bP (({ env := sA E1 (cB (bn i mvs) o), mem := m' } : St).dst o.dst v).env = true ∧ lk (({ env := sA E1 (cB (bn i mvs) o), mem := m' } : St).dst o.dst v).env = ey (lk s.env) (bn i mvs) o (v, true) ∧
          (({ env:=sA E1 (cB (bn i mvs) o),mem:=m' }:St).dst o.dst v).mem=m':=by
        unfold ey
        simp only [if_true]
        cases hd:o.dst with
        | none=>exact ⟨hn2,by rw [kP,← hl];exact nG E1 _,rfl⟩
        | some d=>exact ⟨gw hn2 (wo hnv),by rw [← hl,← nG];exact nz hn2,rfl⟩
      exact glue (v,true) m' _ _ (hG v m' hv hnv) key.2.1 key.2.2 key.1 (by simpa using hpast) (by simp) hs
    have skip : ∀ s1 : St, bP s1.env = true → lk s1.env = lk s.env → s1.mem = s.mem → mc c ops mvs pr (i + 1) k past r (s1.dst o.dst .unit) K = some res → fO c ops mvs s.mem i o (lk s.env) (.unit, false) s.mem → GA c ops mvs pr K res (k + 1) (o :: r) i past s := by
      intro s1 hn1 hl hm hs hG
      have key : bP (s1.dst o.dst .unit).env = true ∧ lk (s1.dst o.dst .unit).env = ey (lk s.env) (bn i mvs) o (.unit, false) ∧ (s1.dst o.dst .unit).mem = s.mem := by
        have e:ey (lk s.env) (bn i mvs) o (.unit,false)=oB (lk s.env) o.dst (some .unit):=rfl
        rw [e]
        cases hd:o.dst with
        | none=>exact ⟨hn1,by rw [kP];exact hl,hm⟩
        | some d=>exact ⟨gw hn1 rfl,by rw [← hl];exact nz hn1,hm⟩
      have hpe : ∀ past : List (Nat × (List Nat × Bool)), iY (lB pr i) ([], false) past = true := by
        intro past
        induction past with
        | nil=>rfl
        | cons y r ih=>simp only [iY,yu,ih,Bool.and_self]
      exact glue (.unit,false) s.mem _ past hG key.2.1 key.2.2 key.1 (by simpa using hpe past) (by simp [tJ]) hs
    simp only [mc] at h
    cases hgd:o.guard with
    | none =>
      simp only [hgd] at h
      exact step s.env hn rfl h fun v m' hv hnv=>by simp only [fO,hgd];exact ⟨trivial,hv,hnv⟩
    | some jw =>
      obtain ⟨j,want⟩:=jw
      simp only [hgd,Option.bind_eq_some_iff] at h
      obtain ⟨g,hg,gv,hgv,h⟩:=h
      have hg':(ops[j]?).bind (·.dst)=some g:=by simpa [Option.bind_eq_some_iff] using hg
      split at h
      · rename_i b
        have hn1:∀ b',bP (s.set g (.dat .bool b')).env=true:=fun b'=>gw hn rfl
        have hl1 : lk (s.set g (.dat .bool b)).env = lk s.env := by
          show lk ((g,V.dat .bool b)::B1 s.env g)=_
          rw [nz hn];exact Ad hgv
        rcases kj h with ⟨rfl,h⟩ | ⟨rfl,h⟩
        · cases want with
          | true=>exact step _ (hn1 true) hl1 h fun v m' hv hnv=>by simp only [fO,hgd];exact ⟨g,_,hg',hgv,.inl ⟨rfl,trivial,hv,hnv⟩⟩
          | false=>exact skip _ (hn1 true) hl1 rfl h (by simp only [fO,hgd];exact ⟨g,_,hg',hgv,.inr ⟨.inl rfl,trivial,trivial⟩⟩)
        · cases want with
          | true=>exact skip _ (hn1 false) hl1 rfl h (by simp only [fO,hgd];exact ⟨g,_,hg',hgv,.inr ⟨.inl rfl,trivial,trivial⟩⟩)
          | false=>exact step _ (hn1 false) hl1 h fun v m' hv hnv=>by simp only [fO,hgd];exact ⟨g,_,hg',hgv,.inl ⟨rfl,trivial,hv,hnv⟩⟩
      · exact skip s hn rfl rfl h (by simp only [fO,hgd];exact ⟨g,_,hg',hgv,.inr ⟨.inr rfl,trivial,trivial⟩⟩)
      · cases h
end Go.Proofs.YtfhcammihohmjaaGreatDoor.Pal
end
noncomputable section
/- A step looks at its operands alone. -/
namespace Go.Proofs.YtfhcammihohmjaaGreatDoor.Pal
open Go
variable [MonoC]
variable {c:Cx}
theorem mj {ρ ρ':Option Ty→Operand→Option V}:∀ (l:List (Nat × Operand)),(∀ e x,x ∈ l.map (·.2)→ρ e x=ρ' e x)→rc ρ l=rc ρ' l
 | [],_=>rfl
 | (i,x)::r,h=>by
  simp only [rc,h none x (by simp),mj r fun e y hy=>h e y (by simp at hy ⊢;exact .inr hy)]
theorem mh {ρ ρ':Option Ty→Operand→Option V}:∀ (l:List Operand),(∀ e x,x ∈ l→ρ e x=ρ' e x)→uf ρ l=uf ρ' l
 | [],_=>rfl
 | x::r,h=>by
  simp only [uf,h none x (by simp),mh r fun e y hy=>h e y (by simp [hy])]
theorem mn {ρ ρ':Option Ty→Operand→Option V}:∀ (l:List Operand) (tys:List (Option Ty)),(∀ e x,x ∈ l→ρ e x=ρ' e x)→mT ρ tys l=mT ρ' tys l
 | [],_,_=>rfl
 | x::r,tys,h=>by
  simp only [mT,h _ x (by simp),mn r _ fun e y hy=>h e y (by simp [hy])]
theorem kZ {L L':Nat→Option V} {e:Option Ty} {x:Operand} (h:∀ t,x = .tmp t→L t=L' t):jP L e x=jP L' e x:=by
 cases x with
 | tmp t=>simp only [jP,h t rfl]
 | _=>rfl
theorem iB {L L':Nat→Option V} {mv:Bool} {e:Option Ty} {x:Operand} (h:∀ t,x = .tmp t→L t=L' t):lw mv e L x=lw mv e L' x:=by
 cases x with
 | tmp t=>simp only [lw,h t rfl]
 | _=>rfl
theorem qO {L L':Nat→Option V} (d:Option Nat) {t:Nat} (h:L t=L' t):mE L d t=mE L' d t:=by
 cases d with
 | none=>exact h
 | some u=>rw [kT,kT,h]
theorem xh {α:Type} {o:Oper} {ρ ρ':Option Ty→Operand→Option V} {m:List (Nat × V)} {K:V→Option α} (h:∀ e x,x ∈ o.op.operands→ρ e x=ρ' e x):ge c o ρ m K=ge c o ρ' m K:=by
 obtain ⟨dst,op,ty,pos,after,guard⟩:=o
 simp only at h
 cases op with
 | call cl =>
  obtain ⟨callee,args,tys⟩:=cl
  cases callee with
  | value f=>rfl
  | builtin b =>
   have h':∀ e x,x ∈ args.toList→ρ e x=ρ' e x:=fun e x hx=>h e x (by simpa [Op.operands,Call.operands] using hx)
   simp only [ge]
   split
   ·rename_i x t _ hargs _
    rw [h' none x (by rw [hargs];simp)]
   ·rename_i x y hargs
    rw [h' none x (by rw [hargs];simp),h' none y (by rw [hargs];simp)]
   ·rename_i x y hargs
    rw [h' none x (by rw [hargs];simp),h' none y (by rw [hargs];simp)]
   ·rfl
  | invoke r m=>rfl
 | makeFunc fn first caps =>
  cases fn with
  | func f =>
   simp only [ge]
   rw [mh caps.toList fun e x hx=>h e x (by simp [Op.operands];simp at hx;exact .inr hx),mh first.toList fun e x hx=>h e x (by simp [Op.operands];simp at hx;exact .inl hx)]
  | _=>rfl
 | build t ps =>
  simp only [ge]
  rw [mj ps.toList fun e x hx=>h e x (by simpa [Op.operands] using hx)]
 | slice t x lo hi mx =>
  have hx:=h none x (by simp [Op.operands])
  cases lo with
  | none =>
   cases hi with
   | none=>simp only [ge,hx]
   | some y=>simp only [ge,hx,h none y (by simp [Op.operands])]
  | some z =>
   have hz:=h none z (by simp [Op.operands])
   cases hi with
   | none=>simp only [ge,hx,hz]
   | some y=>simp only [ge,hx,hz,h none y (by simp [Op.operands])]
 | _=>first
  | rfl
  | (simp only [Op.operands] at h;simp [ge,h])
theorem oe {α:Type} {mv:Bool} {o:Oper} {L L':Nat→Option V} {m:List (Nat × V)} {K:V→Option α} (h:∀ t,Operand.tmp t ∈ o.op.operands→L t=L' t):iy c mv o L m K=iy c mv o L' m K:=by
 obtain ⟨dst,op,ty,pos,after,guard⟩:=o
 simp only at h
 have hr:∀ e x,x ∈ op.operands→jP L e x=jP L' e x:=fun e x hx=>kZ fun t ht=>h t (ht ▸ hx)
 have hc:∀ d e x,x ∈ op.operands→jP (mE L d) e x=jP (mE L' d) e x:=fun d e x hx=>kZ fun t ht=>qO d (h t (ht ▸ hx))
 unfold iy
 split
 ·rename_i args tys hop
  simp only at hop;subst hop
  have hm:∀ y,y ∈ args.toList→y ∈ (Op.call { callee:=.builtin .append,args:=args,argTypes:=tys }:Op).operands:=fun y hy=>by
   have:y ∈ args:=by rw [← Array.mem_toList_iff];exact hy
   simp [Op.operands,Call.operands,this]
  split
  ·rename_i x y t t2 ha _
   rw [iB (L':=L') fun u hu=>h u (hu ▸ hm x (by rw [ha];simp)),hc (jd mv x) (c.ty t) y (hm y (by rw [ha];simp))]
  ·rfl
 ·rename_i x hop
  simp only at hop;subst hop
  rw [iB (L':=L') fun t ht=>h t (ht ▸ by simp [Op.operands])]
 ·rename_i x hop
  simp only at hop;subst hop
  rw [iB (L':=L') fun t ht=>h t (ht ▸ by simp [Op.operands])]
 ·rename_i t n parts hop
  simp only at hop;subst hop
  rw [mj parts.toList fun e x hx=>hr e x (by simpa [Op.operands] using hx)]
 ·exact xh hr
theorem vY {α:Type} {mv:Bool} {o:Oper} {L L':Nat→Option V} {m:List (Nat × V)} {K:V→List (Nat × V)→Option α} (h:∀ t,Operand.tmp t ∈ o.op.operands→L t=L' t):da c mv o L m K=da c mv o L' m K:=by
 obtain ⟨dst,op,ty,pos,after,guard⟩:=o
 have h0:=h
 simp only at h
 have hr:∀ e x,x ∈ op.operands→jP L e x=jP L' e x:=fun e x hx=>kZ fun t ht=>h t (ht ▸ hx)
 have hc:∀ d e x,x ∈ op.operands→jP (mE L d) e x=jP (mE L' d) e x:=fun d e x hx=>kZ fun t ht=>qO d (h t (ht ▸ hx))
 unfold da
 split
 ·rename_i f args tys hop
  simp only at hop;subst hop
  rw [hr none f (by simp [Op.operands,Call.operands])]
  congr 1;funext fv
  split
  ·have e:lF mv (tys.toList.map c.ty) L args.toList=lF mv (tys.toList.map c.ty) L' args.toList:=by
    cases ha:args.toList with
    | nil=>rfl
    | cons x r =>
     have hm:∀ y,y ∈ x::r→y ∈ (Op.call { callee:=.value f,args:=args,argTypes:=tys }:Op).operands:=fun y hy=>by
      have:y ∈ args:=by rw [← Array.mem_toList_iff,ha];exact hy
      simp [Op.operands,Call.operands,this]
     simp only [lF]
     rw [iB (L':=L') fun t ht=>h t (ht ▸ hm x (by simp))]
     rw [mn r _ fun e y hy=>hc (jd mv x) e y (hm y (by simp [hy]))]
   rw [e]
  ·rfl
 ·rename_i t a x hop
  simp only at hop;subst hop
  rw [hr none a (by simp [Op.operands]),iB (L':=L') fun u hu=>h u (hu ▸ by simp [Op.operands])]
 ·rename_i t x i y hop
  simp only at hop;subst hop
  simp only [hr _ x (by simp [Op.operands]),hr _ i (by simp [Op.operands]),hr _ y (by simp [Op.operands])]
 ·rename_i t a hop
  have e:jP L none a=jP L' none a:=hr none a (by simp only at hop;subst hop;simp [Op.operands])
  cases mv with
  | true=>simp only [cond_true,e]
  | false=>simp only [cond_false];exact oe h0
 ·rfl
 ·exact oe h0
theorem eT {L L':Nat→Option V} {x:Operand} (h:∀ t,x = .tmp t→L t=L' t):bY L x=bY L' x:=by
 cases x with
 | tmp t=>simp only [bY,h t rfl]
 | _=>rfl
theorem A9 {mv:Bool} {o:Oper} {L L':Nat→Option V} (h:∀ t,Operand.tmp t ∈ o.op.operands→L t=L' t):jI mv o L=jI mv o L':=by
 obtain ⟨dst,op,ty,pos,after,guard⟩:=o
 simp only at h
 unfold jI
 split
 ·rename_i t a hop
  simp only at hop;subst hop
  rw [eT (L':=L') fun t ht=>h t (ht ▸ by simp [Op.operands])]
 ·rename_i t a x hop
  simp only at hop;subst hop
  rw [eT (L':=L') fun t ht=>h t (ht ▸ by simp [Op.operands])]
 ·rename_i t x i ok hop
  simp only at hop;subst hop
  rw [eT (L':=L') fun t ht=>h t (ht ▸ by simp [Op.operands])]
 ·rename_i t x i y hop
  simp only at hop;subst hop
  rw [eT (L':=L') fun t ht=>h t (ht ▸ by simp [Op.operands])]
 ·rename_i f args tys hop
  simp only at hop;subst hop
  have e:args.toList.flatMap (bY L)=args.toList.flatMap (bY L'):=by
   rw [List.flatMap_def,List.flatMap_def]
   congr 1
   refine List.map_congr_left fun y hy=>eT fun t ht=>h t (ht ▸ ?_)
   have:y ∈ args:=by rw [← Array.mem_toList_iff];exact hy
   simp [Op.operands,Call.operands,this]
  rw [eT (L':=L') fun t ht=>h t (ht ▸ by simp [Op.operands,Call.operands]),e]
 ·rfl
 ·rfl
theorem d9:∀ (v:V) (k:Nat),k ∈ v.copy.refs→k ∈ v.refs
 | .pr a b,k,h=>by
  have hm:∀ x y:V,k ∈ (gP x y).refs→k ∈ x.refs∨k ∈ y.refs:=by
   intro x y h
   unfold gP at h
   split at h
   ·simp [V.refs] at h
   ·simpa [V.refs] using h
  have:=hm _ _ (show k ∈ (gP a.copy b.copy).refs from h)
  simp only [V.refs,List.mem_append]
  exact this.imp (d9 a k) (d9 b k)
 | .tup2 a b,k,h=>by
  have h:k ∈ a.copy.refs++b.copy.refs:=h
  simp only [V.refs,List.mem_append] at h ⊢
  exact h.imp (d9 a k) (d9 b k)
 | .tup3 a b d,k,h=>by
  have h:k ∈ a.copy.refs++b.copy.refs++d.copy.refs:=h
  simp only [V.refs,List.mem_append] at h ⊢
  exact h.imp (fun h=>h.imp (d9 a k) (d9 b k)) (d9 d k)
 | .own e xs,k,h=>by cases h
 | .raw e xs,k,h=>by cases h
 | .dat _ _,k,h=>h
 | .ref _ _,k,h=>h
 | .nilp,k,h=>h
 | .ip _ _,k,h=>h
 | .fn _ _,k,h=>h
 | .bnd _ _,k,h=>h
 | .lent _,k,h=>h
 | .unit,k,h=>h
 | .any,k,h=>h
 | .view _ _ _ _ _ _,k,h=>h
 | .mref _,k,h=>h
 | .vref _ _ _,k,h=>h
 | .vec _ _ _,k,h=>by cases h
 | .gone,k,h=>h
theorem yD {v u:V} (h:v.copyO=some u) (k:Nat) (hk:k ∈ u.refs):k ∈ v.refs:=by
 have:u=v.copy:=by
  cases v <;> simp [V.copyO] at h <;> exact h.symm
 subst this
 exact d9 v k hk
theorem zU {e:Option Ty} {y:Value} {v:V} (h:cV e y=some v):v.refs=[]:=by
 unfold cV at h
 split at h
 ·injection h with h;subst h;rfl
 ·injection h with h;subst h;rfl
 ·injection h with h;subst h;rfl
 ·injection h with h;subst h;rfl
 ·injection h with h;subst h;rfl
 ·split at h
  ·injection h with h;subst h;rfl
  ·cases h
 ·cases h
theorem gJ {L:Nat→Option V} {e:Option Ty} {x:Operand} {v:V} (h:jP L e x=some v) (k:Nat) (hk:k ∈ v.refs):k ∈ bY L x:=by
 cases x with
 | tmp t =>
  simp only [jP,Option.bind_eq_some_iff] at h
  obtain ⟨u,hu,h⟩:=h
  simp only [bY,hu]
  exact yD h k hk
 | const y=>rw [zU (h:cV e y=some v)] at hk;cases hk
 | func f=>injection h with h;subst h;cases hk
 | global g=>cases h
theorem yr {L:Nat→Option V} {d:Option Nat} {x:Operand} {k:Nat} (hk:k ∈ bY (mE L d) x):k ∈ bY L x:=by
 cases x with
 | tmp t =>
  cases d with
  | none=>exact hk
  | some u =>
   simp only [bY,kT] at hk ⊢
   by_cases e:u=t
   ·rw [if_pos e] at hk;cases hk
   ·rw [if_neg e] at hk;exact hk
 | _=>exact hk
theorem AU {mv:Bool} {L:Nat→Option V} {e:Option Ty} {x:Operand} {v:V} (h:lw mv e L x=some v) (k:Nat) (hk:k ∈ v.refs):k ∈ bY L x:=by
 cases x with
 | tmp t =>
  cases mv with
  | true =>
   simp only [lw,cond_true,Option.bind_eq_some_iff,Option.map_eq_some_iff] at h
   obtain ⟨u,hu,_,_,rfl⟩:=h
   simp only [bY,hu];exact hk
  | false =>
   simp only [lw,cond_false] at h
   exact gJ (e:=e) (x:=.tmp t) (show jP L e (.tmp t)=some v from h) k hk
 | const y=>rw [zU (h:cV e y=some v)] at hk;cases hk
 | func f=>injection h with h;subst h;cases hk
 | global g=>cases h
theorem rP {L L':Nat→Option V} (hL:∀ x k,k ∈ bY L' x→k ∈ bY L x):∀ (l:List Operand) (tys:List (Option Ty)) (vs:List V),mT (jP L') tys l=some vs→∀ k ∈ vs.flatMap V.refs,k ∈ l.flatMap (bY L)
 | [],_,vs,h,k,hk=>by
  simp only [mT,Option.some.injEq] at h;subst h;cases hk
 | x::r,tys,vs,h,k,hk=>by
  simp only [mT,Option.bind_eq_some_iff,Option.some.injEq] at h
  obtain ⟨v,hv,us,hus,rfl⟩:=h
  simp only [List.flatMap_cons,List.mem_append] at hk ⊢
  exact hk.imp (fun h=>hL x k (gJ hv k h)) (rP hL r _ us hus k)
theorem y3 {mv:Bool} {tys:List (Option Ty)} {L:Nat→Option V} {l:List Operand} {vs:List V} (h:lF mv tys L l=some vs):∀ k ∈ vs.flatMap V.refs,k ∈ l.flatMap (bY L):=by
 cases l with
 | nil=>simp only [lF,Option.some.injEq] at h;subst h;intro k hk;cases hk
 | cons x r =>
  simp only [lF,Option.bind_eq_some_iff,Option.some.injEq] at h
  obtain ⟨v,hv,us,hus,rfl⟩:=h
  intro k hk
  simp only [List.flatMap_cons,List.mem_append] at hk ⊢
  exact hk.imp (AU hv k) (rP (fun x k hk=>yr hk) r _ us hus k)
theorem pz:∀ (vs:List V) (n:Nat) (as':List V) (l:List (Nat × List Step)),mQ n vs=some (as',l)→∀ k ∈ l.map (·.1),k ∈ vs.flatMap V.refs
 | [],n,as',l,h,k,hk=>by
  simp only [mQ,Option.some.injEq,Prod.mk.injEq] at h
  obtain ⟨_,rfl⟩:=h;cases hk
 | v::r,n,as',l,h,k,hk=>by
  simp only [mQ,Option.bind_eq_some_iff,Option.some.injEq,Prod.mk.injEq] at h
  obtain ⟨x,hx,y,hy,rfl,rfl⟩:=h
  simp only [List.map_append,List.mem_append,List.flatMap_cons] at hk ⊢
  refine hk.imp (fun h=>?_) (pz r _ y.1 y.2 hy k)
  unfold pd at hx
  split at hx
  ·injection hx with hx;subst hx;simpa [V.refs] using h
  ·injection hx with hx;subst hx;simpa [V.refs] using h
  ·obtain ⟨_,hx⟩:=ap hx
   injection hx with hx;subst hx;cases h
theorem kD {m m':List (Nat × V)}:∀ (l:List (Nat × List Step)),(∀ k ∈ l.map (·.1),lk m k=lk m' k)→bW m l=bW m' l
 | [],_=>rfl
 | (k,[])::r,h=>by
  simp only [bW,h k (by simp),kD r fun q hq=>h q (by simp only [List.map_cons,List.mem_cons];exact .inr hq)]
 | (k,_::_)::r,_=>rfl
theorem dA (m:List (Nat × V)) (k:Nat) (u:V) (q:Nat):lk (eX m k u) q=if k=q then some u else lk m q:=by
 unfold eX
 rw [bR]
 by_cases h:k=q
 ·rw [if_pos h,if_pos h]
 ·rw [if_neg h,if_neg h,cm h]
theorem ki:∀ (l:List (Nat × List Step)) (m m' m1:List (Nat × V)) (us rest:List V),(∀ k ∈ l.map (·.1),lk m k=lk m' k)→bv m l us=some (m1,rest) →
  ∃ m1',bv m' l us=some (m1',rest)∧∀ q,(lk m q=lk m' q→lk m1 q=lk m1' q)∧(q ∉ l.map (·.1)→lk m1 q=lk m q∧lk m1' q=lk m' q)
 | [],m,m',m1,us,rest,_,h=>by
  simp only [bv,Option.some.injEq,Prod.mk.injEq] at h
  obtain ⟨rfl,rfl⟩:=h
  exact ⟨m',rfl,fun q=>⟨id,fun _=>⟨rfl,rfl⟩⟩⟩
 | (k,[])::r,m,m',m1,[],rest,_,h=>by simp [bv] at h
 | (k,_::_)::r,m,m',m1,us,rest,_,h=>by cases us <;> simp [bv] at h
 | (k,[])::r,m,m',m1,u::us,rest,hk,h=>by
  simp only [bv,Option.bind_eq_some_iff] at h
  obtain ⟨v0,hv0,h⟩:=h
  obtain ⟨hb,h⟩:=ap h
  have h0:lk m k=lk m' k:=hk k (by simp)
  obtain ⟨m1',h1,h2⟩:=ki r (eX m k u) (eX m' k u) m1 us rest (fun q hq=>by
   rw [dA,dA,hk q (by simp only [List.map_cons,List.mem_cons];exact .inr hq)]) h
  refine ⟨m1',?_,fun q=>⟨fun hq=>?_,fun hq=>?_⟩⟩
  ·simp only [bv,← h0,hv0,Option.bind_some,hb,cond_true];exact h1
  ·exact (h2 q).1 (by rw [dA,dA,hq])
  ·simp only [List.map_cons,List.mem_cons,not_or] at hq
   obtain ⟨a,b⟩:=(h2 q).2 hq.2
   rw [dA,if_neg (Ne.symm hq.1)] at a b
   exact ⟨a,b⟩
theorem BZ {α:Type} {o:Oper} {ρ:Option Ty→Operand→Option V} {m m':List (Nat × V)} {K:V→Option α} (h:∀ t a,o.op ≠ .load t a) (h':∀ t x i ok,o.op ≠ .lookup t x i ok):ge c o ρ m K=ge c o ρ m' K:=by
 obtain ⟨dst,op,ty,pos,after,guard⟩:=o
 cases op with
 | load t a=>exact absurd rfl (h t a)
 | lookup t x i ok=>exact absurd rfl (h' t x i ok)
 | makeFunc fn first caps=>cases fn <;> rfl
 | call cl =>
  obtain ⟨callee,args,tys⟩:=cl
  cases callee <;> rfl
 | _=>rfl
theorem AQ {o:Oper} {t:Nat} {a:Operand} {L:Nat→Option V} {m m':List (Nat × V)} (ho:o.op = .load t a) (h:∀ k ∈ bY L a,lk m k=lk m' k):ge c o (jP L) m some=ge c o (jP L) m' some:=by
 obtain ⟨dst,op,ty,pos,after,guard⟩:=o
 simp only at ho;subst ho
 simp only [ge]
 congr 1;funext ly
 cases hv:jP L none a with
 | none=>rfl
 | some av =>
  simp only [Option.bind_some]
  cases av with
  | ref k p =>
   simp only
   rw [h k (gJ hv k (by simp [V.refs]))]
  | _=>rfl
theorem vn {o:Oper} {t:Nat} {x i:Operand} {ok:Bool} {L:Nat→Option V} {m m':List (Nat × V)} (ho:o.op = .lookup t x i ok) (h:∀ k ∈ bY L x,lk m k=lk m' k):ge c o (jP L) m some=ge c o (jP L) m' some:=by
 obtain ⟨dst,op,ty,pos,after,guard⟩:=o
 simp only at ho;subst ho
 simp only [ge]
 congr 1;funext ke
 cases hv:jP L none x with
 | none=>rfl
 | some av =>
  simp only [Option.bind_some]
  cases av with
  | mref k =>
   simp only
   rw [h k (gJ hv k (by simp [V.refs]))]
  | _=>rfl
theorem sW {mv:Bool} {o:Oper} {L:Nat→Option V} {m m':List (Nat × V)} (h:∀ k ∈ (jI mv o L).1,lk m k=lk m' k):iy c mv o L m some=iy c mv o L m' some:=by
 unfold iy
 split
 ·rfl
 ·rfl
 ·rfl
 ·rfl
 ·by_cases hl:∃ t a,o.op = .load t a
  ·obtain ⟨t,a,hl⟩:=hl
   refine AQ hl fun k hk=>h k ?_
   unfold jI;rw [hl];exact hk
  ·by_cases hm:∃ t x i ok,o.op = .lookup t x i ok
   ·obtain ⟨t,x,i,ok,hm⟩:=hm
    refine vn hm fun k hk=>h k ?_
    unfold jI;rw [hm];exact hk
   ·exact BZ (fun t a e=>hl ⟨t,a,e⟩) fun t x i ok e=>hm ⟨t,x,i,ok,e⟩
theorem ou {P:Program} (hC:∀ f e,lkN c.fns f=some e→CallOK P f e) {mv:Bool} {o:Oper} {L:Nat→Option V} {m m' m1:List (Nat × V)} {v:V} (h:da c mv o L m ut=some (v,m1)) (hk:∀ k ∈ (jI mv o L).1,lk m k=lk m' k) :
  ∃ m1',da c mv o L m' ut=some (v,m1')∧(∀ k ∈ (jI mv o L).1,lk m1' k=lk m1 k)∧(∀ k,¬ ((jI mv o L).2=true∧k ∈ (jI mv o L).1)→lk m1 k=lk m k∧lk m1' k=lk m' k):=by
 have hk0:=hk
 unfold da at h
 split at h
 ·rename_i f args tys hop
  have hfp:jI mv o L=(bY L f++args.toList.flatMap (bY L),true):=by unfold jI;rw [hop]
  rw [hfp] at hk ⊢
  simp only [Option.bind_eq_some_iff] at h
  obtain ⟨fv,hfv,h⟩:=h
  split at h
  ·rename_i g caps
   simp only [Option.bind_eq_some_iff] at h
   obtain ⟨vs,hvs,e,he,ar,har,h⟩:=h
   obtain ⟨hd,h⟩:=ap h
   simp only [Option.bind_eq_some_iff] at h
   obtain ⟨objs,hobjs,h⟩:=h
   obtain ⟨hnr,h⟩:=ap h
   rw [(hC _ e he).nat] at h
   obtain ⟨p,hp,h⟩:=Option.bind_eq_some_iff.1 h
   simp only [Option.bind_eq_some_iff] at h
   obtain ⟨m2,hm2,h⟩:=h
   obtain ⟨hb,h⟩:=ap h
   injection h with h;injection h with h1 h2
   subst h1;subst h2
   have cR:∀ k ∈ ar.2.map (·.1),k ∈ bY L f++args.toList.flatMap (bY L):=fun k hk=>by
    have:=pz _ _ ar.1 ar.2 har k hk
    simp only [List.flatMap_append,List.mem_append] at this ⊢
    rcases this with h | h
    ·exact .inr (y3 hvs k h)
    ·refine .inl (gJ hfv k ?_)
     simp only [List.mem_flatMap,List.mem_map] at h
     obtain ⟨x,⟨y,hy,rfl⟩,hx⟩:=h
     simp only [V.refs,List.mem_singleton] at hx
     subst hx
     exact List.mem_map.2 ⟨y,hy,rfl⟩
   obtain ⟨m2',g1,g2⟩:=ki ar.2 m m' m2.1 p.2 m2.2 (fun k hq=>hk k (cR k hq)) hm2
   refine ⟨m2',?_,fun k hq=>((g2 k).1 (hk k hq)).symm,fun k hq=>(g2 k).2 fun hq'=>hq ⟨rfl,cR k hq'⟩⟩
   unfold da
   rw [hop]
   simp only [hfv,Option.bind_some,hvs,he,har,hd,cond_true,← kD ar.2 (fun k hq=>hk k (cR k hq)),hobjs,hnr]
   rw [(hC _ e he).nat,hp]
   simp only [Option.bind_some,g1,hb,cond_true]
  ·cases h
 ·rename_i t a x hop
  have hfp:jI mv o L=(bY L a,true):=by unfold jI;rw [hop]
  rw [hfp] at hk ⊢
  simp only [Option.bind_eq_some_iff] at h
  obtain ⟨ly,hly,av,hav,u,hu,h⟩:=h
  split at h
  ·rename_i k p
   obtain ⟨hb,h⟩:=ap h
   rw [Option.bind_eq_some_iff] at h
   obtain ⟨w,hw,h⟩:=h
   rw [lm,Option.bind_eq_some_iff] at h
   obtain ⟨w',hw',h⟩:=h
   injection h with h;injection h with h1 h2
   subst h1;subst h2
   have hkk:k ∈ bY L a:=gJ hav k (by simp [V.refs])
   refine ⟨eX m' k w',?_,fun q hq=>?_,fun q hq=>?_⟩
   ·unfold da
    rw [hop]
    simp only [hly,Option.bind_some,hav,hu,hb,cond_true,← hk k hkk,hw]
    rw [lm,hw'];rfl
   ·rw [dA,dA,hk q hq]
   ·have:k ≠ q:=fun e=>hq ⟨rfl,e ▸ hkk⟩
    rw [dA,dA,if_neg this,if_neg this];exact ⟨rfl,rfl⟩
  ·cases h
 ·rename_i t x i y hop
  have hfp:jI mv o L=(bY L x,true):=by unfold jI;rw [hop]
  rw [hfp] at hk ⊢
  simp only [Option.bind_eq_some_iff] at h
  obtain ⟨ke,hke,v',hv',iv,hiv,yv,hyv,h⟩:=h
  split at h
  ·rename_i k
   simp only [Option.bind_eq_some_iff] at h
   obtain ⟨u,hu,a,ha,b,hb,h⟩:=h
   split at h
   ·rename_i ka kb es
    split at h
    ·rename_i hkk
     obtain ⟨hdn,h⟩:=ap h
     injection h with h;injection h with h1 h2
     subst h1;subst h2
     have hkr:k ∈ bY L x:=gJ hv' k (by simp [V.refs])
     refine ⟨eX m' k (.dat (.map ka kb) (pQ ka kb es (hkk.1 ▸ a) (hkk.2 ▸ b))),?_,fun q hq=>?_,fun q hq=>?_⟩
     ·unfold da
      rw [hop]
      simp only [hke,Option.bind_some,hv',hiv,hyv,← hk k hkr,hu,ha,hb,dif_pos hkk,hdn,cond_true]
     ·rw [dA,dA,hk q hq]
     ·have:k ≠ q:=fun e=>hq ⟨rfl,e ▸ hkr⟩
      rw [dA,dA,if_neg this,if_neg this];exact ⟨rfl,rfl⟩
    ·cases h
   ·cases h
  ·cases h
 ·rename_i t a hop
  cases mv with
  | true =>
   have hfp:jI true o L=(bY L a,true):=by unfold jI;rw [hop]
   rw [hfp] at hk ⊢
   simp only [cond_true,Option.bind_eq_some_iff] at h
   obtain ⟨ly,hly,av,hav,h⟩:=h
   split at h
   ·rename_i k p
    simp only [Option.bind_eq_some_iff] at h
    obtain ⟨w,hw,u,hu,h⟩:=h
    obtain ⟨hb,h⟩:=ap h
    simp only [Option.bind_eq_some_iff] at h
    obtain ⟨w',hw',h⟩:=h
    injection h with h;injection h with h1 h2
    subst h1;subst h2
    have hkk:k ∈ bY L a:=gJ hav k (by simp [V.refs])
    refine ⟨eX m' k w',?_,fun q hq=>?_,fun q hq=>?_⟩
    ·unfold da
     rw [hop]
     simp only [cond_true,hly,Option.bind_some,hav,← hk k hkk,hw,hu,hb,hw']
    ·rw [dA,dA,hk q hq]
    ·have:k ≠ q:=fun e=>hq ⟨rfl,e ▸ hkk⟩
     rw [dA,dA,if_neg this,if_neg this];exact ⟨rfl,rfl⟩
   ·cases h
  | false =>
   simp only [cond_false] at h
   rw [ew] at h
   obtain ⟨v',hv,h⟩:=Option.bind_eq_some_iff.1 h
   injection h with h;injection h with h1 h2
   subst h1;subst h2
   refine ⟨m',?_,fun k hq=>(hk k hq).symm,fun k _=>⟨rfl,rfl⟩⟩
   have:da c false o L m' ut=iy c false o L m' fun v=>ut v m':=by
    unfold da
    rw [hop];rfl
   rw [this,ew,← sW hk0,hv];rfl
 ·rename_i t hop
  rw [Option.bind_eq_some_iff] at h
  obtain ⟨z,hz,h⟩:=h
  split at h
  ·rename_i d hd
   obtain ⟨hb,h⟩:=ap h
   injection h with h;injection h with h1 h2
   subst h1;subst h2
   simp only [Bool.and_eq_true,Option.isNone_iff_eq_none] at hb
   have hfp:jI mv o L=([d],true):=by unfold jI;rw [hop];simp only [hd]
   rw [hfp] at hk ⊢
   have hkd:=hk d (by simp)
   rw [hb.2] at hkd
   refine ⟨(d,z)::m',?_,fun q hq=>?_,fun q hq=>?_⟩
   ·unfold da
    rw [hop]
    simp only [hz,Option.bind_some,hd,← hkd,hb.1,Option.isNone_none,Bool.and_self,cond_true]
   ·simp only [List.mem_singleton] at hq;subst hq;rw [bR,bR,if_pos rfl,if_pos rfl]
   ·have:d ≠ q:=fun e=>hq ⟨rfl,by simp [e]⟩
    rw [bR,bR,if_neg this,if_neg this];exact ⟨rfl,rfl⟩
  ·cases h
 ·rename_i hn1 hn2 hn3 hn4 hn5
  rw [ew] at h
  obtain ⟨v',hv,h⟩:=Option.bind_eq_some_iff.1 h
  injection h with h;injection h with h1 h2
  subst h1;subst h2
  refine ⟨m',?_,fun k hq=>(hk k hq).symm,fun k _=>⟨rfl,rfl⟩⟩
  have:da c mv o L m' ut=iy c mv o L m' fun v=>ut v m':=by
   unfold da
   split
   ·rename_i f args tys e;exact absurd e (hn1 _ _ _)
   ·rename_i t a x e;exact absurd e (hn2 _ _ _)
   ·rename_i t x i y e;exact absurd e (hn3 _ _ _ _)
   ·rename_i t a e;exact absurd e (hn4 _ _)
   ·rename_i t e;exact absurd e (hn5 _)
   ·rfl
  rw [this,ew,← sW hk0,hv];rfl
end Go.Proofs.YtfhcammihohmjaaGreatDoor.Pal
end
noncomputable section
/- Regions whose order is free: any order comes to the same. -/
namespace Go.Proofs.YtfhcammihohmjaaGreatDoor.Pal
open Go
variable [MonoC]
variable {P:Program} {X Y:Nat→Nat→Prop} {G0 G G':Gh} {w0 w w':World} {s:St} {a:Act} {c:Cx} {Q:Exit→Act→World→Prop}

def eh (ops:Array Oper) (j:Nat):Option Nat:=(ops[j]?).bind (·.dst)
def GH (ops:Array Oper) (j i:Nat):Bool:=match ops[j]? with
 | some p=>wO p i
 | none=>false
def lY (ops : Array Oper) (mvs : List Nat) (n : Nat) : Bool :=
  Nat.ble n ops.size && (List.range ops.size).all fun i => match ops[i]? with
    | none=>false
    | some o => o.after.all (fun e => !(Region.binds .any e) || Nat.blt e.on i) &&
      (if i < n then (List.range n).all fun j => Nat.beq i j || ((match eh ops j with
          | some d=>(!((o.looksAt ops).contains d) || (Nat.blt j i && wO o j) || (Nat.blt i j && GH ops j i)) && (o.dst != some d)
          | none=>true) && (match cB (bn i mvs) o,ops[j]? with
          | some t,some p=>!((p.looksAt ops).contains t) || (Nat.blt j i && wO o j)
          | _,_=>true))
       else (List.range i).all fun j=>wO o j)
def fF (ops:Array Oper) (mvs:List Nat) (xs:Nat→V × Bool) (j:Nat):Option Nat :=
 match ops[j]? with
 | some o=>if (xs j).2 then cB (bn j mvs) o else none
 | none=>none
theorem fK {L:Nat→Option V} {mv:Bool} {o:Oper} {x:V × Bool} {t:Nat} (h1:o.dst ≠ some t) (h2:(if x.2 then cB mv o else none) ≠ some t):ey L mv o x t=L t:=by
 unfold ey
 simp only [oB,if_neg h1]
 cases hc:(if x.2 then cB mv o else none) with
 | none=>rfl
 | some u =>
  rw [kT,if_neg]
  intro e;subst e;exact h2 hc
theorem qi {L:Nat→Option V} {mv:Bool} {o:Oper} {x:V × Bool} {t:Nat} (h1:o.dst=some t):ey L mv o x t=some x.1:=by
 unfold ey;simp [oB,h1]
theorem jH {L:Nat→Option V} {mv:Bool} {o:Oper} {x:V × Bool} {t:Nat} (h1:o.dst ≠ some t) (h2:(if x.2 then cB mv o else none)=some t):ey L mv o x t=none:=by
 unfold ey
 simp only [oB,if_neg h1,h2,kT,if_true]
section
variable {ops:Array Oper} {mvs:List Nat} {pr:List (List Nat)} {Ls:Nat→Nat→Option V} {ms:Nat→List (Nat × V)} {xs:Nat→V × Bool} {i n:Nat}
theorem Tr.one (h:Tr c ops mvs pr Ls ms xs i n) {j:Nat} (h1:i≤j) (h2:j<n):∃ o,ops[j]? = some o∧eh ops j=o.dst∧fF ops mvs xs j=(if (xs j).2 then cB (bn j mvs) o else none)∧Ls (j+1)=ey (Ls j) (bn j mvs) o (xs j):=by
 obtain ⟨o,m1,h3,_,_,h5⟩:=h.step j h1 h2
 exact ⟨o,h3,by simp [eh,h3],by simp [fF,h3],h5⟩
theorem Tr.keep (h:Tr c ops mvs pr Ls ms xs i n) {t a:Nat} (ha:i≤a):∀ b,a≤b→b≤n→(∀ j,a≤j→j<b→eh ops j ≠ some t∧fF ops mvs xs j ≠ some t)→Ls b t=Ls a t
 | 0,hab,_,_=>by
  have:a=0:=by omega
  subst this;rfl
 | b+1,hab,hbn,hj=>by
  by_cases e:a=b+1
  ·subst e;rfl
  ·rw [← Tr.keep h ha b (by omega) (by omega) fun j h1 h2=>hj j h1 (by omega)]
   obtain ⟨o,h3,h4,h5,h6⟩:=h.one (j:=b) (by omega) (by omega)
   have:=hj b (by omega) (by omega)
   rw [h4,h5] at this
   rw [h6];exact fK this.1 this.2
theorem Tr.at_dst (h:Tr c ops mvs pr Ls ms xs i n) {j t:Nat} (h1:i≤j) (h2:j<n) (hd:eh ops j=some t):Ls (j+1) t=some (xs j).1:=by
 obtain ⟨o,h3,h4,h5,h6⟩:=h.one h1 h2
 rw [h6];exact qi (h4 ▸ hd)
theorem Tr.at_cut (h:Tr c ops mvs pr Ls ms xs i n) {j t:Nat} (h1:i≤j) (h2:j<n) (hc:fF ops mvs xs j=some t) (hd:eh ops j ≠ some t):Ls (j+1) t=none:=by
 obtain ⟨o,h3,h4,h5,h6⟩:=h.one h1 h2
 rw [h6];exact jH (h4 ▸ hd) (h5 ▸ hc)
theorem Tr.gone (h:Tr c ops mvs pr Ls ms xs i n) {t a:Nat} (ha:i≤a) (hg:Ls a t=none):∀ b,a≤b→b≤n→(∀ j,a≤j→j<b→eh ops j ≠ some t)→Ls b t=none
 | 0,hab,_,_=>by
  have:a=0:=by omega
  subst this;exact hg
 | b+1,hab,hbn,hj=>by
  by_cases e:a=b+1
  ·subst e;exact hg
  ·have ih:=Tr.gone h ha hg b (by omega) (by omega) fun j h1 h2=>hj j h1 (by omega)
   obtain ⟨o,h3,h4,h5,h6⟩:=h.one (j:=b) (by omega) (by omega)
   have hd:=hj b (by omega) (by omega)
   rw [h4] at hd
   rw [h6]
   by_cases e:(if (xs b).2 then cB (bn b mvs) o else none)=some t
   ·exact jH hd e
   ·rw [fK hd e];exact ih
def wM (mvs:List Nat) (ops:Array Oper) (Ls:Nat→Nat→Option V) (xs:Nat→V × Bool) (j k:Nat):Prop:=(qX mvs ops Ls xs j).2=true∧k ∈ (qX mvs ops Ls xs j).1
theorem fO.cases {m m':List (Nat × V)} {j:Nat} {o:Oper} {L:Nat→Option V} {x:V × Bool} (h:fO c ops mvs m j o L x m'):(x.2=true∧da c (bn j mvs) o L m ut=some (x.1,m')∧AZ ops o x.1 m'=true)∨(x=(.unit,false)∧m'=m):=by
 unfold fO at h
 split at h
 ·exact .inl h
 ·obtain ⟨g,gv,_,_,h | h⟩:=h
  ·exact .inl h.2
  ·exact .inr h.2
theorem Tr.memStep (hC:∀ f e,lkN c.fns f=some e→CallOK P f e) (h:Tr c ops mvs pr Ls ms xs i n) {j k:Nat} (h1:i≤j) (h2:j<n) (hk:¬ wM mvs ops Ls xs j k):lk (ms (j+1)) k=lk (ms j) k:=by
 obtain ⟨o,m1,h3,h4,h5,_⟩:=h.step j h1 h2
 rw [← h5]
 rcases h4.cases with ⟨g1,g2,_⟩ | ⟨g1,g2⟩
 ·obtain ⟨_,_,_,g3⟩:=ou hC g2 (m':=ms j) fun _ _=>rfl
  refine (g3 k fun hh=>hk ?_).1
  unfold wM qX
  rw [h3];simp only [g1,if_true];exact hh
 ·rw [g2]
theorem Tr.memKeep (hC:∀ f e,lkN c.fns f=some e→CallOK P f e) (h:Tr c ops mvs pr Ls ms xs i n) {k a:Nat} (ha:i≤a):∀ b,a≤b→b≤n→(∀ j,a≤j→j<b→¬ wM mvs ops Ls xs j k)→lk (ms b) k=lk (ms a) k
 | 0,hab,_,_=>by
  have:a=0:=by omega
  subst this;rfl
 | b+1,hab,hbn,hj=>by
  by_cases e:a=b+1
  ·subst e;rfl
  ·rw [h.memStep hC (by omega) (by omega) (hj b (by omega) (by omega))]
   exact Tr.memKeep hC h ha b (by omega) (by omega) fun j h1 h2=>hj j h1 (by omega)
end
theorem oO (p:Nat→Prop):∀ n,(∀ j,j<n→¬ p j)∨∃ j,j<n∧p j∧∀ i,i<n→p i→i≤j
 | 0=>.inl fun j h=>by omega
 | n+1=>by
  by_cases h:p n
  ·exact .inr ⟨n,by omega,h,fun i hi _=>by omega⟩
  ·rcases oO p n with h1 | ⟨j,h1,h2,h3⟩
   ·refine .inl fun j hj=>?_
    by_cases e:j=n
    ·subst e;exact h
    ·exact h1 j (by omega)
   ·refine .inr ⟨j,by omega,h2,fun i hi hp=>?_⟩
    by_cases e:i=n
    ·subst e;exact absurd hp h
    ·exact h3 i (by omega) hp
theorem yh {pr:List Nat} {fp fq:List Nat × Bool} {j k:Nat} (h:kG pr fp j fq=true) (h1:k ∈ fp.1) (h2:k ∈ fq.1) (h3:fp.2=true∨fq.2=true):j ∈ pr:=by
 simp only [kG,Bool.or_eq_true,Bool.not_eq_true',Bool.or_eq_false_iff] at h
 rcases h with (h | h) | h
 ·rcases h3 with h3 | h3
  ·rw [h3] at h;cases h.1
  ·rw [h3] at h;cases h.2
 ·exact absurd h2 ((qB _ _).1 h k h1)
 ·exact (nk _ _).1 h
def zO (ops:Array Oper) (pr:List (List Nat)):Bool:=(List.range ops.size).all fun i=>match ops[i]? with
 | none=>false
 | some o=>(lB pr i).all fun j=>o.after.any fun e=>Region.binds .any e && (Nat.beq e.on j || bn j (lB pr e.on))
theorem qE {ops:Array Oper} {pr:List (List Nat)} (h:zO ops pr=true) {i j:Nat} {o:Oper} (ho:ops[i]? = some o) (hj:j ∈ lB pr i):∃ e ∈ o.after,Region.binds .any e=true∧(e.on=j∨j ∈ lB pr e.on):=by
 have:=List.all_eq_true.1 h i (List.mem_range.2 (Array.getElem?_eq_some_iff.1 ho).1)
 simp only [ho] at this
 have:=List.all_eq_true.1 this j hj
 obtain ⟨e,he,hb⟩:=Array.any_eq_true'.1 this
 simp only [Bool.and_eq_true,Bool.or_eq_true] at hb
 exact ⟨e,he,hb.1,hb.2.imp (fun h=>Nat.eq_of_beq_eq_true h) (fun h=>(nk _ _).1 h)⟩
end Go.Proofs.YtfhcammihohmjaaGreatDoor.Pal
end
noncomputable section
/- Regions whose order is free: one step, at any time. -/
namespace Go.Proofs.YtfhcammihohmjaaGreatDoor.Pal
open Go
variable [MonoC]
variable {P:Program} {X Y:Nat→Nat→Prop} {G0 G G':Gh} {w0 w w':World} {s:St} {a:Act} {c:Cx} {Q:Exit→Act→World→Prop}

theorem jZ {mv:Bool} {e:Option Ty} {x:Operand} {E:List (Nat × V)} {m:List (Nat × V)} {v:V} (h:lw mv e (lk E) x=some v):wP mv e ⟨E,m⟩ x=some (v,⟨sA E (jd mv x),m⟩):=by
 cases x with
 | tmp t =>
  cases mv with
  | true =>
   simp only [lw,cond_true,Option.bind_eq_some_iff,Option.map_eq_some_iff] at h
   obtain ⟨u,hu,c,hc,rfl⟩:=h
   simp only [wP,cond_true,hu,hc,Option.bind_some,Option.map_some];rfl
  | false =>
   simp only [lw,cond_false] at h
   simp only [wP,cond_false,h,Option.map_some];rfl
 | const y=>simp only [lw] at h;simp only [wP,h,Option.map_some];rfl
 | func f=>simp only [lw,Option.some.injEq] at h;subst h;rfl
 | global g=>simp [lw] at h
theorem E3 {ρ ρ':Option Ty→Operand→Option V} (h:∀ e x,ρ e x=ρ' e x) (tys:List (Option Ty)) (l:List Operand):mT ρ tys l=mT ρ' tys l:=mn l tys fun e x _=>h e x
theorem yB {mv:Bool} {tys:List (Option Ty)} {l:List Operand} {E m:List (Nat × V)} {vs:List V} (h:lF mv tys (lk E) l=some vs) :
  xx mv tys ⟨E,m⟩ l=some (vs,⟨sA E (ng mv l),m⟩):=by
 cases l with
 | nil=>simp only [lF,Option.some.injEq] at h;subst h;rfl
 | cons x r =>
  simp only [lF,Option.bind_eq_some_iff,Option.some.injEq] at h
  obtain ⟨v,hv,us,hus,rfl⟩:=h
  simp only [xx,jZ hv,Option.bind_some]
  rw [E3 (ρ':=jP (mE (lk E) (jd mv x))) fun e y=>by rw [fS,nG],hus]
  rfl
theorem y8 {α:Type} (d:Option Nat) (s:St) (K:St→Option α):A5 false d s K=K s:=by
 unfold A5
 split
 ·rename_i h;cases h
 ·rfl
theorem uF {mv : Bool} {o : Oper} {v : V} {m' : List (Nat × V)} (hna : ∀ T, o.op ≠ .alloc T) (hT : TT P c) (hC : ∀ f e, lkN c.fns f = some e → CallOK P f e) (hR : RS X G0 w0 G s a.tmps w) (h : da c mv o (lk s.env) s.mem ut = some (v, m')) (hd : ∀ t, o.dst = some t → t < a.tmps.size) :
    o.wp P a w (EV X G0 w0 a some (({ env:=sA s.env (cB mv o),mem:=m' }:St).dst o.dst v)) Q:=by
  obtain ⟨E,m⟩:=s
  obtain ⟨dst,op,ty,pos,after,guard⟩:=o
  have loadF : ∀ {t : TypeId} {x : Operand}, op = .load t x → iy c false ⟨dst, op, ty, pos, after, guard⟩ (lk E) m (fun v => ut v m) = some (v, m') →
      Oper.wp P ⟨dst,op,ty,pos,after,guard⟩ a w (EV X G0 w0 a some (({ env:=sA E (cB false ⟨dst,op,ty,pos,after,guard⟩),mem:=m' }:St).dst dst v)) Q:=by
    intro t x hop h
    rw [ew] at h
    obtain ⟨v0,hf,h'⟩:=Option.bind_eq_some_iff.1 h
    injection h' with h';injection h' with h1 h2
    subst h1;subst h2
    subst hop
    have hf:ge c ⟨dst,.load t x,ty,pos,after,guard⟩ (jP (lk E)) m some=some v0:=hf
    rw [← yx ⟨E,m⟩] at hf
    obtain ⟨hB,tE,tM,h1,h2,h3,h4⟩:=id hR
    obtain ⟨v',x',g1,g2,g3⟩:=mb hT hB.wf hR.reads h2 hf
    injection g3 with g3;subst g3
    exact iA g1 (hR.withV g2) hd rfl
  unfold da at h
  split at h
  · rename_i f args tys hop
    simp only at hop;subst hop
    simp only [Option.bind_eq_some_iff] at h
    obtain ⟨fv,hfv,h⟩:=h
    split at h
    · rename_i g caps
      simp only [Option.bind_eq_some_iff] at h
      obtain ⟨vs,hvs,e,he,ar,har,h⟩:=h
      obtain ⟨hdi,h⟩:=ap h
      simp only [Option.bind_eq_some_iff] at h
      obtain ⟨objs,hobjs,h⟩:=h
      obtain ⟨hnr,h⟩:=ap h
      have hOK:=hC g e he
      rw [hOK.nat] at h
      obtain ⟨p,hp,h⟩:=Option.bind_eq_some_iff.1 h
      simp only [Option.bind_eq_some_iff] at h
      obtain ⟨m2,hm2,h⟩:=h
      obtain ⟨hb,h⟩:=ap h
      injection h with h;injection h with h1 h2
      subst h1;subst h2
      simp only [Bool.and_eq_true,List.isEmpty_iff] at hb
      obtain ⟨⟨hb1,hb2⟩,hb3⟩:=hb
      refine cJ (mv:=mv) (ln:=false) hT hC hR ?_ hd
      have hop2:nl none (⟨E,m⟩:St) f=some (.fn g caps):=by rw [fS];exact hfv
      have hc:cB mv ⟨dst,.call { callee:=.value f,args:=args,argTypes:=tys },ty,pos,after,guard⟩=ng mv args.toList:=rfl
      simp only [fc,hop2,Option.bind_some,yB hvs,vH,he,har,hdi,cond_true]
      change bW m ar.2=some objs at hobjs
      change bv m ar.2 p.2=some m2 at hm2
      rw [hobjs]
      simp only [Option.bind_some,hnr,cond_true]
      rw [hOK.nat,hp]
      simp only [Option.bind_some,hm2,hb1,cond_true,hb2,hb3,List.isEmpty_nil,hc,y8]
    · cases h
  · rename_i t x y hop
    simp only at hop;subst hop
    simp only [Option.bind_eq_some_iff] at h
    obtain ⟨ly,hly,av,hav,u,hu,h⟩:=h
    split at h
    · rename_i k p
      obtain ⟨hb,h⟩:=ap h
      rw [Option.bind_eq_some_iff] at h
      obtain ⟨w1,hw1,h⟩:=h
      rw [lm,Option.bind_eq_some_iff] at h
      obtain ⟨w2,hw2,h⟩:=h
      injection h with h;injection h with h1 h2
      subst h1;subst h2
      refine cJ (mv:=mv) (ln:=false) hT hC hR ?_ hd
      have hop2:nl none (⟨E,m⟩:St) x=some (.ref k p):=by rw [fS];exact hav
      simp only [fc,hly,hop2,Option.bind_some,jZ hu,hb,cond_true]
      change lk m k=some w1 at hw1
      rw [hw1]
      simp only [Option.bind_some]
      rw [lm,hw2]
      simp only [Bool.and_eq_true,Option.isNone_iff_eq_none] at hb
      rw [hb.2];rfl
    · cases h
  · rename_i t x i y hop
    simp only at hop;subst hop
    simp only [Option.bind_eq_some_iff] at h
    obtain ⟨ke,hke,v',hv',iv,hiv,yv,hyv,h⟩:=h
    split at h
    · rename_i k
      simp only [Option.bind_eq_some_iff] at h
      obtain ⟨u,hu,a1,ha,b1,hb,h⟩:=h
      split at h
      · rename_i ka kb es
        split at h
        · rename_i hkk
          obtain ⟨hdn,h⟩:=ap h
          injection h with h;injection h with h1 h2
          subst h1;subst h2
          refine cJ (mv:=mv) (ln:=false) hT hC hR ?_ hd
          have e1:nl none (⟨E,m⟩:St) x=some (.mref k):=by rw [fS];exact hv'
          have e2:nl (some ke.1) (⟨E,m⟩:St) i=some iv:=by rw [fS];exact hiv
          have e3:nl (some ke.2) (⟨E,m⟩:St) y=some yv:=by rw [fS];exact hyv
          simp only [fc,hke,e1,e2,e3,Option.bind_some]
          change lk m k=some (.dat (.map ka kb) es) at hu
          rw [hu]
          simp only [Option.bind_some,ha,hb,dif_pos hkk,hdn,cond_true]
          simp only [Option.isNone_iff_eq_none] at hdn
          rw [hdn];rfl
        · cases h
      · cases h
    · cases h
  · rename_i t x hop
    cases mv with
    | false =>
      simp only [cond_false] at h
      exact loadF hop h
    | true =>
      simp only at hop;subst hop
      simp only [cond_true,Option.bind_eq_some_iff] at h
      obtain ⟨ly,hly,av,hav,h⟩:=h
      split at h
      · rename_i k p
        simp only [Option.bind_eq_some_iff] at h
        obtain ⟨w1,hw1,u,hu,h⟩:=h
        obtain ⟨hb,h⟩:=ap h
        simp only [Option.bind_eq_some_iff] at h
        obtain ⟨w2,hw2,h⟩:=h
        injection h with h;injection h with h1 h2
        subst h1;subst h2
        refine cJ (mv:=true) (ln:=false) hT hC hR ?_ hd
        have hop2:nl none (⟨E,m⟩:St) x=some (.ref k p):=by rw [fS];exact hav
        simp only [fc,cond_true,hly,hop2,Option.bind_some]
        change lk m k=some w1 at hw1
        rw [hw1]
        simp only [Option.bind_some,hu,hb,cond_true,hw2];rfl
      · cases h
  · rename_i t hop;exact absurd hop (hna t)
  rename_i hno1 hno2 hno4 hno3 hno5
  rw [ew] at h
  obtain ⟨v0,hf,h'⟩:=Option.bind_eq_some_iff.1 h
  clear h
  have h:=hf
  clear hf
  injection h' with h';injection h' with h1 h2
  subst h1;subst h2
  have plain : (∀ cl, op ≠ .call cl) → (∀ y, op ≠ .move y) → (∀ y, op ≠ .assign y) → (∀ t a y, op ≠ .store t a y) → fc c false false ⟨dst, op, ty, pos, after, guard⟩ ⟨E, m⟩ some = some ((⟨E, m⟩ : St).dst dst v0) → Oper.wp P ⟨dst, op, ty, pos, after, guard⟩ a w (EV X G0 w0 a some (({ env := sA E (cB mv ⟨dst, op, ty, pos, after, guard⟩), mem := m } : St).dst dst v0)) Q := by
    intro hn hn' hn'' hn3 hs
    have : cB mv ⟨dst, op, ty, pos, after, guard⟩ = none := by
      unfold cB
      cases op <;> first | rfl | exact absurd rfl (hn _) | exact absurd rfl (hn' _) | exact absurd rfl (hn'' _) | exact absurd rfl (hn3 _ _ _)
    rw [this]
    exact cJ hT hC hR hs hd
  unfold iy at h
  split at h
  · rename_i args tys hop
    simp only at hop;subst hop
    split at h
    · rename_i x y t t2 hargs htys
      simp only [Option.bind_eq_some_iff] at h
      obtain ⟨v1,hv1,u,hu,h⟩:=h
      split at h
      · rename_i e' e2 e xs h1 h2
        obtain ⟨hb,h⟩:=ap h
        simp only [Option.bind_eq_some_iff] at h
        obtain ⟨ys,hys,h⟩:=h
        obtain ⟨hroom,h⟩:=cw h
        injection h with h;subst h
        refine cJ (mv:=mv) (ln:=false) hT hC hR ?_ hd
        have hc : cB mv ⟨dst, .call { callee := .builtin .append, args := args, argTypes := tys }, ty, pos, after, guard⟩ = jd mv x := by
          simp only [cB,hargs,ng]
        have hu':nl (c.ty t) (⟨sA E (jd mv x),m⟩:St) y=some u:=by rw [fS,nG];exact hu
        rw [h1] at hv1 hu'
        simp only [fc,hargs,htys,jZ hv1,Option.bind_some,hu',h1,h2,hb,cond_true,hys,hroom,br,hc]
      · cases h
    · cases h
  · rename_i x hop
    simp only at hop;subst hop
    rw [Option.bind_eq_some_iff] at h
    obtain ⟨v1,hv1,h⟩:=h
    injection h with h;subst h
    refine cJ (mv:=mv) (ln:=false) hT hC hR ?_ hd
    cases mv with
    | true=>simp only [fc,cond_true,jZ hv1,Option.bind_some,DN,cB]
    | false =>
      have e1 : nl (c.ty ty) (⟨E, m⟩ : St) x = some v1 := by
        rw [fS]
        cases x <;> exact hv1
      have e2:jd false x=none:=by cases x <;> rfl
      simp only [fc,cond_false,qn,ge,e1,Option.bind_some,cB,e2,sA]
  · rename_i x hop
    simp only at hop;subst hop
    rw [Option.bind_eq_some_iff] at h
    obtain ⟨v1,hv1,h⟩:=h
    injection h with h;subst h
    refine cJ (mv:=mv) (ln:=false) hT hC hR ?_ hd
    cases mv with
    | true=>simp only [fc,cond_true,jZ hv1,Option.bind_some,DN,cB]
    | false =>
      have e1 : nl (c.ty ty) (⟨E, m⟩ : St) x = some v1 := by
        rw [fS]
        cases x <;> exact hv1
      have e2:jd false x=none:=by cases x <;> rfl
      simp only [fc,cond_false,qn,ge,e1,Option.bind_some,cB,e2,sA]
  · rename_i t n parts hop
    simp only at hop;subst hop
    refine plain (fun cl e=>by cases e) (fun cl e=>by cases e) (fun cl e=>by cases e) (fun _ _ _ e=>by cases e) ?_
    simp only [fc]
    rw [yx]
    rw [Option.bind_eq_some_iff] at h
    obtain ⟨τ,hτ,h⟩:=h
    rw [hτ]
    split at h
    · simp only [Option.bind_eq_some_iff] at h
      obtain ⟨ps,hps,h⟩:=h
      obtain ⟨hb,h⟩:=ap h
      simp only [Option.bind_eq_some_iff] at h
      obtain ⟨xs,hxs,h⟩:=h
      injection h with h;subst h
      simp only [Option.bind_some,hps,hb,cond_true,hxs]
    · cases h
  · rename_i hn2 hn4 hn5 hn3
    rw [← yx ⟨E,m⟩] at h
    obtain ⟨hB,tE,tM,h1,h2,h3,h4⟩:=id hR
    obtain ⟨v',x,g1,g2,g3⟩:=mb hT hB.wf hR.reads h2 h
    injection g3 with g3;subst g3
    have hc : cB mv ⟨dst, op, ty, pos, after, guard⟩ = none := by
      unfold cB
      split
      · rename_i f args tys e;exact absurd e (hno1 _ _ _)
      · rename_i args tys e;exact absurd e (hn2 _ _)
      · rename_i y e;exact absurd e (hn4 _)
      · rename_i y e;exact absurd e (hn5 _)
      · rename_i t a y e;exact absurd e (hno2 _ _ _)
      · rfl
    rw [hc]
    exact iA g1 (hR.withV g2) hd rfl
end Go.Proofs.YtfhcammihohmjaaGreatDoor.Pal
end
noncomputable section
/- Regions whose order is free: all orders. -/
namespace Go.Proofs.YtfhcammihohmjaaGreatDoor.Pal
open Go
variable [MonoC]
variable {P:Program} {X Y:Nat→Nat→Prop} {G0 G G':Gh} {w0 w w':World} {s:St} {a:Act} {c:Cx} {Q:Exit→Act→World→Prop}

theorem rM {tmps:Array Value}:∀ (l E:List (Nat × V)) (ts:List Nat),eW l=true→bP E=true→(∀ k v,(k,v) ∈ l→lk E k=some v)→aL G w tmps E ts →
  ∃ t2,(∀ g,bi g t2≤bi g ts)∧aL G w tmps l t2
 | [],E,ts,_,_,_,_=>⟨[],fun g=>by simp,rfl⟩
 | (k,v)::r,E,ts,hd,hn,hl,hE=>by
  simp only [eW,Bool.and_eq_true,Bool.not_eq_true'] at hd
  have hk:=hl k v (by simp)
  have hv:cF v:=by
   have:∀ E:List (Nat × V),bP E=true→lk E k=some v→cF v:=by
    intro E
    induction E with
    | nil=>intro _ h;simp [lk] at h
    | cons p E ih =>
     obtain ⟨q,u⟩:=p
     intro h1 h2
     simp only [bP,Bool.and_eq_true] at h1
     rw [bR] at h2
     split at h2
     ·injection h2 with h2;subst h2
      cases u <;> first | trivial | (cases h1.1)
     ·exact ih h1.2 h2
   exact this E hn hk
  obtain ⟨t1,t2,e1,e2,e3⟩:=aL.find k E ts v hE hk hv
  obtain ⟨t3,e4,e5⟩:=rM r (Pal.rm E k) t2 hd.2 (ic E k hn) (fun k' v' h=>by
   have hne:k ≠ k':=fun e=>by
    subst e
    exact eY _ _ hd.1 (List.mem_map.2 ⟨_,h,rfl⟩)
   rw [cm hne];exact hl k' v' (by simp [h])) e3
  exact ⟨t1++t3,fun g=>by have:=e1 g;have:=e4 g;simp;omega,(aL.cons hv).2 ⟨t1,t3,rfl,e2,e5⟩⟩
theorem kv:∀ (l:List (Nat × V)) k v,eW l=true→(k,v) ∈ l→lk l k=some v
 | [],_,_,_,h=>by simp at h
 | (q,u)::r,k,v,hd,h=>by
  simp only [eW,Bool.and_eq_true,Bool.not_eq_true'] at hd
  rw [bR]
  rcases List.mem_cons.1 h with e | h
  ·injection e with e1 e2;subst e1;subst e2;simp
  ·have:q ≠ k:=fun e=>by subst e;exact eY _ _ hd.1 (List.mem_map.2 ⟨_,h,rfl⟩)
   rw [if_neg this];exact kv r k v hd.2 h
theorem nv:∀ (l m:List (Nat × V)) (ts:List Nat),eW l=true→(∀ k v,(k,v) ∈ l→lk m k=some v)→aM G w m ts →
  ∃ t2,(∀ g,bi g t2≤bi g ts)∧aM G w l t2
 | [],m,ts,_,_,_=>⟨[],fun g=>by simp,rfl⟩
 | (k,v)::r,m,ts,hd,hl,hM=>by
  simp only [eW,Bool.and_eq_true,Bool.not_eq_true'] at hd
  have hk:=hl k v (by simp)
  obtain ⟨t1,t2,cs,e1,e2,e3,e4,e5⟩:=aM.find k m ts v hM hk
  obtain ⟨t3,e6,e7⟩:=nv r (Pal.rm m k) t2 hd.2 (fun k' v' h=>by
   have hne:k ≠ k':=fun e=>by
    subst e
    exact eY _ _ hd.1 (List.mem_map.2 ⟨_,h,rfl⟩)
   rw [cm hne];exact hl k' v' (by simp [h])) e5
  exact ⟨t1++t3,fun g=>by have:=e1 g;have:=e6 g;simp;omega,t1,t3,cs,rfl,e2,e3,e4,e7⟩
theorem RS.same2 {tmps:Array Value} {E E':List (Nat × V)} {m m':List (Nat × V)} (h:RS X G0 w0 G ⟨E,m⟩ tmps w) (hn:bP E=true) (hd:eW E'=true) (hl:lk E'=lk E) (hd2:eW m'=true) (hl2:lk m'=lk m):RS X G0 w0 G ⟨E',m'⟩ tmps w:=by
 obtain ⟨hB,tE,tM,h1,h2,h3,h4⟩:=h
 obtain ⟨t2,e1,e2⟩:=rM E' E tE hd hn (fun k v h=>by rw [← hl];exact kv E' k v hd h) h1
 obtain ⟨t3,e3,e4⟩:=nv m' m tM hd2 (fun k v h=>by rw [← hl2];exact kv m' k v hd2 h) h2
 exact ⟨hB,t2,t3,e2,e4,fun g=>by have:=h3 g;have:=e1 g;have:=e3 g;omega,fun g hg=>h4 g (by have:=e1 g;have:=e3 g;omega)⟩
theorem uX {α : Type} {ops : Array Oper} {mvs lns : List Nat} {K : St → Option α} {res : α} {n : Nat} {ds : List Deferred} (hT : TT P c) (hC : ∀ f e, lkN c.fns f = some e → CallOK P f e)
    {o:Oper} {r:List Oper} {i:Nat} (hi:ops[i]? = some o) (hd:∀ t,o.dst=some t→t<n) (h:cS c ops mvs lns i (o::r) s K=some res) (hR:RS X G0 w0 G s a.tmps w) (hn:a.tmps.size=n) (hds:a.defers=ds) :
    wpOp P ops Q i (fun a' w'=>∃ G' s',RS X G0 w0 G' s' a'.tmps w'∧a'.tmps.size=n∧a'.defers=ds∧cS c ops mvs lns (i+1) r s' K=some res) a w:=by
  have hd':∀ t,o.dst=some t→t<a.tmps.size:=fun t ht=>by rw [hn];exact hd t ht
  have go : ∀ (s1 : St), RS X G0 w0 G s1 a.tmps w → fc c (bn i mvs) (bn i lns) o s1 (fun s2 => cS c ops mvs lns (i + 1) r s2 K) = some res →
      o.wp P a w (fun a' w'=>∃ G' s',RS X G0 w0 G' s' a'.tmps w'∧a'.tmps.size=n∧a'.defers=ds∧cS c ops mvs lns (i+1) r s' K=some res) Q:=by
    intro s1 hR1 hs
    refine Oper.wp_mono (fun a' w' hN=>?_) (cJ (Q:=Q) hT hC hR1 hs hd')
    obtain ⟨G',s',g1,g2,g3,g4⟩:=hN
    exact ⟨G',s',g1,g2.trans hn,g3.trans hds,g4⟩
  unfold wpOp
  simp only [hi]
  simp only [cS] at h
  cases hgd:o.guard with
  | none =>
    simp only [hgd] at h
    rw [if_pos (by simp [Region.wanted,hgd])]
    exact .inl (go s hR h)
  | some jw =>
    obtain ⟨j,want⟩:=jw
    simp only [hgd,Option.bind_eq_some_iff] at h
    obtain ⟨g,hg,gv,hgv,h⟩:=h
    have hg':(ops[j]?).bind (·.dst)=some g:=by simpa [Option.bind_eq_some_iff] using hg
    split at h
    · rename_i b
      have hy:=jM hR hg' hgv
      have hR1:=hR.refine_ hgv
      have hw : Region.wanted o (yielded ops a.tmps) = (b == want) := by
        simp only [Region.wanted,hgd,hy]
        cases b <;> cases want <;> rfl
      have skip : ∀ (s1 : St), RS X G0 w0 G s1 a.tmps w → cS c ops mvs lns (i + 1) r (s1.dst o.dst .unit) K = some res →
          ∃ G' s',RS X G0 w0 G' s' (a.put o.dst undef).tmps w∧(a.put o.dst undef).tmps.size=n∧(a.put o.dst undef).defers=ds∧cS c ops mvs lns (i+1) r s' K=some res:=by
        intro s1 hR1 h1
        exact ⟨G,_,hR1.skip,(fR _ _ _).trans hn,(dU _ _ _).trans hds,h1⟩
      rcases kj h with ⟨rfl,h⟩ | ⟨rfl,h⟩
      · cases want with
        | true =>
          rw [if_pos (by rw [hw];rfl)]
          exact .inl (go _ hR1 h)
        | false =>
          rw [if_neg (by rw [hw];simp)]
          exact skip _ hR1 h
      · cases want with
        | true =>
          rw [if_neg (by rw [hw];simp)]
          exact skip _ hR1 h
        | false =>
          rw [if_pos (by rw [hw];rfl)]
          exact .inl (go _ hR1 h)
    · have hy:=jB hR hg' hgv
      rw [if_neg (by simp [Region.wanted,hgd,hy])]
      exact ⟨G,_,hR.skip,(fR _ _ _).trans hn,(dU _ _ _).trans hds,h⟩
    · cases h

def D5 (l:Array Bool):Nat:=l.toList.count false
theorem zQ {l:Array Bool} {i:Nat} (h:l.getD i true=false):D5 (l.setIfInBounds i true)+1=D5 l:=by
 have hlt:i<l.size:=by
  rcases Nat.lt_or_ge i l.size with h' | h'
  ·exact h'
  ·simp [Array.getElem?_eq_none h'] at h
 have hv:l.toList[i]'(by simpa using hlt)=false:=by simpa [Array.getD,hlt] using h
 unfold D5
 rw [Array.toList_setIfInBounds,List.count_set (by simpa using hlt)]
 have hp:0<l.toList.count false:=List.count_pos_iff.2 (by rw [← hv];exact List.getElem_mem _)
 have h1:(l.toList[i]'(by simpa using hlt) == false)=true:=by rw [hv];rfl
 rw [if_pos h1,if_neg (by decide)]
 omega
theorem wn {l:Array Bool} (h:D5 l=0) (i:Nat):l.getD i true=true:=by
 unfold D5 at h
 rw [List.count_eq_zero] at h
 rcases Nat.lt_or_ge i l.size with h' | h'
 ·cases hv:l[i]'h' with
  | true=>simp [Array.getD,h',hv]
  | false=>exact absurd (by rw [← hv];simp) h
 ·simp [Array.getElem?_eq_none h']
theorem mz {l:Array Bool} {i:Nat} (h:i<l.size) (b b':Bool):l.getD i b=l.getD i b':=by simp [Array.getD,h]

theorem iN {ops:Array Oper} {mvs:List Nat} {n:Nat} (h:lY ops mvs n=true):n≤ops.size∧(∀ (i:Nat) (o:Oper),ops[i]? = some o→∀ e ∈ o.after,Region.binds .any e=true→e.on<i) ∧
  (∀ (i:Nat) (o:Oper),ops[i]? = some o→i<n→∀ j,j<n→i ≠ j→(∀ d,eh ops j=some d→(d ∈ o.looksAt ops→(j<i∧wO o j=true)∨(i<j∧GH ops j i=true))∧o.dst ≠ some d) ∧
   ∀ t p,cB (bn i mvs) o=some t→ops[j]? = some p→t ∈ p.looksAt ops→j<i∧wO o j=true) ∧
  (∀ (i:Nat) (o:Oper),ops[i]? = some o→n≤i→∀ j,j<i→wO o j=true):=by
 simp only [lY,Bool.and_eq_true,List.all_eq_true,List.mem_range] at h
 obtain ⟨h0,h⟩:=h
 have key:∀ (i:Nat) (o:Oper),ops[i]? = some o→i<ops.size:=fun i o hi=>(Array.getElem?_eq_some_iff.1 hi).1
 refine ⟨Nat.le_of_ble_eq_true h0,fun i o hi e he hbd=>?_,fun i o hi hin j hj hne=>?_,fun i o hi hin=>?_⟩
 ·have:=h i (key i o hi)
  simp only [hi,Bool.and_eq_true] at this
  have h1:=this.1
  rw [Array.all_eq_true_iff_forall_mem] at h1
  have h2:=h1 e he
  rw [hbd] at h2
  simp only [Bool.not_true,Bool.false_or] at h2
  exact Nat.le_of_ble_eq_true h2
 ·have:=h i (key i o hi)
  simp only [hi,Bool.and_eq_true,if_pos hin,List.all_eq_true,List.mem_range] at this
  have h1:=this.2 j hj
  rw [Bool.or_eq_true] at h1
  rcases h1 with h1 | h1
  ·exact absurd (aS.1 h1) hne
  ·rw [Bool.and_eq_true] at h1
   obtain ⟨h1,h2⟩:=h1
   refine ⟨fun d hd=>?_,fun t p hc hp hm=>?_⟩
   ·simp only [hd,Bool.or_eq_true,Bool.and_eq_true,bne_iff_ne,ne_eq] at h1
    refine ⟨fun hm=>?_,h1.2⟩
    rcases h1.1 with (h3 | h3) | h3
    ·simp at h3;exact absurd hm h3
    ·exact .inl ⟨Nat.le_of_ble_eq_true h3.1,h3.2⟩
    ·exact .inr ⟨Nat.le_of_ble_eq_true h3.1,h3.2⟩
   ·simp only [hc,hp,Bool.or_eq_true,Bool.and_eq_true] at h2
    rcases h2 with h3 | h3
    ·simp at h3;exact absurd hm h3
    ·exact ⟨Nat.le_of_ble_eq_true h3.1,h3.2⟩
 ·have:=h i (key i o hi)
  simp only [hi,Bool.and_eq_true,if_neg (Nat.not_lt.2 hin),List.all_eq_true,List.mem_range] at this
  exact this.2
theorem qQ {o:Oper} {j:Nat} {listed:Array Bool} (h:wO o j=true) (hall:∀ e ∈ o.after,Region.binds .any e=true→listed.getD e.on false=true):listed.getD j false=true:=by
 unfold wO at h
 obtain ⟨e,he,hb⟩:=Array.any_eq_true'.1 h
 simp only [Bool.and_eq_true] at hb
 have:=hall e he hb.1
 rwa [aS.1 hb.2] at this
theorem wX {α:Type} {ops:Array Oper} {mvs lns:List Nat} {K:St→Option α} {res:α} {n N:Nat} {ds:List Deferred} (hT:TT P c) (hC:∀ f e,lkN c.fns f=some e→CallOK P f e) (hdst:∀ o ∈ ops.toList,∀ t,o.dst=some t→t<N) (hok:lY ops mvs n=true)
  (hQ:∀ a' w' G' s',RS X G0 w0 G' s' a'.tmps w'→a'.tmps.size=N→a'.defers=ds→K s'=some res→Q .normal a' w') :
  ∀ (fuel k:Nat) (listed:Array Bool) (s:St) (a:Act) (w:World) (G:Gh),n≤k→D5 listed≤fuel→listed.size=ops.size→(∀ j,j<ops.size→(listed.getD j true=true ↔ j<k)) →
   cS c ops mvs lns k (ops.toList.drop k) s K=some res→RS X G0 w0 G s a.tmps w→a.tmps.size=N→a.defers=ds→wpAny P .any ops Q fuel listed a w:=by
 obtain ⟨hn,_,_,hB⟩:=iN hok
 intro fuel
 have ready:∀ (k:Nat) (listed:Array Bool),n≤k→listed.size=ops.size→(∀ j,j<ops.size→(listed.getD j true=true ↔ j<k))→∀ i ∈ Region.ready .any ops listed,i=k:=by
  intro k listed hk hsz hL i hi
  obtain ⟨h0,o,ho,hall⟩:=mem_ready.1 hi
  have hlt:=(Array.getElem?_eq_some_iff.1 ho).1
  have h1:¬ i<k:=fun h=>by have:=(hL i hlt).2 h;rw [h0] at this;cases this
  rcases Nat.lt_or_ge k i with h2 | h2
  ·have h3:=qQ (hB i o ho (by omega) k h2) hall
   have h4:=(hL k (by omega)).1 (by rw [mz (by omega) true false];exact h3)
   omega
  ·omega
 have nready:∀ (k:Nat) (listed:Array Bool),n≤k→listed.size=ops.size→(∀ j,j<ops.size→(listed.getD j true=true ↔ j<k))→Region.ready .any ops listed=[]→ops.size≤k:=by
  intro k listed hk hsz hL hr
  rcases Nat.lt_or_ge k ops.size with h | h
  ·have hk':k ∈ Region.ready .any ops listed:=by
    refine mem_ready.2 ⟨?_,ops[k],Array.getElem?_eq_getElem h,fun e he hbd=>?_⟩
    ·have:=hL k h
     cases hv:listed.getD k true with
     | false=>rfl
     | true=>have:=this.1 hv;omega
    ·have:=(iN hok).2.1 k ops[k] (Array.getElem?_eq_getElem h) e he hbd
     rw [mz (by omega) false true]
     exact (hL e.on (by omega)).2 this
   rw [hr] at hk';cases hk'
  ·exact h
 have fin:∀ (k:Nat) (listed:Array Bool) (s:St) (a:Act) (w:World) (G:Gh),ops.size≤k→cS c ops mvs lns k (ops.toList.drop k) s K=some res→RS X G0 w0 G s a.tmps w→a.tmps.size=N→a.defers=ds→Q .normal a w:=by
  intro k listed s a w G hk h hR hn hds
  rw [List.drop_eq_nil_of_le (by simpa using hk)] at h
  simp only [cS] at h
  exact hQ a w G s hR hn hds h
 induction fuel with
 | zero =>
  intro k listed s a w G hk hu hsz hL h hR hN hds
  have hz:D5 listed=0:=by omega
  have hr:Region.ready .any ops listed=[]:=by
   apply List.eq_nil_iff_forall_not_mem.2
   intro i hi
   have:=(mem_ready.1 hi).1
   rw [wn hz i] at this;cases this
  exact ⟨hr,fin k listed s a w G (nready k listed hk hsz hL hr) h hR hN hds⟩
 | succ fuel ih =>
  intro k listed s a w G hk hu hsz hL h hR hN hds
  refine ⟨fun hr=>fin k listed s a w G (nready k listed hk hsz hL hr) h hR hN hds,fun i hi=>?_⟩
  have hik:=ready k listed hk hsz hL i hi
  subst hik
  obtain ⟨h0,o,ho,hall⟩:=mem_ready.1 hi
  have hlt:=(Array.getElem?_eq_some_iff.1 ho).1
  have hdr:ops.toList.drop i=o::ops.toList.drop (i+1):=by
   rw [List.drop_eq_getElem_cons (by simpa using hlt)]
   congr 1
   have:=(Array.getElem?_eq_some_iff.1 ho).2
   simpa using this
  rw [hdr] at h
  have hmem:o ∈ ops.toList:=by rw [← Array.getElem?_toList] at ho;exact List.mem_of_getElem? ho
  refine wpOp_mono (fun a' w' hh=>?_) (uX (Q:=Q) hT hC ho (hdst o hmem) h hR hN hds)
  obtain ⟨G',s',g1,g2,g3,g4⟩:=hh
  refine ih (i+1) _ s' a' w' G' (by omega) (by have:=zQ h0;omega) (by simp [hsz]) (fun j hj=>?_) g4 g1 g2 g3
  by_cases e:i=j
  ·subst e
   simp [Array.getD,hsz,hj]
  ·rw [getD_set_ne true e,hL j hj]
   omega
structure Head (X:Nat→Nat→Prop) (G0:Gh) (w0:World) (ops:Array Oper) (mvs:List Nat) (n N:Nat) (ds:List Deferred) (Ls:Nat→Nat→Option V) (ms:Nat→List (Nat × V)) (xs:Nat→V × Bool) (listed:Array Bool) (a:Act) (w:World) (G:Gh) (E M:List (Nat × V)):Prop where
 rs:RS X G0 w0 G ⟨E,M⟩ a.tmps w
 nol:bP E=true
 size:a.tmps.size=N
 defs:a.defers=ds
 lsz:listed.size=ops.size
 late:∀ j,n≤j→j<ops.size→listed.getD j true=false
 closed:∀ j (o:Oper),ops[j]? = some o→listed.getD j true=true→∀ i,i<ops.size→wO o i=true→listed.getD i true=true
 old:∀ t,(∀ j,j<n→listed.getD j true=true→eh ops j ≠ some t∧fF ops mvs xs j ≠ some t)→lk E t=Ls 0 t
 new:∀ j t,j<n→eh ops j=some t→listed.getD j true=true→(∀ i,i<n→listed.getD i true=true→i ≠ j→fF ops mvs xs i=some t→i<j)→lk E t=some (xs j).1
 gone:∀ j t,j<n→listed.getD j true=true→fF ops mvs xs j=some t→(∀ i,i<n→listed.getD i true=true→eh ops i=some t→i<j)→lk E t=none
 mold:∀ k,(∀ j,j<n→listed.getD j true=true→¬ wM mvs ops Ls xs j k)→lk M k=lk (ms 0) k
 mnew:∀ j k,j<n→listed.getD j true=true→wM mvs ops Ls xs j k→(∀ i,i<n→listed.getD i true=true→wM mvs ops Ls xs i k→i≤j)→lk M k=lk (ms (j+1)) k
theorem nX {o:Oper} {ops:Array Oper} {t:Nat} (hx:Operand.tmp t ∈ o.op.operands):t ∈ o.looksAt ops:=by
 unfold Oper.looksAt
 exact List.mem_append_left _ (List.mem_filterMap.2 ⟨.tmp t,by simpa using hx,rfl⟩)
theorem vp {mv:Bool} {o:Oper} {ops:Array Oper} {t:Nat} (h:cB mv o=some t):t ∈ o.looksAt ops:=by
 refine nX ?_
 obtain ⟨dst,op,ty,pos,after,guard⟩:=o
 have key:∀ args:Array Operand,ng mv args.toList=some t→Operand.tmp t ∈ args:=by
  intro args h
  rw [← Array.mem_toList_iff]
  cases hx:args.toList with
  | nil=>rw [hx] at h;cases h
  | cons x r =>
   rw [hx] at h
   cases x with
   | tmp u =>
    simp only [ng,jd] at h
    obtain ⟨_,h⟩:=ap h
    injection h with h;subst h;simp
   | _=>cases h
 unfold cB at h
 split at h
 ·rename_i f args tys hop
  simp only at hop;subst hop
  simp [Op.operands,Call.operands,key args h]
 ·rename_i args tys hop
  simp only at hop;subst hop
  simp [Op.operands,Call.operands,key args h]
 ·rename_i x hop
  simp only at hop;subst hop
  have:=key #[x] (by simpa [ng] using h)
  simpa [Op.operands] using this
 ·rename_i x hop
  simp only at hop;subst hop
  have:=key #[x] (by simpa [ng] using h)
  simpa [Op.operands] using this
 ·rename_i q a x hop
  simp only at hop;subst hop
  have:=key #[x] (by simpa [ng] using h)
  simp only [Array.mem_toList_iff,List.mem_singleton,Array.mem_singleton] at this
  simp [Op.operands,this]
 ·cases h
theorem qb {ops:Array Oper} {mvs:List Nat} {xs:Nat→V × Bool} {j t:Nat} (h:fF ops mvs xs j=some t):∃ o,ops[j]? = some o∧cB (bn j mvs) o=some t:=by
 unfold fF at h
 split at h
 ·rename_i o h1
  split at h
  ·exact ⟨o,h1,h⟩
  ·cases h
 ·cases h
theorem fO.congr {ops:Array Oper} {mvs:List Nat} {m m':List (Nat × V)} {i:Nat} {o:Oper} {L L':Nat→Option V} {x:V × Bool} (h:∀ t ∈ o.looksAt ops,L t=L' t) (hG:fO c ops mvs m i o L x m'):fO c ops mvs m i o L' x m':=by
 have hs:da c (bn i mvs) o L m ut=da c (bn i mvs) o L' m ut:=vY fun t hx=>h t (nX hx)
 unfold fO at hG ⊢
 split at hG
 ·rw [← hs];exact hG
 ·rename_i j want hgd
  obtain ⟨g,gv,h1,h2,h3⟩:=hG
  refine ⟨g,gv,h1,?_,by rw [← hs];exact h3⟩
  rw [← h g (by unfold Oper.looksAt;exact List.mem_append_right _ (by simp [hgd,h1]))]
  exact h2
def qY:List (Nat × V)→List (Nat × V)
 | []=>[]
 | (k,v)::r=>(k,v)::rm (qY r) k
theorem kq:∀ (E:List (Nat × V)) (t:Nat),lk (qY E) t=lk E t
 | [],_=>rfl
 | (k,v)::r,t=>by
  show lk ((k,v)::rm (qY r) k) t=_
  rw [bR,bR]
  by_cases h:k=t
  ·rw [if_pos h,if_pos h]
  ·rw [if_neg h,if_neg h,cm h,kq r t]
theorem qc {k:Nat} {v:V} {r:List (Nat × V)} (h1:k ∉ cR r) (h2:eW r=true):eW ((k,v)::r)=true:=by
 simp only [eW,Bool.and_eq_true,Bool.not_eq_true']
 refine ⟨?_,h2⟩
 cases hm:bn k (r.map (·.1)) with
 | false=>rfl
 | true =>
  exfalso
  have:∀ l:List Nat,bn k l=true→k ∈ l:=by
   intro l
   induction l with
   | nil=>intro h;cases h
   | cons q l ih =>
    intro h
    simp only [bn,Bool.or_eq_true] at h
    rcases h with h | h
    ·have:=aS.1 h;subst this;simp
    ·exact List.mem_cons_of_mem _ (ih h)
  exact h1 (this _ hm)
theorem pW (k:Nat):∀ (r:List (Nat × V)),eW r=true→eW (rm r k)=true
 | [],_=>rfl
 | (q,v)::r,h=>by
  have h':=h
  simp only [eW,Bool.and_eq_true,Bool.not_eq_true'] at h
  rw [dq]
  split
  ·exact pW k r h.2
  ·refine qc (fun hm=>?_) (pW k r h.2)
   exact eY _ _ h.1 (fj k r q hm).1
theorem jn:∀ (E:List (Nat × V)),eW (qY E)=true
 | []=>rfl
 | (k,v)::r=>qc (fun hm=>(fj k _ k hm).2 rfl) (pW k _ (jn r))
theorem j8 {d:Nat}:∀ {m:List (Nat × V)} {k:Nat} {v:V},cz d m=true→lk m k=some v→bn d v.refs=false
 | [],_,_,_,h=>by cases h
 | (q,u)::r,k,v,h,hl=>by
  simp only [cz,Bool.and_eq_true,Bool.not_eq_true'] at h
  rw [bR] at hl
  split at hl
  ·injection hl with hl;subst hl;exact h.1
  ·exact j8 h.2 hl
theorem qK {d:Nat}:∀ (m:List (Nat × V)),(∀ k v,(k,v) ∈ m→bn d v.refs=false)→cz d m=true
 | [],_=>rfl
 | (k,v)::r,h=>by
  simp only [cz,Bool.and_eq_true,Bool.not_eq_true']
  exact ⟨h k v (by simp),qK r fun q u hq=>h q u (by simp [hq])⟩
structure Clean (ops:Array Oper) (Ls:Nat→Nat→Option V) (ms:Nat→List (Nat × V)) (xs:Nat→V × Bool) (n:Nat):Prop where
 env0:∀ d ∈ jW ops.toList,∀ t v,Ls 0 t=some v→bn d v.refs=false
 mem0:∀ d ∈ jW ops.toList,∀ k v,lk (ms 0) k=some v→bn d v.refs=false
 res:∀ j,j<n→∀ d ∈ jW ops.toList,eh ops j=some d∨bn d (xs j).1.refs=false
 mem:∀ j,j<n→∀ d ∈ jW ops.toList,∀ k v,lk (ms (j+1)) k=some v→bn d v.refs=false
theorem BP {ops:Array Oper} {mvs:List Nat} {pr:List (List Nat)} {Ls:Nat→Nat→Option V} {ms:Nat→List (Nat × V)} {xs:Nat→V × Bool} {n:Nat} {s:St} (htr:Tr c ops mvs pr Ls ms xs 0 n) (hL0:Ls 0=lk s.env) (hm0:ms 0=s.mem) (h0:Ax (jW ops.toList) s.env s.mem=true):Clean ops Ls ms xs n:=by
 have env0:∀ d ∈ jW ops.toList,∀ t v,Ls 0 t=some v→bn d v.refs=false:=fun d hd t v hv=>by
  rw [hL0] at hv;exact j8 (nC h0 d hd).1 hv
 have mem0:∀ d ∈ jW ops.toList,∀ k v,lk (ms 0) k=some v→bn d v.refs=false:=fun d hd t v hv=>by
  rw [hm0] at hv;exact j8 (nC h0 d hd).2 hv
 have at_:∀ j,j<n→∃ o m1,ops[j]? = some o∧lk m1=lk (ms (j+1))∧((∀ d ∈ jW ops.toList,cz d m1=true∧(o.dst=some d∨bn d (xs j).1.refs=false))∨((xs j).1 = .unit∧m1=ms j)):=fun j hj=>by
  obtain ⟨o,m1,h1,h2,h3,_⟩:=htr.step j (Nat.zero_le _) hj
  refine ⟨o,m1,h1,h3,?_⟩
  rcases h2.cases with ⟨_,_,g⟩ | ⟨g1,g2⟩
  ·refine .inl fun d hd=>?_
   simp only [AZ,Bool.and_eq_true] at g
   exact vB g.2 d hd
  ·exact .inr ⟨by rw [g1],g2⟩
 refine ⟨env0,mem0,fun j hj d hd=>?_,fun j=>?_⟩
 ·obtain ⟨o,m1,h1,h2,h3⟩:=at_ j hj
  rcases h3 with h3 | ⟨h3,_⟩
  ·refine (h3 d hd).2.imp (fun h=>?_) id
   simp [eh,h1,h]
  ·rw [h3];exact .inr rfl
 ·induction j with
  | zero =>
   intro hj d hd k v hv
   obtain ⟨o,m1,h1,h2,h3⟩:=at_ 0 hj
   rw [← h2] at hv
   rcases h3 with h3 | ⟨_,h3⟩
   ·exact j8 (h3 d hd).1 hv
   ·rw [h3] at hv;exact mem0 d hd k v hv
  | succ j ih =>
   intro hj d hd k v hv
   obtain ⟨o,m1,h1,h2,h3⟩:=at_ (j+1) hj
   rw [← h2] at hv
   rcases h3 with h3 | ⟨_,h3⟩
   ·exact j8 (h3 d hd).1 hv
   ·rw [h3] at hv;exact ih (by omega) d hd k v hv
theorem yp {α : Type} {n : Nat} {ops : Array Oper} {mvs lns : List Nat} {K : St → Option α} {res : α} {N : Nat} {ds : List Deferred} {s1 : St} {pr : List (List Nat)} {Ls : Nat → Nat → Option V} {ms : Nat → List (Nat × V)} {xs : Nat → V × Bool} (hT : TT P c) (hC : ∀ f e, lkN c.fns f = some e → CallOK P f e) (hdst : ∀ o ∈ ops.toList, ∀ t, o.dst = some t → t < N) (hok : lY ops mvs n = true) (hpr : zO ops pr = true)
    (hQ:∀ a' w' G' s',RS X G0 w0 G' s' a'.tmps w'→a'.tmps.size=N→a'.defers=ds→K s'=some res→Q .normal a' w')
    (htr:Tr c ops mvs pr Ls ms xs 0 n) (hLn:Ls n=lk s1.env) (hmn:lk (ms n)=lk s1.mem) (hd1:eW s1.env=true) (hd2:eW s1.mem=true) (hcl:Clean ops Ls ms xs n) (hrun:cS c ops mvs lns n (ops.toList.drop n) s1 K=some res) :
    ∀ (fuel:Nat) (listed:Array Bool) (a:Act) (w:World) (G:Gh) (E M:List (Nat × V)),D5 listed≤fuel→Head X G0 w0 ops mvs n N ds Ls ms xs listed a w G E M→wpAny P .any ops Q fuel listed a w:=by
  obtain ⟨hn,hA,hF,hB⟩:=iN hok
  have uniq : ∀ j t, j < n → eh ops j = some t → ∀ j', j' < n → j' ≠ j → eh ops j' ≠ some t := by
    intro j t hj ht j' hj' hne h
    have hlt:j'<ops.size:=by omega
    have:=((hF j' ops[j'] (Array.getElem?_eq_getElem hlt) hj' j hj hne).1 t ht).2
    simp [eh,Array.getElem?_eq_getElem hlt] at h
    exact this h
  have onJ_spec : ∀ {j i : Nat}, GH ops j i = true → ∃ p, ops[j]? = some p ∧ wO p i = true := by
    intro j i h
    unfold GH at h
    split at h
    · rename_i p hp;exact ⟨p,hp,h⟩
    · cases h
  have consDst : ∀ j t, j < n → fF ops mvs xs j = some t → ∀ i, i < n → i ≠ j → eh ops i = some t → (i < j ∧ ∃ o, ops[j]? = some o ∧ wO o i = true) ∨ (j < i ∧ ∃ o, ops[i]? = some o ∧ wO o j = true) := by
    intro j t hj hc i hi hne hd
    obtain ⟨o,ho,hco⟩:=qb hc
    rcases ((hF j o ho hj i hi (Ne.symm hne)).1 t hd).1 (vp hco) with h | h
    · exact .inl ⟨h.1,o,ho,h.2⟩
    · exact .inr ⟨h.1,onJ_spec h.2⟩
  have consLook : ∀ j t, j < n → fF ops mvs xs j = some t → ∀ i (p : Oper), i < n → i ≠ j → ops[i]? = some p → t ∈ p.looksAt ops → i < j ∧ ∃ o, ops[j]? = some o ∧ wO o i = true := by
    intro j t hj hc i p hi hne hp hm
    obtain ⟨o,ho,hco⟩:=qb hc
    have:=(hF j o ho hj i hi (Ne.symm hne)).2 t p hco hp hm
    exact ⟨this.1,o,ho,this.2⟩
  have meet : ∀ p j k, p < j → j < n → k ∈ (qX mvs ops Ls xs p).1 → k ∈ (qX mvs ops Ls xs j).1 → ((qX mvs ops Ls xs p).2 = true ∨ (qX mvs ops Ls xs j).2 = true) → p ∈ lB pr j := by
    intro p j k hpj hj h1 h2 h3
    exact yh (htr.far p j (Nat.zero_le _) hpj hj) h2 h1 h3.symm
  have closedP : ∀ (listed : Array Bool), listed.size = ops.size → (∀ j (o : Oper), ops[j]? = some o → listed.getD j true = true → ∀ i, i < ops.size → wO o i = true → listed.getD i true = true) → ∀ j, j < ops.size → listed.getD j true = true → ∀ i, i ∈ lB pr j → listed.getD i true = true := by
    intro listed hsz hcl j
    induction j using Nat.strongRecOn with
    | _ j ih =>
      intro hj hl i hi
      have ho:=Array.getElem?_eq_getElem hj
      obtain ⟨e,he,hb,h⟩:=qE hpr ho hi
      have hej:=hA j _ ho e he hb
      have hel:listed.getD e.on true=true:=hcl j _ ho hl e.on (by omega) (Array.any_eq_true'.2 ⟨e,he,by simp [hb]⟩)
      rcases h with h | h
      · rw [← h];exact hel
      · exact ih e.on hej (by omega) hel i h
  have full : ∀ (fuel : Nat) (listed : Array Bool) (a : Act) (w : World) (G : Gh) (E M : List (Nat × V)), D5 listed ≤ fuel → Head X G0 w0 ops mvs n N ds Ls ms xs listed a w G E M → (∀ j, j < n → listed.getD j true = true) → wpAny P .any ops Q fuel listed a w := by
    intro fuel listed a w G E M hu hh hall
    have hlk : lk s1.env = lk E := by
      rw [← hLn]
      funext t
      by_cases hc:∃ j,j<n∧fF ops mvs xs j=some t∧∀ i,i<n→eh ops i=some t→i<j
      · obtain ⟨j,hj,hc,hd⟩:=hc
        rw [hh.gone j t hj (hall j hj) hc fun i hi _ h=>hd i hi h]
        refine htr.gone (Nat.zero_le _) (htr.at_cut (Nat.zero_le _) hj hc fun h=>by have:=hd j hj h;omega) n (by omega) (Nat.le_refl _) fun q h1 h2 hd'=>?_
        have:=hd q h2 hd'
        omega
      · by_cases ht:∃ j,j<n∧eh ops j=some t
        · obtain ⟨j,hj,ht⟩:=ht
          have hu2 : ∀ i, i < n → i ≠ j → fF ops mvs xs i = some t → i < j := fun i hi hne h => by
            rcases Nat.lt_or_ge i j with h1 | h1
            · exact h1
            · refine absurd ⟨i,hi,h,fun q hq hqd=>?_⟩ hc
              have:q=j:=Classical.byContradiction fun e=>uniq j t hj ht q hq e hqd
              omega
          rw [htr.keep (Nat.zero_le (j+1)) n (by omega) (Nat.le_refl _) fun q h1 h2=>⟨uniq j t hj ht q h2 (by omega),fun h=>by have:=hu2 q h2 (by omega) h;omega⟩,htr.at_dst (Nat.zero_le _) hj ht]
          exact (hh.new j t hj ht (hall j hj) (fun i hi _ hne=>hu2 i hi hne)).symm
        · have hno:∀ j,j<n→eh ops j ≠ some t∧fF ops mvs xs j ≠ some t:=fun j hj=>⟨fun h=>ht ⟨j,hj,h⟩,fun h=>hc ⟨j,hj,h,fun i hi hd=>absurd ⟨i,hi,hd⟩ ht⟩⟩
          rw [htr.keep (Nat.le_refl 0) n (by omega) (Nat.le_refl _) (fun j _ hj=>hno j hj),hh.old t (fun j hj _=>hno j hj)]
    have hlm : lk s1.mem = lk M := by
      rw [← hmn]
      funext k
      rcases oO (fun j=>wM mvs ops Ls xs j k) n with h | ⟨j,hj,hw,hmax⟩
      · rw [htr.memKeep hC (Nat.le_refl 0) n (by omega) (Nat.le_refl _) (fun j _ hj=>h j hj),hh.mold k (fun j hj _=>h j hj)]
      · rw [htr.memKeep hC (Nat.zero_le (j+1)) n (by omega) (Nat.le_refl _) (fun q h1 h2 hq=>by have:=hmax q h2 hq;omega),hh.mnew j k hj (hall j hj) hw (fun i hi _ hwi=>hmax i hi hwi)]
    have hR1 : RS X G0 w0 G s1 a.tmps w := by
      exact hh.rs.same2 hh.nol hd1 hlk hd2 hlm
    refine wX hT hC hdst hok hQ fuel n listed s1 a w G (Nat.le_refl _) hu hh.lsz (fun j hj=>⟨fun h=>?_,fun h=>hall j h⟩) hrun hR1 hh.size hh.defs
    rcases Nat.lt_or_ge j n with h' | h'
    · exact h'
    · rw [hh.late j h' hj] at h;cases h
  have some1 : ∀ (listed : Array Bool) (a : Act) (w : World) (G : Gh) (E M : List (Nat × V)), Head X G0 w0 ops mvs n N ds Ls ms xs listed a w G E M → ¬ (∀ j, j < n → listed.getD j true = true) → ∃ i, i ∈ Region.ready .any ops listed := by
    intro listed a w G E M hh hnot
    have : ∃ j, j < n ∧ listed.getD j true = false := by
      apply Classical.byContradiction
      intro h
      exact hnot fun j hj => by
        cases hv:listed.getD j true with
        | true=>rfl
        | false=>exact absurd ⟨j,hj,hv⟩ h
    obtain ⟨j,hj⟩:=this
    induction j using Nat.strongRecOn with
    | _ j ih =>
      by_cases hp:∃ j',j'<j∧listed.getD j' true=false
      · obtain ⟨j',hj',hv⟩:=hp
        exact ih j' hj' ⟨by omega,hv⟩
      · have hlt:j<ops.size:=by omega
        refine ⟨j,mem_ready.2 ⟨hj.2,ops[j],Array.getElem?_eq_getElem hlt,fun e he hbd=>?_⟩⟩
        have hej:=hA j ops[j] (Array.getElem?_eq_getElem hlt) e he hbd
        cases hv:listed.getD e.on true with
        | false=>exact absurd ⟨e.on,hej,hv⟩ hp
        | true=>rw [mz (by have:=hh.lsz;omega) false true];exact hv
  intro fuel
  induction fuel with
  | zero =>
    intro listed a w G E M hu hh
    exact full 0 listed a w G E M hu hh fun j _=>wn (by omega) j
  | succ fuel ih =>
    intro listed a w G E M hu hh
    by_cases hall:∀ j,j<n→listed.getD j true=true
    · exact full (fuel+1) listed a w G E M hu hh hall
    · refine ⟨fun hr=>?_,fun i hi=>?_⟩
      · obtain ⟨i,hi⟩:=some1 listed a w G E M hh hall
        rw [hr] at hi;cases hi
      · obtain ⟨h0,o,ho,hafter⟩:=mem_ready.1 hi
        have hlt:=(Array.getElem?_eq_some_iff.1 ho).1
        have lst : ∀ j, j < ops.size → wO o j = true → listed.getD j true = true := fun j hj hon => by
          have:=qQ hon hafter
          rwa [mz (by have:=hh.lsz;omega) false true] at this
        have lstP : ∀ j, j ∈ lB pr i → listed.getD j true = true := fun j hj => by
          obtain ⟨e,he,hb,h⟩:=qE hpr ho hj
          have hei:=hA i o ho e he hb
          have hel:=lst e.on (by omega) (Array.any_eq_true'.2 ⟨e,he,by simp [hb]⟩)
          rcases h with h | h
          · rw [← h];exact hel
          · exact closedP listed hh.lsz hh.closed e.on (by omega) hel j h
        by_cases hin:i<n
        case neg =>
          exact absurd (fun j hj=>lst j (by omega) (hB i o ho (by omega) j (by omega))) hall
        have hdi:eh ops i=o.dst:=by simp [eh,ho]
        obtain ⟨o',m1,e1,e3,em,eL⟩:=htr.step i (Nat.zero_le _) hin
        rw [ho] at e1
        injection e1 with e1;subst e1
        obtain ⟨x,hx⟩:∃ x,x=xs i:=⟨_,rfl⟩
        have hci : fF ops mvs xs i = if x.2 then cB (bn i mvs) o else none := by
          unfold fF
          simp only [ho,hx]
        have claim : ∀ t ∈ o.looksAt ops, ∀ j, j < n → j ≠ i → fF ops mvs xs j = some t → listed.getD j true = false ∧ i < j := by
          intro t ht j hj hne hc
          obtain ⟨h1,p,hp,hon⟩:=consLook j t hj hc i o hin (Ne.symm hne) ho ht
          refine ⟨?_,h1⟩
          cases hv:listed.getD j true with
          | false=>rfl
          | true =>
            have:=hh.closed j p hp hv i hlt hon
            rw [h0] at this;cases this
        have agree : ∀ t ∈ o.looksAt ops, Ls i t = lk E t := by
          intro t ht
          by_cases hj:∃ j,j<n∧j ≠ i∧eh ops j=some t
          · obtain ⟨j,hj,hne,hd⟩:=hj
            rcases ((hF i o ho hin j hj (Ne.symm hne)).1 t hd).1 ht with ⟨hji,hon⟩ | ⟨hji,hon⟩
            · have hl:=lst j (by omega) hon
              rw [htr.keep (Nat.zero_le (j + 1)) i (by omega) (by omega) (fun j' h1 h2 =>
                ⟨uniq j t hj hd j' (by omega) (by omega),fun hc=>by have:=(claim t ht j' (by omega) (by omega) hc).2;omega⟩),htr.at_dst (Nat.zero_le _) hj hd]
              refine (hh.new j t hj hd hl (fun i' hi' hl' _ hc=>?_)).symm
              by_cases e:i'=i
              · subst e;rw [h0] at hl';cases hl'
              · have:=(claim t ht i' hi' e hc).1
                rw [hl'] at this;cases this
            · -- it is written behind this step
              obtain ⟨p,hp,hon⟩:=onJ_spec hon
              have hnl : listed.getD j true = false := by
                cases hv:listed.getD j true with
                | false=>rfl
                | true=>have:=hh.closed j p hp hv i hlt hon;rw [h0] at this;cases this
              rw [htr.keep (Nat.le_refl 0) i (by omega) (by omega) (fun j' _ hj' =>
                ⟨uniq j t hj hd j' (by omega) (by omega),fun hc=>by have:=(claim t ht j' (by omega) (by omega) hc).2;omega⟩),hh.old t (fun j' hj' hl=>?_)]
              have e:j' ≠ i:=fun e=>by subst e;rw [h0] at hl;cases hl
              have e':j' ≠ j:=fun e=>by subst e;rw [hnl] at hl;cases hl
              refine ⟨uniq j t hj hd j' hj' e',fun hc=>?_⟩
              have:=(claim t ht j' hj' e hc).1
              rw [hl] at this;cases this
          · have hno:∀ j,j<n→j ≠ i→eh ops j ≠ some t:=fun j hj2 hne h=>hj ⟨j,hj2,hne,h⟩
            rw [htr.keep (Nat.le_refl 0) i (by omega) (by omega) (fun j _ hj' =>
              ⟨hno j (by omega) (by omega),fun hc=>by have:=(claim t ht j (by omega) (by omega) hc).2;omega⟩),hh.old t (fun j hj' hl=>?_)]
            have e:j ≠ i:=fun e=>by subst e;rw [h0] at hl;cases hl
            refine ⟨hno j hj' e,fun hc=>?_⟩
            have:=(claim t ht j hj' e hc).1
            rw [hl] at this;cases this
        have hG:=fO.congr agree e3
        rw [← hx] at hG
        have hfi : qX mvs ops Ls xs i = if x.2 then jI (bn i mvs) o (lk E) else ([], false) := by
          unfold qX
          rw [ho]
          simp only [← hx]
          rw [A9 (L:=Ls i) (L':=lk E) fun t ht=>agree t (nX ht)]
        have magree : ∀ k ∈ (qX mvs ops Ls xs i).1, lk (ms i) k = lk M k := by
          intro k hk
          have before:∀ j,j<i→wM mvs ops Ls xs j k→listed.getD j true=true:=fun j hj hw=>lstP j (meet j i k hj hin hw.2 hk (.inl hw.1))
          have behind : ∀ j, i < j → j < n → wM mvs ops Ls xs j k → listed.getD j true = false := fun j hj hjn hw => by
            cases hv:listed.getD j true with
            | false=>rfl
            | true =>
              have hjs:j<ops.size:=by omega
              have:=closedP listed hh.lsz hh.closed j hjs hv i (meet i j k hj hjn hk hw.2 (.inr hw.1))
              rw [h0] at this;cases this
          have at_i : ∀ j, j < n → listed.getD j true = true → wM mvs ops Ls xs j k → j < i := fun j hj hl hw => by
            rcases Nat.lt_trichotomy j i with h | h | h
            · exact h
            · subst h;rw [h0] at hl;cases hl
            · rw [behind j h hj hw] at hl;cases hl
          rcases oO (fun j=>wM mvs ops Ls xs j k) i with h | ⟨j,hj,hw,hmax⟩
          · rw [htr.memKeep hC (Nat.le_refl 0) i (by omega) (by omega) (fun j _ hj=>h j hj),hh.mold k (fun j hj hl hw=>h j (at_i j hj hl hw) hw)]
          · rw [htr.memKeep hC (Nat.zero_le (j+1)) i (by omega) (by omega) (fun q h1 h2 hq=>by have:=hmax q h2 hq;omega),hh.mnew j k (by omega) (before j hj hw) hw (fun q hq hl hwq=>hmax q (at_i q hq hl hwq) hwq)]
        have next : ∀ (a' : Act) (w' : World) (G' : Gh) (E' M' : List (Nat × V)), RS X G0 w0 G' ⟨E', M'⟩ a'.tmps w' → a'.tmps.size = N → a'.defers = ds → bP E' = true → lk E' = ey (lk E) (bn i mvs) o x →
            (∀ k,wM mvs ops Ls xs i k→lk M' k=lk (ms (i+1)) k)→(∀ k,¬ wM mvs ops Ls xs i k→lk M' k=lk M k)→wpAny P .any ops Q fuel (listed.setIfInBounds i true) a' w':=by
          intro a' w' G' E' M' g1 g2 g3 g4 g5 g6 g7
          have hset:(listed.setIfInBounds i true).getD i true=true:=by simp [Array.getD,hh.lsz,hlt]
          have hmono : ∀ j, listed.getD j true = true → (listed.setIfInBounds i true).getD j true = true := fun j hj => by
            by_cases e:i=j
            · subst e;exact hset
            · rw [getD_set_ne true e];exact hj
          refine ih _ a' w' G' E' M' (by have:=zQ h0;omega) ⟨g1,g4,g2,g3,by simp [hh.lsz],fun j hj hj'=>?_,fun j p hp hl i' hi' hon=>?_,fun t ht=>?_,fun j t hj hd hl hu=>?_,fun j t hj hl hc hd=>?_,fun k hk=>?_,fun j k hj hl hw hmax=>?_⟩
          · rw [getD_set_ne true (by omega)];exact hh.late j hj hj'
          · by_cases e:i=j
            · subst e
              rw [ho] at hp;injection hp with hp;subst hp
              exact hmono i' (lst i' hi' hon)
            · rw [getD_set_ne true e] at hl
              exact hmono i' (hh.closed j p hp hl i' hi' hon)
          · have hi':=ht i hin hset
            rw [hdi,hci] at hi'
            rw [g5,fK hi'.1 hi'.2]
            exact hh.old t fun j hj hl=>ht j hj (hmono j hl)
          · rw [g5]
            by_cases e:i=j
            · subst e
              rw [hdi] at hd
              rw [← hx]
              exact qi hd
            · have hne:o.dst ≠ some t:=fun h=>uniq j t hj hd i hin e (hdi.trans h)
              rw [getD_set_ne true e] at hl
              have hci' : fF ops mvs xs i ≠ some t := fun hc => by
                have hij:=hu i hin hset e hc
                rcases consDst i t hin hc j hj (Ne.symm e) hd with h | ⟨_,p,hp,hon⟩
                · omega
                · have:=hh.closed j p hp hl i hlt hon
                  rw [h0] at this;cases this
              rw [hci] at hci'
              rw [fK hne hci']
              exact hh.new j t hj hd hl (fun i' hi' hl' hne'=>hu i' hi' (hmono i' hl') hne')
          · rw [g5]
            by_cases e:i=j
            · subst e
              have hd':o.dst ≠ some t:=fun h=>by have:=hd i hin hset (hdi.trans h);omega
              rw [hci] at hc
              exact jH hd' hc
            · rw [getD_set_ne true e] at hl
              have hz:=hh.gone j t hj hl hc fun i' hi' hl' hd'=>hd i' hi' (hmono i' hl') hd'
              have hne : o.dst ≠ some t := fun h => by
                have hij:=hd i hin hset (hdi.trans h)
                rcases consDst j t hj hc i hin e (hdi.trans h) with ⟨_,p,hp,hon⟩ | ⟨h',_⟩
                · have:=hh.closed j p hp hl i hlt hon
                  rw [h0] at this;cases this
                · omega
              by_cases hcut:(if x.2 then cB (bn i mvs) o else none)=some t
              · exact jH hne hcut
              · rw [fK hne hcut];exact hz
          · rw [g7 k (hk i hin hset)]
            exact hh.mold k fun j hj hl=>hk j hj (hmono j hl)
          · by_cases e:i=j
            · subst e;exact g6 k hw
            · rw [getD_set_ne true e] at hl
              rw [g7 k fun hwi => by
                have hij:=hmax i hin hset hwi
                have hjs:j<ops.size:=by omega
                have:=closedP listed hh.lsz hh.closed j hjs hl i (meet i j k (by omega) hj hwi.2 hw.2 (.inl hwi.1))
                rw [h0] at this;cases this]
              exact hh.mnew j k hj hl hw fun q hq hlq hwq=>hmax q hq (hmono q hlq) hwq
        have hmem:o ∈ ops.toList:=by rw [← Array.getElem?_toList] at ho;exact List.mem_of_getElem? ho
        have hdN:∀ t,o.dst=some t→t<a.tmps.size:=fun t ht=>by rw [hh.size];exact hdst o hmem t ht
        have does : x.2 = true → da c (bn i mvs) o (lk E) (ms i) ut = some (x.1, m1) → AZ ops o x.1 m1 = true → o.wp P a w (wpAny P .any ops Q fuel (listed.setIfInBounds i true)) Q := by
          intro hx2 hs hov
          have hv:=wo hov
          have hfi':qX mvs ops Ls xs i=jI (bn i mvs) o (lk E):=by rw [hfi,if_pos hx2]
          obtain ⟨m2,l1,l2,l3⟩:=ou hC hs (m':=M) fun k hk=>magree k (by rw [hfi'];exact hk)
          by_cases hna:∀ T,o.op ≠ .alloc T
          case neg =>
            obtain ⟨T,hop⟩:∃ T,o.op = .alloc T:=Classical.byContradiction fun h=>hna fun T e=>h ⟨T,e⟩
            have l1':=l1
            unfold da at l1'
            rw [hop] at l1'
            simp only [Option.bind_eq_some_iff] at l1'
            obtain ⟨z,hz,l1'⟩:=l1'
            split at l1'
            case h_2=>cases l1'
            rename_i d hd
            obtain ⟨hb,l1'⟩:=ap l1'
            injection l1' with l1'
            injection l1' with hv1 hm2
            simp only [Bool.and_eq_true,Option.isNone_iff_eq_none] at hb
            have hda:d ∈ jW ops.toList:=vu hmem hop hd
            have nref : cz d (qY E) = true := qK _ fun k v hkv => by
              have hkv:=kv _ k v (jn E) hkv
              rw [kq] at hkv
              by_cases hj:∃ j,j<n∧listed.getD j true=true∧eh ops j=some k
              · obtain ⟨j,hj,hl,hdj⟩:=hj
                have hji:j ≠ i:=fun e=>by subst e;rw [h0] at hl;cases hl
                by_cases hc:∃ i',i'<n∧listed.getD i' true=true∧i' ≠ j∧fF ops mvs xs i'=some k∧¬ i'<j
                · obtain ⟨i',q1,q2,q3,q4,q5⟩:=hc
                  have := hh.gone i' k q1 q2 q4 fun q hq hql hqd => by
                    have:q=j:=Classical.byContradiction fun e=>uniq j k hj hdj q hq e hqd
                    omega
                  rw [hkv] at this;cases this
                · have e1:=hh.new j k hj hdj hl fun i' hi' hl' hne hc'=>Classical.byContradiction fun hlt=>hc ⟨i',hi',hl',hne,hc',hlt⟩
                  rw [hkv] at e1;injection e1 with e1
                  rw [e1]
                  rcases hcl.res j hj d hda with h | h
                  · exact absurd h (uniq i d hin (hdi.trans hd) j hj hji)
                  · exact h
              · by_cases hc:∃ j,j<n∧listed.getD j true=true∧fF ops mvs xs j=some k
                · obtain ⟨j,q1,q2,q3⟩:=hc
                  have:=hh.gone j k q1 q2 q3 fun q hq hql hqd=>absurd ⟨q,hq,hql,hqd⟩ hj
                  rw [hkv] at this;cases this
                · have e1:=hh.old k fun j q1 q2=>⟨fun h=>hj ⟨j,q1,q2,h⟩,fun h=>hc ⟨j,q1,q2,h⟩⟩
                  rw [hkv] at e1
                  exact hcl.env0 d hda k v e1.symm
            have mref : cz d (qY M) = true := qK _ fun k v hkv => by
              have hkv:=kv _ k v (jn M) hkv
              rw [kq] at hkv
              rcases oO (fun j=>listed.getD j true=true∧wM mvs ops Ls xs j k) n with h | ⟨j,hj,⟨hl,hw⟩,hmax⟩
              · have e1:=hh.mold k fun j hj hl hw=>h j hj ⟨hl,hw⟩
                rw [hkv] at e1
                exact hcl.mem0 d hda k v e1.symm
              · have e1:=hh.mnew j k hj hl hw fun q hq hql hqw=>hmax q hq ⟨hql,hqw⟩
                rw [hkv] at e1
                exact hcl.mem j hj d hda k v e1.symm
            have hR2:RS X G0 w0 G ⟨qY E,qY M⟩ a.tmps w:=hh.rs.same2 hh.nol (jn E) (by funext t;exact kq E t) (jn M) (by funext t;exact kq M t)
            have hnlE : bP (qY E) = true := by
              have : ∀ E : List (Nat × V), bP E = true → bP (qY E) = true := by
                intro E
                induction E with
                | nil=>intro _;rfl
                | cons q E ih =>
                  obtain ⟨k,v⟩:=q
                  intro h
                  have h':=h
                  simp only [bP,Bool.and_eq_true] at h'
                  show bP ((k,v)::rm (qY E) k)=true
                  simp only [bP,Bool.and_eq_true]
                  exact ⟨h'.1,ic _ k (ih h'.2)⟩
              exact this E hh.nol
            have hstep : fc c false false o ⟨qY E, qY M⟩ some = some ({ (⟨qY E, qY M⟩ : St) with mem := (d, z) :: qY M }.set d (.ref d [])) := by
              unfold fc
              rw [hop]
              simp only [hd,hz,Option.bind_some]
              have : (Nat.blt d 1000000 && (lk (qY M) d).isNone && cz d (qY E) && cz d (qY M)) = true := by
                simp only [Bool.and_eq_true,Option.isNone_iff_eq_none]
                rw [kq]
                exact ⟨⟨⟨hb.1,hb.2⟩,nref⟩,mref⟩
              rw [this];rfl
            refine Oper.wp_mono (fun a' w' hN=>?_) (cJ (Q:=Q) hT hC hR2 hstep hdN)
            obtain ⟨G',s',g1,g2,g3,g4⟩:=hN
            injection g4 with g4;subst g4
            have hfd:qX mvs ops Ls xs i=([d],true):=by rw [hfi'];unfold jI;rw [hop];simp only [hd]
            have hfo:jI (bn i mvs) o (lk E)=([d],true):=by rw [← hfi'];exact hfd
            refine next a' w' G' ((d,.ref d [])::B1 (qY E) d) ((d,z)::qY M) g1 (g2.trans hh.size) (g3.trans hh.defs) (gw hnlE rfl) ?_ (fun k hk=>?_) (fun k hk=>?_)
            · have hco:cB (bn i mvs) o=none:=by unfold cB;rw [hop]
              unfold ey
              rw [hx2,hco,hd,← hv1]
              simp only [if_true]
              rw [nz hnlE,show lk (qY E)=lk E from funext (kq E)];rfl
            · have hkd : k = d := by
                have:=hk.2
                rw [hfd] at this
                simpa using this
              subst hkd
              rw [← em,← l2 k (by rw [hfo];simp),← hm2,bR,bR,if_pos rfl,if_pos rfl]
            · have hkd:d ≠ k:=fun e=>hk (by unfold wM;rw [hfd];exact ⟨rfl,by simp [e]⟩)
              rw [bR,if_neg hkd,kq]
          refine Oper.wp_mono (fun a' w' hN=>?_) (uF (Q:=Q) (s:=⟨E,M⟩) hna hT hC hh.rs l1 hdN)
          obtain ⟨G',s',g1,g2,g3,g4⟩:=hN
          injection g4 with g4;subst g4
          have hn2:=ph (cB (bn i mvs) o) hh.nol
          have hlk : lk (({ env := sA E (cB (bn i mvs) o), mem := m2 } : St).dst o.dst x.1).env = ey (lk E) (bn i mvs) o x ∧ bP (({ env := sA E (cB (bn i mvs) o), mem := m2 } : St).dst o.dst x.1).env = true ∧ (({ env := sA E (cB (bn i mvs) o), mem := m2 } : St).dst o.dst x.1).mem = m2 := by
            unfold ey
            rw [hx2]
            simp only [if_true]
            cases hd:o.dst with
            | none=>exact ⟨by rw [kP];exact nG E _,hn2,rfl⟩
            | some d=>exact ⟨by rw [← nG];exact nz hn2,gw hn2 hv,rfl⟩
          have e : ∀ S : St, S.mem = m2 → RS X G0 w0 G' S a'.tmps w' → RS X G0 w0 G' ⟨S.env, m2⟩ a'.tmps w' := by
            rintro ⟨_,_⟩ rfl h;exact h
          exact next a' w' G' _ m2 (e _ hlk.2.2 g1) (g2.trans hh.size) (g3.trans hh.defs) hlk.2.1 hlk.1 (fun k hk => by
            rw [l2 k (by rw [← hfi'];exact hk.2),em]) (fun k hk=>(l3 k (by rw [← hfi'];exact hk)).2)
        have skip : x = (.unit, false) → wpAny P .any ops Q fuel (listed.setIfInBounds i true) (a.put o.dst undef) w := by
          intro hx2
          have hsk:=hh.rs.skip (d:=o.dst)
          have e:ey (lk E) (bn i mvs) o x=oB (lk E) o.dst (some .unit):=by rw [hx2];rfl
          have hnw : ∀ k, ¬ wM mvs ops Ls xs i k := fun k hw => by
            have:=hw.1
            rw [hfi,hx2] at this;cases this
          cases hd:o.dst with
          | none =>
            rw [hd] at hsk
            exact next _ w G E M hsk hh.size hh.defs hh.nol (by rw [e,hd,kP]) (fun k hk=>absurd hk (hnw k)) (fun _ _=>rfl)
          | some d =>
            rw [hd] at hsk
            exact next _ w G _ M hsk ((fR _ _ _).trans hh.size) ((dU _ _ _).trans hh.defs) (gw hh.nol rfl) (by rw [e,hd];exact nz hh.nol) (fun k hk=>absurd hk (hnw k)) (fun _ _=>rfl)
        unfold wpOp
        simp only [ho]
        unfold fO at hG
        cases hgd:o.guard with
        | none =>
          simp only [hgd] at hG
          obtain ⟨g1,g2,g3⟩:=hG
          rw [if_pos (by simp [Region.wanted,hgd])]
          exact .inl (does g1 g2 g3)
        | some jw =>
          obtain ⟨j,want⟩:=jw
          simp only [hgd] at hG
          obtain ⟨g,gv,g1,g2,g3⟩:=hG
          rcases g3 with ⟨rfl,f1,f2,f3⟩ | ⟨hgv,g3⟩
          · have hy:=jM hh.rs g1 g2
            rw [if_pos (by simp [Region.wanted,hgd,hy])]
            exact .inl (does f1 f2 f3)
          · rcases hgv with rfl | rfl
            · have hy:=jM hh.rs g1 g2
              rw [if_neg (by simp only [Region.wanted,hgd,hy];cases want <;> simp)]
              exact skip g3.1
            · have hy:=jB hh.rs g1 g2
              rw [if_neg (by simp [Region.wanted,hgd,hy])]
              exact skip g3.1
end Go.Proofs.YtfhcammihohmjaaGreatDoor.Pal
end
