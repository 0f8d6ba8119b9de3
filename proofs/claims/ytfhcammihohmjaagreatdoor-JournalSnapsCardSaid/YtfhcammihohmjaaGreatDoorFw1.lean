/- The framework: an abstract run of the code over typed data, and that the machine does as it says. Part 1. -/
import GoSem.Step
import Derived.Orders
import Derived.Below
import Derived.Laws.Cells
import Derived.Laws.IdiomCopy
import Derived.Laws.StructEq
import Derived.ChangeKeysEq
import Derived.Calls
import Derived.MapKept
import Derived.WideKeyRuns
import Derived.Laws.AppendOwn
import Derived.Laws.Tables
import Derived.Laws.NewFold
set_option linter.unusedVariables false
set_option linter.unusedSimpArgs false
set_option linter.unusedSectionVars false
noncomputable section
/- The abstract run: Go code lR typed data. Plain definitions; nothing here speaks of a program's memory. -/
namespace Go.Proofs.YtfhcammihohmjaaGreatDoor.Pal


inductive Ty where
 | int (k:IntKind) | bool | str | slc (e:Ty) | arr (n:Nat) (e:Ty) | pair (a b:Ty) | map (k e:Ty) | box (e:Ty)
 deriving DecidableEq

@[reducible] def Ty.D:Ty→Type
 | .int _=>Int
 | .bool=>Bool
 | .str=>List UInt8
 | .slc e=>List e.D
 | .arr _ e=>List e.D
 | .pair a b=>a.D × b.D
 | .map k e=>List (k.D × e.D)
 | .box e=>Option e.D

def Ty.cells:Ty→Nat
 | .int _ | .bool | .str | .slc _ | .box _=>1
 | .arr n e=>n * e.cells
 | .pair a b=>a.cells+b.cells
 | .map _ _=>0

def Ty.agg:Ty→Bool
 | .arr .. | .pair ..=>true
 | _=>false

def flat:Ty→Bool
 | .slc _=>false
 | .map _ _=>false
 | .box _=>false
 | .arr _ e=>flat e
 | .pair a b=>flat a && flat b
 | _=>true
def aV {α:Type} (n:Nat) (x:α):List α:=List.replicate n x
def Ty.zero:(τ:Ty)→τ.D
 | .int _=>(0:Int)
 | .bool=>false
 | .str=>[]
 | .slc _=>[]
 | .arr n e=>aV n e.zero
 | .pair a b=>(a.zero,b.zero)
 | .map _ _=>[]
 | .box _=>none
def eR:Ty→Bool
 | .box _=>true
 | .pair a b=>eR a || eR b
 | _=>false
def Cp {α:Type} (o:Option α):Bool:=o.isSome
def D4 (e:Ty) (o:Option e.D):e.D:=o.getD e.zero

def rd (e:Ty) (xs:List e.D) (i:Nat):e.D:=xs.getD i e.zero
def aH (k:IntKind) (a b:Int):Int:=k.wrap (a+b)
def bw (k:IntKind) (a b:Int):Int:=k.wrap (a - b)
def gB (k:IntKind) (a b:Int):Int:=k.wrap (a * b)
def pG (k:IntKind) (a b:Int):Int:=k.wrap (a.tdiv b)
def As (a b:Int):Int:=a.tmod b
def jL (k:IntKind) (x y:Int):Int:=k.wrap (BitVec.ofInt k.bits x &&& BitVec.ofInt k.bits y).toNat
def FL (k:IntKind) (x y:Int):Int:=k.wrap (BitVec.ofInt k.bits x ||| BitVec.ofInt k.bits y).toNat
def fP (k:IntKind) (x y:Int):Int:=k.wrap (BitVec.ofInt k.bits x ^^^ BitVec.ofInt k.bits y).toNat
def xp (k:IntKind) (x y:Int):Int:=k.wrap (x * 2 ^ (min y.toNat k.bits))
def gZ (k:IntKind) (x y:Int):Int:=x.fdiv (2 ^ (min y.toNat k.bits))
def bj (k:IntKind) (x:Int):Int:=k.wrap x
def az (a b:Int):Bool:=a == b
def aq (a b:Int):Bool:=decide (a<b)
def bM (a b:Int):Bool:=decide (a≤b)
def jk (a b:Int):Int:=if b > a then b else a
def nI (a b:Int):Int:=if b<a then b else a
def af {α:Type} (xs:List α):Int:=(xs.length:Int)
def ai (a:Bool):Bool:=!a
def Fx (a b:Bool):Bool:=a == b
def H0 (a b:Bool):Bool:=a || b
def app {α:Type} (xs ys:List α):List α:=xs++ys
def ja {α:Type} (xs:List α) (i:Nat) (x:α):List α:=xs.set i x
def aj (a:Int):Nat:=a.toNat
def gh (i:Int) (n:Nat):Bool:=decide (0≤i) && decide (i<(n:Int))
def bO {α:Type} (i:Int) (xs:List α):Bool:=decide (0≤i) && decide (i<(xs.length:Int))
def Df (a b:Int):Int:=a - b
def Ah (a b:Int):Int:=a+b
def FW (i n:Int):Bool:=decide (0≤i) && decide (i<n)
def ES (l h:Int) (m:Nat):Bool:=match l,h with
 | .ofNat a,.ofNat b=>Nat.beq a 0 && Nat.beq b m
 | _,_=>false
def eE (lo hi n:Int):Bool:=decide (0≤lo) && decide (lo≤hi) && decide (hi≤n)
def ba {α:Type} (xs:List α) (lo hi:Int):List α:=(xs.take hi.toNat).drop lo.toNat
def bd (s:List UInt8) (i:Int):Int:=((s.getD i.toNat 0).toNat:Int)
def bm {α β:Type} (xs:List α) (ys:List β):Bool:=decide (xs.length+ys.length≤4294967296)
def bz (xs ys:List UInt8):Bool:=decide (xs.length+ys.length≤4611686018427387904)
def qd:List UInt8→List UInt8→Bool
 | _,[]=>false
 | [],_::_=>true
 | a::x,b::y=>a<b || (a == b && qd x y)
def seq (x y:List UInt8):Bool:=x == y
def Ty.hasEq0:Ty→Bool
 | .slc _=>false
 | .map _ _=>false
 | .box _=>false
 | .arr _ e=>e.hasEq0
 | .pair a b=>a.hasEq0 && b.hasEq0
 | _=>true
def Ty.hasEq:Ty→Bool
 | .arr _ e=>e.hasEq0
 | .pair a b=>a.hasEq0 && b.hasEq0
 | .bool=>true
 | _=>false
def jN {α:Type} (f:α→α→Bool) (xs ys:List α):Bool:=xs.length == ys.length && (xs.zip ys).all fun p=>f p.1 p.2
def eQ:(τ:Ty)→τ.D→τ.D→Bool
 | .int _=>az
 | .bool=>Fx
 | .str=>seq
 | .slc _=>fun _ _=>false
 | .map _ _=>fun _ _=>false
 | .box _=>fun _ _=>false
 | .arr _ e=>jN (eQ e)
 | .pair a b=>fun x y=>eQ a x.1 y.1 && eQ b x.2 y.2

def tU (k e:Ty) (es:List (k.D × e.D)) (x:k.D):e.D:=((es.find? fun p=>eQ k x p.1).map (·.2)).getD e.zero
def rk (k:Ty) {α:Type} (es:List (k.D × α)) (x:k.D):Bool:=(es.find? fun p=>eQ k x p.1).isSome
def pQ (k e:Ty):List (k.D × e.D)→k.D→e.D→List (k.D × e.D)
 | [],x,y=>[(x,y)]
 | p::r,x,y=>bif eQ k x p.1 then (x,y)::r else p::pQ k e r x y
def br {α:Type} (b:Bool) (x y:Option α):Option α:=match b with
 | true=>x
 | false=>y
def bnd {α β:Type} (x:Option α) (f:α→Option β):Option β:=match x with
 | some a=>f a
 | none=>none

inductive Step where
 | l
 | r (o:Nat)
 | ix (n sz i:Nat)
 | el (sz:Nat) (i:Int)

inductive V where
 | dat (τ:Ty) (x:τ.D)
 | own (e:Ty) (xs:List e.D)
 | pr (a b:V)
 | ref (k:Nat) (p:List Step)
 | nilp
 | ip (τ:Ty) (x:τ.D)
 | fn (f:Nat) (caps:List (Nat × List Step))
 | bnd (f:Nat) (caps:List (Nat × List Step))
 | tup2 (a b:V)
 | tup3 (a b c:V)
 | lent (t:Nat)
 | unit
 | raw (e:Ty) (xs:List e.D)
 | any
 | view (k:Nat) (p:List Step) (n:Nat) (e:Ty) (l h:Int)
 | mref (k:Nat)
 | vref (k:Nat) (e:Ty) (n:Int)
 | vec (k:Nat) (e:Ty) (xs:List e.D)
 | gone
 | box (τ:Ty) (o:Option τ.D)

def gP:V→V→V
 | .dat a x,.dat b y=>.dat (.pair a b) (x,y)
 | v,u=>.pr v u

def V.cells:V→Nat
 | .dat τ _=>τ.cells
 | .pr a b=>a.cells+b.cells
 | .vec _ _ _=>0
 | .gone=>0
 | _=>1
def V.agg:V→Bool
 | .dat τ _=>τ.agg
 | .pr _ _=>true
 | _=>false

def cZ:V→Bool
 | .tup2 .. | .tup3 .. | .unit | .raw .. | .any | .vec .. | .gone=>true
 | .dat (.map _ _) _=>true
 | .pr a b=>cZ a || cZ b
 | _=>false
def V.copy:V→V
 | .own e xs=>.dat (.slc e) xs
 | .pr a b=>gP a.copy b.copy
 | .tup2 a b=>.tup2 a.copy b.copy
 | .tup3 a b c=>.tup3 a.copy b.copy c.copy
 | .raw _ _=>.any
 | .vec _ _ _=>.gone
 | .box _ o=>match o with
  | none=>.nilp
  | some _=>.any
 | v=>v
def V.copyO:V→Option V
 | .lent _=>none
 | v=>some v.copy

def V.as (τ:Ty):V→Option τ.D
 | .dat τ' x=>if h:τ'=τ then some (h ▸ x) else none
 | .own e xs=>if h:Ty.slc e=τ then some (h ▸ (show (Ty.slc e).D from xs)) else none
 | .pr a b=>match τ with
  | .pair ta tb=>(V.as ta a).bind fun x=>(V.as tb b).bind fun y=>some (x,y)
  | _=>none
 | _=>none

def V.asB (τ:Ty):V→Option τ.D
 | .dat τ' x=>if h:τ'=τ then some (h ▸ x) else none
 | .own e xs=>if h:Ty.slc e=τ then some (h ▸ (show (Ty.slc e).D from xs)) else none
 | .pr a b=>match τ with
  | .pair ta tb=>(V.asB ta a).bind fun x=>(V.asB tb b).bind fun y=>some (x,y)
  | _=>none
 | .box e o=>if h:Ty.box e=τ then some (h ▸ (show (Ty.box e).D from o)) else none
 | _=>none
def gd:(τ:Ty)→τ.D→V
 | .pair a b,x=>bif eR a || eR b then .pr (gd a x.1) (gd b x.2) else .dat (.pair a b) x
 | .box e,o=>.box e o
 | τ,x=>.dat τ x
def tD:V→Option ((τ:Ty) × τ.D)
 | .dat (.map _ _) _=>none
 | .dat τ x=>some ⟨τ,x⟩
 | .own e xs=>some ⟨.slc e,xs⟩
 | .pr a b=>match tD a,tD b with
  | some x,some y=>some ⟨.pair x.1 y.1,(x.2,y.2)⟩
  | _,_=>none
 | .box e o=>some ⟨.box e,o⟩
 | _=>none

def jO:Ty→V
 | .slc e=>.own e []
 | .box e=>.box e none
 | .pair a b=>gP (jO a) (jO b)
 | τ=>.dat τ τ.zero

def V.get:V→List Step→Option V
 | v,[]=>some v
 | .pr a _,.l::p=>a.get p
 | .pr a b,.r o::p=>bif Nat.beq a.cells o then b.get p else none
 | .dat (.pair a _) x,.l::p=>(V.dat a x.1).get p
 | .dat (.pair a b) x,.r o::p=>bif Nat.beq a.cells o then (V.dat b x.2).get p else none
 | .dat (.arr m e) xs,.ix n sz i::p=>bif Nat.beq m n && Nat.beq e.cells sz then (V.dat e (rd e xs i)).get p else none
 | _,_=>none
termination_by structural _ p=>p

def d7:V→Bool
 | .dat (.map _ _) _=>true
 | .vec .. | .gone=>true
 | _=>false
def wH:V→V→V
 | .box τ _,.nilp=>.box τ none
 | _,u=>u
def V.put : List Step → V → V → Option V
  | [],v,u=>bif Nat.beq v.cells u.cells && (v.agg == u.agg) && !(d7 v) && !(d7 u) then some (wH v u) else none
  | .l::p,.pr a b,u=>(V.put p a u).map fun a'=>gP a' b
  | .r o::p,.pr a b,u=>bif Nat.beq a.cells o then (V.put p b u).map fun b'=>gP a b' else none
  | .l::p,.dat (.pair a b) x,u=>(V.put p (.dat a x.1) u).map fun a'=>gP a' (.dat b x.2)
  | .r o::p,.dat (.pair a b) x,u=>bif Nat.beq a.cells o then (V.put p (.dat b x.2) u).map fun b'=>gP (.dat a x.1) b' else none
  | .ix n sz i :: p, .dat (.arr m e) xs, u => bif Nat.beq m n && Nat.beq e.cells sz then
      (V.put p (.dat e (rd e xs i)) u).bind fun v'=>(V.as e v').bind fun y=>some (.dat (.arr m e) (ja xs i y)) else none
  | _,_,_=>none

def CO {α:Type} (k:Nat) (v:V) (p:List Step) (K:V→Option α):Option α:=match v with
 | .vec k' e xs=>match p with
  | .el sz i::q=>bif Nat.beq k' k && Nat.beq e.cells sz then br (bO i xs) (((V.dat e (rd e xs (aj i))).get q).bind K) none else none
  | _=>none
 | v=>(v.get p).bind K
def vf {α:Type} (k:Nat) (v:V) (p:List Step) (u:V) (K:V→Option α):Option α:=match v with
 | .vec k' e xs=>match p with
  | .el sz i::q=>bif Nat.beq k' k && Nat.beq e.cells sz then br (bO i xs) ((V.put q (.dat e (rd e xs (aj i))) u).bind fun v'=>(V.as e v').bind fun y=>K (.vec k' e (ja xs (aj i) y))) none else none
  | _=>none
 | v=>(V.put p v u).bind K

structure St where
 env:List (Nat × V)
 mem:List (Nat × V)

def lk:List (Nat × V)→Nat→Option V
 | [],_=>none
 | (k,v)::r,t=>bif Nat.beq k t then some v else lk r t
def rm:List (Nat × V)→Nat→List (Nat × V)
 | [],_=>[]
 | (k,v)::r,t=>bif Nat.beq k t then rm r t else (k,v)::rm r t
def B1:List (Nat × V)→Nat→List (Nat × V)
 | [],_=>[]
 | (k,v)::r,t=>bif Nat.beq k t || (match v with | .lent u=>Nat.beq u t | _=>false) then B1 r t else (k,v)::B1 r t
abbrev St.set (s:St) (t:Nat) (v:V):St:={ s with env:=(t,v)::B1 s.env t }
abbrev St.dst (s:St):Option Nat→V→St
 | some t,v=>s.set t v
 | none,_=>s
def eX (m:List (Nat × V)) (k:Nat) (u:V):List (Nat × V):=(k,u)::rm m k
def pick (m : List (Nat × V)) : List Nat → List (Nat × V)
  | []=>[]
  | t :: r => bif Nat.ble 10000000 t then (match lk m (t - 10000000) with
      | some v=>(t - 10000000,v.copy)::pick (rm m (t - 10000000)) r
      | none=>pick m r)
    else match lk m t with
    | some v=>(t,v)::pick (rm m t) r
    | none=>pick m r
def V.refs:V→List Nat
 | .pr a b=>a.refs++b.refs
 | .ref k _=>[k]
 | .fn _ caps=>caps.map (·.1)
 | .bnd _ caps=>caps.map (·.1)
 | .tup2 a b=>a.refs++b.refs
 | .tup3 a b c=>a.refs++b.refs++c.refs
 | .view k _ _ _ _ _=>[k]
 | .mref k=>[k]
 | .vref k _ _=>[k]
 | .vec k _ _=>[k]
 | _=>[]
def bn (t:Nat):List Nat→Bool
 | []=>false
 | k::r=>Nat.beq k t || bn t r
def cz (k:Nat):List (Nat × V)→Bool
 | []=>true
 | (_,v)::r=>!(bn k v.refs) && cz k r

structure Entry where
 run:(α:Type)→List V→List V→(V→List V→Option α)→Option α

structure TInfo where
 ty:Ty
 nf:Nat

structure RInfo where
 live:List Nat
 mem:List Nat
 moves:List Nat:=[]
 lends:List Nat:=[]
 quiet:Nat:=0
 head:List Nat:=[]
 headM:List Nat:=[]
 frz:List Nat:=[]
 pre:List (List Nat):=[]
 ice:List Nat:=[]
 opn:List (Nat × (List Step × Nat)):=[]
 shut:List Nat:=[]

def lkN.{u} {β:Type u}:List (Nat × β)→Nat→Option β
 | [],_=>none
 | (k,v)::r,t=>bif Nat.beq k t then some v else lkN r t

structure Cx where
 types:List (Nat × TInfo)
 ptrs:List Nat
 fns:List (Nat × Entry)
 regs:List (Nat × RInfo)
 fuel:Nat
 maps:List (Nat × (Ty × Ty)):=[]

def ff:Ty→Nat→Nat→List Step
 | .pair a b,n+2,i=>match i with
  | 0=>[.l]
  | i+1=>.r a.cells::ff b (n+1) i
 | _,_,_=>[]

def cV (e:Option Ty):Value→Option V
 | .int k n=>some (.dat (.int k) n)
 | .bool b=>some (.dat .bool b)
 | .string s=>some (.dat .str s.data.toList)
 | .pointer none=>some .nilp
 | .map none=>some .any
 | .slice none 0 0=>match e with
  | some (.slc t)=>some (.own t [])
  | _=>none
 | _=>none

def nl (e:Option Ty) (s:St):Operand→Option V
 | .tmp t=>(lk s.env t).bind V.copyO
 | .const v=>cV e v
 | .func f=>some (.fn f [])
 | .global _=>none

def wP (mv:Bool) (e:Option Ty) (s:St):Operand→Option (V × St)
 | .tmp t=>bif mv then (lk s.env t).bind fun v=>v.copyO.map fun _=>(v,{ s with env:=rm s.env t }) else ((lk s.env t).bind V.copyO).map fun v=>(v,s)
 | .const v=>(cV e v).map fun v=>(v,s)
 | .func f=>some (.fn f [],s)
 | .global _=>none

def Cx.ty (c:Cx) (t:Nat):Option Ty:=(lkN c.types t).map (·.ty)
def Cx.lay (c:Cx) (t:Nat):Option (Nat × Bool):=match lkN c.types t with
 | some ti=>some (ti.ty.cells,ti.ty.agg)
 | none=>bif bn t c.ptrs then some (1,false) else none
def Cx.zero (c:Cx) (t:Nat):Option V:=match lkN c.types t with
 | some ti=>some (jO ti.ty)
 | none=>bif bn t c.ptrs then some .nilp else none

def oA {α:Type} (pt:Bool) (ty:Option Ty) (op:BinOp) (x y:V) (K:V→Option α):Option α :=
 match x,y with
 | .dat (.int k) a,.dat (.int _) b=>match op with
  | .add=>K (.dat (.int k) (aH k a b))
  | .sub=>K (.dat (.int k) (bw k a b))
  | .mul=>K (.dat (.int k) (gB k a b))
  | .quo=>br (az b 0) none <| K (.dat (.int k) (pG k a b))
  | .rem=>br (az b 0) none <| K (.dat (.int k) (As a b))
  | .and=>K (.dat (.int k) (jL k a b))
  | .or=>K (.dat (.int k) (FL k a b))
  | .xor=>K (.dat (.int k) (fP k a b))
  | .shl=>br (aq b 0) none <| K (.dat (.int k) (xp k a b))
  | .shr=>br (aq b 0) none <| K (.dat (.int k) (gZ k a b))
  | .andNot=>none
  | .eql=>K (.dat .bool (az a b))
  | .neq=>K (.dat .bool (ai (az a b)))
  | .lss=>K (.dat .bool (aq a b))
  | .leq=>K (.dat .bool (bM a b))
  | .gtr=>K (.dat .bool (aq b a))
  | .geq=>K (.dat .bool (bM b a))
 | .dat .str a,.dat .str b=>match op with
  | .add=>br (bz a b) (K (.dat .str (app a b))) none
  | .eql=>K (.dat .bool (seq a b))
  | .neq=>K (.dat .bool (ai (seq a b)))
  | .lss=>K (.dat .bool (qd a b))
  | .leq=>K (.dat .bool (H0 (qd a b) (seq a b)))
  | .gtr=>K (.dat .bool (ai (H0 (qd a b) (seq a b))))
  | .geq=>K (.dat .bool (ai (qd a b)))
  | _=>none
 | .nilp,.nilp=>bif pt then match op with
  | .eql=>K (.dat .bool true)
  | .neq=>K (.dat .bool false)
  | _=>none
  else none
 | .ref ..,.nilp | .nilp,.ref ..=>bif pt then match op with
  | .eql=>K (.dat .bool false)
  | .neq=>K (.dat .bool true)
  | _=>none
  else none
 | x,y=>match ty with
  | some τ=>bif τ.hasEq then (V.as τ x).bind fun a=>(V.as τ y).bind fun b=>match op with
   | .eql=>K (.dat .bool (eQ τ a b))
   | .neq=>K (.dat .bool (ai (eQ τ a b)))
   | _=>none
   else none
  | none=>none

def kn:IntKind→Nat
 | .i8=>0 | .i16=>1 | .i32=>2 | .i64=>3 | .u8=>4 | .u16=>5 | .u32=>6 | .u64=>7
def CN (op:BinOp):V→V→Bool
 | .dat (.int k) _,.dat (.int k') _=>match op with
  | .shl | .shr=>true
  | _=>Nat.beq (kn k) (kn k')
 | _,_=>true

def na:V→Option Int
 | .dat (.slc _) xs=>some (af xs)
 | .dat .str s=>some (af s)
 | .dat (.arr n _) _=>some (n:Int)
 | .view _ _ _ _ l h=>some (Df h l)
 | .vref _ _ n=>some n
 | _=>none
def EI (τ:Ty) (v:V):Option Int:=match τ with
 | .arr n _=>some (n:Int)
 | _=>na v

def CP:Ty→V→Bool
 | .slc _,.dat (.slc _) _=>true
 | .slc _,.view _ _ _ _ _ _=>true
 | .slc _,.vref _ _ _=>true
 | .str,.dat .str _=>true
 | .arr n _,.dat (.arr m _) _=>Nat.beq n m
 | _,_=>false
def mV (ti:TInfo) (f:Nat):Bool:=(match ti.ty with | .pair ..=>true | _=>false) && Nat.blt f ti.nf
def fI:Ty→Nat→Nat→Ty
 | .pair a b,n+2,i=>match i with
  | 0=>a
  | i+1=>fI b (n+1) i
 | τ,_,_=>τ
def lE (τ:Ty) (nf:Nat):V→List (Nat × V)→Option V
 | v,[]=>some v
 | v,(i,u)::r=>match τ with
  | .arr n e=>bif Nat.blt i n && Nat.beq u.cells e.cells && !(cZ u) then (V.put [.ix n e.cells i] v u).bind fun v'=>lE τ nf v' r else none
  | .pair _ _=>bif Nat.blt i nf && Nat.beq u.cells (fI τ nf i).cells && !(cZ u) then (V.put (ff τ nf i) v u).bind fun v'=>lE τ nf v' r else none
  | _=>none
def rc (ρ:Option Ty→Operand→Option V):List (Nat × Operand)→Option (List (Nat × V))
 | []=>some []
 | (i,x)::r=>(ρ none x).bind fun v=>(rc ρ r).bind fun vs=>some ((i,v)::vs)
def uf (ρ:Option Ty→Operand→Option V):List Operand→Option (List V)
 | []=>some []
 | x::r=>(ρ none x).bind fun v=>(uf ρ r).bind fun vs=>some (v::vs)
def mT (ρ:Option Ty→Operand→Option V):List (Option Ty)→List Operand→Option (List V)
 | _,[]=>some []
 | tys,x::r=>(ρ (tys.headD none) x).bind fun v=>(mT ρ tys.tail r).bind fun vs=>some (v::vs)
def xx (mv:Bool) (tys:List (Option Ty)) (s:St):List Operand→Option (List V × St)
 | []=>some ([],s)
 | x::r=>(wP mv (tys.headD none) s x).bind fun vs=>(mT (fun e x=>nl e vs.2 x) tys.tail r).bind fun us=>some (vs.1::us,vs.2)
def lC (e:Ty):Nat→List (Nat × V)→Option (List e.D)
 | _,[]=>some []
 | k,(i,v)::r=>bif Nat.beq i k then (V.as e v).bind fun x=>(lC e (k+1) r).bind fun xs=>some (x::xs) else none

def pd (n:Nat):V→Option (V × List (Nat × List Step))
 | .ref k p=>some (.ref (1000000+n) p,[(k,[])])
 | .fn f caps=>some (.fn f ((List.range caps.length).map fun i=>(1000000+n+i,[])),caps)
 | v=>bif v.refs.isEmpty then some (v,[]) else none
def mQ:Nat→List V→Option (List V × List (Nat × List Step))
 | _,[]=>some ([],[])
 | n,v::r=>(pd n v).bind fun x=>(mQ (n+x.2.length) r).bind fun y=>some (x.1::y.1,x.2++y.2)
def dm:List (Nat × List Step)→Bool
 | []=>true
 | (k,_)::r=>!(bn k (r.map (·.1))) && dm r
def bW (m:List (Nat × V)):List (Nat × List Step)→Option (List V)
 | []=>some []
 | (k,[])::r=>(lk m k).bind fun v=>(bW m r).bind fun us=>some (v::us)
 | _=>none
def bv (m:List (Nat × V)):List (Nat × List Step)→List V→Option (List (Nat × V) × List V)
 | [],us=>some (m,us)
 | (k,[])::r,u::us=>(lk m k).bind fun v=>bif Nat.beq v.cells u.cells && !(d7 u) then bv (eX m k u) r us else none
 | _,_=>none
def fresh (n:Nat) (t:Nat):V→Option V
 | .ref k []=>bif Nat.beq k (1000000+n) then some (.ref t []) else none
 | .mref k=>bif Nat.beq k (1000000+n) then some (.mref t) else none
 | .tup2 (.ref k []) b=>bif Nat.beq k (1000000+n) && b.refs.isEmpty then some (.tup2 (.ref t []) b) else none
 | _=>none
def C4 (n t t':Nat):V→Option V
 | .tup2 (.mref k) (.mref k')=>bif Nat.beq k (1000000+n) && Nat.beq k' (1000000+(n+1)) then some (.tup2 (.mref t) (.mref t')) else none
 | .tup3 (.ref k []) (.ref k' []) b=>bif Nat.beq k (1000000+n) && Nat.beq k' (1000000+(n+1)) && b.refs.isEmpty then some (.tup3 (.ref t []) (.ref t' []) b) else none
 | _=>none
def kd:List V→Bool
 | []=>true
 | v::r=>v.refs.isEmpty && kd r
def vH {α : Type} (c : Cx) (f : Nat) (args : List V) (d : Option Nat) (a0 : Option Nat) (s : St) (K : St → Option α) : Option α :=
  (lkN c.fns f).bind fun e => (mQ 0 args).bind fun ar => bif dm ar.2 then
      (bW s.mem ar.2).bind fun objs => bif kd objs then e.run α ar.1 objs fun v objs' =>
        (bv s.mem ar.2 objs').bind fun m=>bif kd objs' then match m.2 with
        | []=>bif v.refs.isEmpty then K (({ env:=s.env,mem:=m.1 }:St).dst d v) else none
        | [.raw e xs] => match a0 with
          | some t=>bif v.refs.isEmpty then K (({ env:=(t,.raw e xs)::rm s.env t,mem:=m.1 }:St).dst d v) else none
          | none=>none
        | [u] => match d with
          | some d=>bif Nat.blt d 1000000 && (lk m.1 d).isNone && cz d s.env && cz d m.1 then (fresh ar.2.length d v).bind fun v'=>K (({ env:=s.env,mem:=(d,u)::m.1 }:St).set d v') else none
          | none=>none
        | [u, u'] => match d with
          | some d=>bif Nat.blt d 500000 && ((lk m.1 d).isNone && cz d s.env && cz d m.1) && ((lk m.1 (d+500000)).isNone && cz (d+500000) s.env && cz (d+500000) m.1) then (C4 ar.2.length d (d+500000) v).bind fun v'=>K (({ env:=s.env,mem:=(d,u)::(d+500000,u')::m.1 }:St).set d v') else none
          | none=>none
        | _=>none
        else none else none
    else none

def DN (mv:Bool) (x:Operand) (o:Oper) (s:St):St :=
 match mv,x,o.dst with
 | true,.tmp t,some d=>{ s with env:=(t,.lent d)::rm s.env t }
 | _,_,_=>s
def A5 {α:Type} (ln:Bool) (d:Option Nat) (s:St) (K:St→Option α):Option α:=match ln,d with
 | true,some d=>match lk s.env d with
  | some (.raw e xs)=>bif Nat.blt d 1000000 && (lk s.mem d).isNone && cz d (rm s.env d) && cz d s.mem then K { env:=(d,.vref d e (af xs))::rm s.env d,mem:=(d,.vec d e xs)::s.mem } else none
  | _=>K s
 | _,_=>K s
def ge {α : Type} (c : Cx) (o : Oper) (ρ : Option Ty → Operand → Option V) (m : List (Nat × V)) (K : V → Option α) : Option α :=
  match o.op with
  | .move x | .assign x=>(ρ (c.ty o.type) x).bind K
  | .pick p x y => (ρ none p).bind fun pv => match pv with
    | .dat .bool b=>br b ((ρ none x).bind K) ((ρ none y).bind K)
    | _=>none
  | .build t parts=>(lkN c.types t).bind fun ti=>bif ti.ty.agg then (rc ρ parts.toList).bind fun ps=>(lE ti.ty ti.nf (jO ti.ty) ps).bind K else none
  | .load t a => (c.lay t).bind fun ly => (ρ none a).bind fun av => match av with
    | .ref k p=>(lk m k).bind fun v=>CO k v p fun u=>bif Nat.beq ly.1 u.cells && (ly.2 == u.agg) then K u.copy else none
    | .ip τ x=>bif Nat.beq ly.1 τ.cells && (ly.2 == τ.agg) then K (.dat τ x) else none
    | _=>none
  | .nilCheck x => (ρ none x).bind fun v => match v with
    | .ref .. | .fn .. | .ip ..=>K v
    | _=>none
  | .binOp op t x y _=>(ρ (c.ty t) x).bind fun v=>(ρ (c.ty t) y).bind fun u=>bif CN op v u then oA (bn t c.ptrs) (c.ty t) op v u K else none
  | .unOp op _ x => (ρ none x).bind fun v => match op, v with
    | .not,.dat .bool b=>K (.dat .bool (ai b))
    | .neg,.dat (.int k) n=>K (.dat (.int k) (bw k 0 n))
    | .xor,.dat (.int k) n=>bif Nat.beq (kn k) 6 then K (.dat (.int k) (fP k 4294967295 n)) else none
    | _,_=>none
  | .convert q t x => (c.ty q).bind fun σ => (ρ none x).bind fun v => (c.ty t).bind fun τ => match σ, τ, v with
    | .int _,.int k,.dat (.int _) n=>K (.dat (.int k) (bj k n))
    | .str,.str,.dat .str b=>K (.dat .str b)
    | _,_,_=>none
  | .slice t x lo hi mx => (c.ty t).bind fun τ => (ρ none x).bind fun v =>
      (match lo with | some y=>ρ none y | none=>some (.dat (.int .i64) (0:Int))).bind fun lov =>
      (match hi with | some y=>ρ none y | none=>(EI τ v).map fun n=>.dat (.int .i64) n).bind fun hiv =>
      match τ,lov,hiv,mx with
      | .slc e,.dat (.int _) l,.dat (.int _) h,none=>(V.as (.slc e) v).bind fun xs=>br (eE l h (af xs)) (K (.dat (.slc e) (ba xs l h))) none
      | .str,.dat (.int _) l,.dat (.int _) h,none=>(V.as .str v).bind fun xs=>br (eE l h (af xs)) (K (.dat .str (ba xs l h))) none
      | .arr m e, .dat (.int _) l, .dat (.int _) h, none => match v with
        | .ref k p=>br (eE l h (m:Int)) (K (.view k p m e l h)) none
        | _=>none
      | _,_,_,_=>none
  | .fieldAddr t x f => (lkN c.types t).bind fun ti => bif mV ti f then (ρ none x).bind fun v => match v with
    | .ref k p=>K (.ref k (p++ff ti.ty ti.nf f))
    | .ip τ x => ((V.dat τ x).get (ff ti.ty ti.nf f)).bind fun u => match u with
      | .dat τ' y=>K (.ip τ' y)
      | _=>none
    | _=>none
    else none
  | .indexAddr t x i => (c.ty t).bind fun τ => (ρ none x).bind fun v => (ρ none i).bind fun iv => match τ, iv with
    | .slc e, .dat (.int _) n => match v with
      | .view k p m e' l h=>bif Nat.beq e'.cells e.cells then br (FW n (Df h l)) (K (.ref k (p++[.ix m e.cells (aj (Ah l n))]))) none else none
      | .vref k e' l=>bif Nat.beq e'.cells e.cells then br (FW n l) (K (.ref k [.el e.cells n])) none else none
      | v=>(V.as (.slc e) v).bind fun xs=>br (bO n xs) (K (.ip e (rd e xs (aj n)))) none
    | .arr m e, .dat (.int _) n => match v with
      | .ref k p=>br (gh n m) (K (.ref k (p++[.ix m e.cells (aj n)]))) none
      | .ip τ' y=>(V.as (.arr m e) (.dat τ' y)).bind fun xs=>br (gh n m) (K (.ip e (rd e xs (aj n)))) none
      | _=>none
    | _,_=>none
  | .index t x i => (c.ty t).bind fun τ => (ρ none x).bind fun v => (ρ none i).bind fun iv => match τ, iv with
    | .str,.dat (.int _) n=>(V.as .str v).bind fun b=>br (bO n b) (K (.dat (.int .u8) (bd b n))) none
    | .arr m e,.dat (.int _) n=>(V.as (.arr m e) v).bind fun xs=>br (gh n m) (K (.dat e (rd e xs (aj n)))) none
    | _,_=>none
  | .lookup t x i ok => (lkN c.maps t).bind fun ke => (ρ none x).bind fun v => (ρ (some ke.1) i).bind fun iv => match v with
    | .mref k => (lk m k).bind fun u => (V.as ke.1 iv).bind fun y => match u with
      | .dat (.map a b) es => if h : a = ke.1 ∧ b = ke.2 then
          (bif ok then K (.tup2 (.dat b (tU a b es (h.1 ▸ y))) (.dat .bool (rk a es (h.1 ▸ y)))) else K (.dat b (tU a b es (h.1 ▸ y)))) else none
      | _=>none
    | _=>none
  | .extract x i => (ρ none x).bind fun v => match v, i with
    | .tup2 a _,0=>K a
    | .tup2 _ b,1=>K b
    | .tup3 a _ _,0=>K a
    | .tup3 _ b _,1=>K b
    | .tup3 _ _ d,2=>K d
    | _,_=>none
  | .makeFunc (.func f) first caps => bif first.isEmpty then (uf ρ caps.toList).bind fun vs =>
      ((vs.foldr (fun v acc=>acc.bind fun l=>match v with | .ref k p=>some ((k,p)::l) | _=>none) (some [])):Option (List (Nat × List Step))).bind fun l=>K (.fn f l) else bif caps.isEmpty then (uf ρ first.toList).bind fun vs =>
      ((vs.foldr (fun v acc=>acc.bind fun l=>match v with | .ref k p=>some ((k,p)::l) | _=>none) (some [])):Option (List (Nat × List Step))).bind fun l=>K (.bnd f l) else none
  | .call { callee := .builtin b, args, argTypes, .. } => match b, args.toList, argTypes.toList with
    | .len,[x],t::_=>(c.ty t).bind fun τ=>(ρ none x).bind fun v=>bif CP τ v then (na v).bind fun n=>K (.dat (.int .i64) n) else none
    | .max, [x, y], _ => (ρ none x).bind fun v => (ρ none y).bind fun u => match v, u with
      | .dat (.int k) a,.dat (.int k') b=>bif Nat.beq (kn k) (kn k') then K (.dat (.int k) (jk a b)) else none
      | _,_=>none
    | .min, [x, y], _ => (ρ none x).bind fun v => (ρ none y).bind fun u => match v, u with
      | .dat (.int k) a,.dat (.int k') b=>bif Nat.beq (kn k) (kn k') then K (.dat (.int k) (nI a b)) else none
      | _,_=>none
    | _,_,_=>none
  | _=>none
def jP (L:Nat→Option V) (e:Option Ty):Operand→Option V
 | .tmp t=>(L t).bind V.copyO
 | .const v=>cV e v
 | .func f=>some (.fn f [])
 | .global _=>none
def lw (mv:Bool) (e:Option Ty) (L:Nat→Option V):Operand→Option V
 | .tmp t=>bif mv then (L t).bind fun v=>v.copyO.map fun _=>v else (L t).bind V.copyO
 | .const v=>cV e v
 | .func f=>some (.fn f [])
 | .global _=>none
def mE (L:Nat→Option V):Option Nat→Nat→Option V
 | none=>L
 | some t=>fun u=>bif Nat.beq t u then none else L u
def jd (mv:Bool):Operand→Option Nat
 | .tmp t=>bif mv then some t else none
 | _=>none
def lF (mv:Bool) (tys:List (Option Ty)) (L:Nat→Option V):List Operand→Option (List V)
 | []=>some []
 | x::r=>(lw mv (tys.headD none) L x).bind fun v=>(mT (jP (mE L (jd mv x))) tys.tail r).bind fun us=>some (v::us)
def ng (mv:Bool):List Operand→Option Nat
 | x::_=>jd mv x
 | []=>none
def cB (mv:Bool) (o:Oper):Option Nat :=
 match o.op with
 | .call { callee:=.value _,args,.. } | .call { callee:=.builtin .append,args,.. }=>ng mv args.toList
 | .move x | .assign x | .store _ _ x=>jd mv x
 | _=>none
def sA (env:List (Nat × V)):Option Nat→List (Nat × V)
 | none=>env
 | some t=>rm env t
def iy {α:Type} (c:Cx) (mv:Bool) (o:Oper) (L:Nat→Option V) (m:List (Nat × V)) (K:V→Option α):Option α :=
 match o.op with
 | .call { callee:=.builtin .append,args,argTypes }=>match args.toList,argTypes.toList with
  | [x,y],[t,t2]=>(lw mv (c.ty t) L x).bind fun v=>(jP (mE L (jd mv x)) (c.ty t) y).bind fun u=>match c.ty t,c.ty t2,v with
   | some (.slc e'),some (.slc _),.own e xs=>bif Nat.beq e'.cells e.cells then (V.as (.slc e) u).bind fun ys=>br (bm xs ys) (K (.own e (app xs ys))) none else none
   | _,_,_=>none
  | _,_=>none
 | .move x | .assign x=>(lw mv (c.ty o.type) L x).bind K
 | .buildSlice t n parts=>(c.ty t).bind fun τ=>match τ with
  | .slc e=>(rc (jP L) parts.toList).bind fun ps=>bif Nat.beq ps.length n && Nat.ble (n * e.cells) 16777216 then (lC e 0 ps).bind fun xs=>K (.own e xs) else none
  | _=>none
 | _=>ge c o (jP L) m K
def da {α:Type} (c:Cx) (mv:Bool) (o:Oper) (L:Nat→Option V) (m:List (Nat × V)) (K:V→List (Nat × V)→Option α):Option α :=
 match o.op with
 | .call { callee:=.value f,args,argTypes }=>(jP L none f).bind fun fv=>match fv with
  | .fn g caps=>(lF mv (argTypes.toList.map c.ty) L args.toList).bind fun vs=>(lkN c.fns g).bind fun e =>
   (mQ 0 (vs++caps.map fun x=>.ref x.1 x.2)).bind fun ar=>bif dm ar.2 then
    (bW m ar.2).bind fun objs=>bif kd objs then e.run α ar.1 objs fun v objs' =>
     (bv m ar.2 objs').bind fun m'=>bif kd objs' && m'.2.isEmpty && v.refs.isEmpty then K v m'.1 else none
    else none
   else none
  | _=>none
 | .store t a x=>(c.lay t).bind fun ly=>(jP L none a).bind fun av=>(lw mv (c.ty t) L x).bind fun v=>match av with
  | .ref k p=>bif Nat.beq ly.1 v.cells && !(cZ v) && o.dst.isNone then (lk m k).bind fun u=>vf k u p v fun u'=>K .unit (eX m k u') else none
  | _=>none
 | .mapUpdate t x i y=>(lkN c.maps t).bind fun ke=>(jP L none x).bind fun v=>(jP L (some ke.1) i).bind fun iv=>(jP L (some ke.2) y).bind fun yv=>match v with
  | .mref k=>(lk m k).bind fun u=>(V.as ke.1 iv).bind fun a=>(V.as ke.2 yv).bind fun b=>match u with
   | .dat (.map ka kb) es=>if h:ka=ke.1∧kb=ke.2 then (bif o.dst.isNone then K .unit (eX m k (.dat (.map ka kb) (pQ ka kb es (h.1 ▸ a) (h.2 ▸ b)))) else none) else none
   | _=>none
  | _=>none
 | .load t a=>bif mv then (c.lay t).bind fun ly=>(jP L none a).bind fun av=>match av with
  | .ref k p=>(lk m k).bind fun v=>(v.get p).bind fun u=>bif Nat.beq ly.1 u.cells && (ly.2 == u.agg) then (V.put p v u.copy).bind fun v'=>K u (eX m k v') else none
  | _=>none
  else iy c mv o L m fun v=>K v m
 | .alloc t=>(c.zero t).bind fun z=>match o.dst with
  | some d=>bif Nat.blt d 1000000 && (lk m d).isNone then K (.ref d []) ((d,z)::m) else none
  | none=>none
 | _=>iy c mv o L m fun v=>K v m
def bY (L:Nat→Option V):Operand→List Nat
 | .tmp t=>match L t with
  | some v=>v.refs
  | none=>[]
 | _=>[]
def jI (mv:Bool) (o:Oper) (L:Nat→Option V):List Nat × Bool :=
 match o.op with
 | .load _ a=>(bY L a,mv)
 | .store _ a _=>(bY L a,true)
 | .lookup _ x _ _=>(bY L x,false)
 | .mapUpdate _ x _ _=>(bY L x,true)
 | .call { callee:=.value f,args,.. }=>(bY L f++args.toList.flatMap (bY L),true)
 | .alloc _=>(match o.dst with | some d=>[d] | none=>[],true)
 | _=>([],false)
def wO (o:Oper) (j:Nat):Bool:=o.after.any fun e=>Region.binds .any e && Nat.beq e.on j
def wU:List Nat→List Nat→Bool
 | [],_=>true
 | k::r,l=>!(bn k l) && wU r l
def lB:List (List Nat)→Nat→List Nat
 | [],_=>[]
 | a::_,0=>a
 | _::r,i+1=>lB r i
def kG (pr:List Nat) (fp:List Nat × Bool) (j:Nat) (fq:List Nat × Bool):Bool:=!(fp.2 || fq.2) || wU fp.1 fq.1 || bn j pr
def iY (pr:List Nat) (fp:List Nat × Bool):List (Nat × (List Nat × Bool))→Bool
 | []=>true
 | (j,fq)::r=>kG pr fp j fq && iY pr fp r
def tJ (i:Nat) (fp:List Nat × Bool) (past:List (Nat × (List Nat × Bool))):List (Nat × (List Nat × Bool)):=match fp.1 with
 | []=>past
 | _::_=>(i,fp)::past
def qn {α:Type} (c:Cx) (o:Oper) (s:St) (K:St→Option α):Option α:=ge c o (fun e x=>nl e s x) s.mem fun v=>K (s.dst o.dst v)
def fc {α:Type} (c:Cx) (mv ln:Bool) (o:Oper) (s:St) (K:St→Option α):Option α :=
 match o.op with
 | .move x | .assign x=>bif mv then (wP mv (c.ty o.type) s x).bind fun vs=>K (DN ln x o (vs.2.dst o.dst vs.1)) else qn c o s K
 | .alloc t=>(c.zero t).bind fun z=>match o.dst with
  | some d=>bif Nat.blt d 1000000 && (lk s.mem d).isNone && cz d s.env && cz d s.mem then K ({ s with mem:=(d,z)::s.mem }.set d (.ref d [])) else none
  | none=>none
 | .box t x=>(wP mv (c.ty t) s x).bind fun vs=>match o.dst with
  | some d=>bif Nat.blt d 1000000 && (lk vs.2.mem d).isNone && cz d vs.2.env && cz d vs.2.mem && !(bn d vs.1.refs) && !(cZ vs.1) then K ({ vs.2 with mem:=(d,vs.1)::vs.2.mem }.set d (.ref d [])) else none
  | none=>none
 | .buildSlice t n parts=>(c.ty t).bind fun τ=>match τ with
  | .slc e=>(rc (fun e x=>nl e s x) parts.toList).bind fun ps=>bif Nat.beq ps.length n && Nat.ble (n * e.cells) 16777216 then (lC e 0 ps).bind fun xs=>K (s.dst o.dst (.own e xs)) else none
  | _=>none
 | .load t a=>bif mv then (c.lay t).bind fun ly=>(nl none s a).bind fun av=>match av with
  | .ref k p=>(lk s.mem k).bind fun v=>(v.get p).bind fun u=>bif Nat.beq ly.1 u.cells && (ly.2 == u.agg) then
   (V.put p v u.copy).bind fun v'=>K (({ s with mem:=eX s.mem k v' }:St).dst o.dst u) else none
  | _=>none
  else qn c o s K
 | .store t a x=>(c.lay t).bind fun ly=>(nl none s a).bind fun av=>(wP mv (c.ty t) s x).bind fun vs=>match av with
  | .ref k p=>bif Nat.beq ly.1 vs.1.cells && !(cZ vs.1) && o.dst.isNone then (lk vs.2.mem k).bind fun v=>vf k v p vs.1 fun v'=>K ({ vs.2 with mem:=eX vs.2.mem k v' }) else none
  | _=>none
 | .call { callee:=.value f,args,argTypes }=>(nl none s f).bind fun fv=>match fv with
  | .fn g caps=>(xx mv (argTypes.toList.map c.ty) s args.toList).bind fun vs=>vH c g (vs.1++caps.map fun x=>.ref x.1 x.2) o.dst (match args.toList with | .tmp t::_=>some t | _=>none) vs.2 fun s'=>A5 ln o.dst s' K
  | .bnd g caps=>(xx mv (argTypes.toList.map c.ty) s args.toList).bind fun vs=>vH c g ((caps.map fun x=>.ref x.1 x.2)++vs.1) o.dst none vs.2 fun s'=>A5 ln o.dst s' K
  | _=>none
 | .call { callee:=.builtin .append,args,argTypes }=>match args.toList,argTypes.toList with
  | [x,y],[t,t2]=>(wP mv (c.ty t) s x).bind fun vs=>(nl (c.ty t) vs.2 y).bind fun u=>match c.ty t,c.ty t2,vs.1 with
   | some (.slc e'),some (.slc _),.own e xs=>bif Nat.beq e'.cells e.cells then (V.as (.slc e) u).bind fun ys=>br (bm xs ys) (K (vs.2.dst o.dst (.own e (app xs ys)))) none else none
   | _,_,_=>none
  | _,_=>none
 | .makeMap t none=>(lkN c.maps t).bind fun ke=>match o.dst with
  | some d=>bif Nat.blt d 1000000 && (lk s.mem d).isNone && cz d s.env && cz d s.mem then K ({ s with mem:=(d,.dat (.map ke.1 ke.2) [])::s.mem }.set d (.mref d)) else none
  | none=>none
 | .mapUpdate t x i y=>(lkN c.maps t).bind fun ke=>(nl none s x).bind fun v=>(nl (some ke.1) s i).bind fun iv=>(nl (some ke.2) s y).bind fun yv=>match v with
  | .mref k=>(lk s.mem k).bind fun u=>(V.as ke.1 iv).bind fun a=>(V.as ke.2 yv).bind fun b=>match u with
   | .dat (.map ka kb) es=>if h:ka=ke.1∧kb=ke.2 then (bif o.dst.isNone then K { s with mem:=eX s.mem k (.dat (.map ka kb) (pQ ka kb es (h.1 ▸ a) (h.2 ▸ b))) } else none) else none
   | _=>none
  | _=>none
 | .call { callee:=.builtin .clear,args,argTypes }=>match args.toList,argTypes.toList with
  | [x],[t]=>(nl none s x).bind fun v=>match c.ty t,v with
   | some (.slc e),.view k p m e' l h=>bif Nat.beq e'.cells e.cells && ES l h m then
    (lk s.mem k).bind fun u=>(V.put p u (.dat (.arr m e) (aV m e.zero))).bind fun u'=>K ({ s with mem:=eX s.mem k u' }.dst o.dst .unit) else none
   | _,_=>none
  | _,_=>none
 | _=>qn c o s K

def cS {α : Type} (c : Cx) (ops : Array Oper) (moves lends : List Nat) : Nat → List Oper → St → (St → Option α) → Option α
  | _,[],s,K=>K s
  | i, o :: r, s, K => match o.guard with
    | none=>fc c (bn i moves) (bn i lends) o s fun s'=>cS c ops moves lends (i+1) r s' K
    | some (j, want) => ((ops[j]?).bind (·.dst)).bind fun g => (lk s.env g).bind fun gv => match gv with
      | .dat .bool b =>
        br b
          (bif want then fc c (bn i moves) (bn i lends) o (s.set g (.dat .bool true)) fun s' => cS c ops moves lends (i + 1) r s' K
           else cS c ops moves lends (i+1) r ((s.set g (.dat .bool true)).dst o.dst .unit) K)
          (bif want then cS c ops moves lends (i + 1) r ((s.set g (.dat .bool false)).dst o.dst .unit) K
           else fc c (bn i moves) (bn i lends) o (s.set g (.dat .bool false)) fun s'=>cS c ops moves lends (i+1) r s' K)
      | .unit=>cS c ops moves lends (i+1) r (s.dst o.dst .unit) K
      | _=>none

def bP:List (Nat × V)→Bool
 | []=>true
 | (_,v)::r=>(match v with | .lent _=>false | _=>true) && bP r
def DA:V→Bool
 | .lent _=>false
 | _=>true
def jW:List Oper→List Nat
 | []=>[]
 | o::r=>match o.op,o.dst with
  | .alloc _,some d=>d::jW r
  | _,_=>jW r
def GZ (dst:Option Nat) (d:Nat):Bool:=match dst with
 | some t=>Nat.beq t d
 | none=>false
def GJ:List Nat→Option Nat→V→List (Nat × V)→Bool
 | [],_,_,_=>true
 | d::r,dst,v,m=>cz d m && (GZ dst d || !(bn d v.refs)) && GJ r dst v m
def Ax:List Nat→List (Nat × V)→List (Nat × V)→Bool
 | [],_,_=>true
 | d::r,e,m=>cz d e && cz d m && Ax r e m
def AZ (ops:Array Oper) (o:Oper) (v:V) (m:List (Nat × V)):Bool:=DA v && GJ (jW ops.toList) o.dst v m
def eW:List (Nat × V)→Bool
 | []=>true
 | (k,_)::r=>!(bn k (r.map (·.1))) && eW r
def mc {α : Type} (c : Cx) (ops : Array Oper) (moves : List Nat) (pr : List (List Nat)) : Nat → Nat → List (Nat × (List Nat × Bool)) → List Oper → St → (List (Nat × (List Nat × Bool)) → List Oper → St → Option α) → Option α
  | _,0,past,r,s,K=>K past r s
  | _,_+1,past,[],s,K=>K past [] s
  | i, n + 1, past, o :: r, s, K => match o.guard with
    | none=>bif iY (lB pr i) (jI (bn i moves) o (lk s.env)) past then da c (bn i moves) o (lk s.env) s.mem fun v m=>bif AZ ops o v m then mc c ops moves pr (i+1) n (tJ i (jI (bn i moves) o (lk s.env)) past) r (({ env:=sA s.env (cB (bn i moves) o),mem:=m }:St).dst o.dst v) K else none else none
    | some (j, want) => ((ops[j]?).bind (·.dst)).bind fun g => (lk s.env g).bind fun gv => match gv with
      | .dat .bool b =>
        br b
          (bif want then (bif iY (lB pr i) (jI (bn i moves) o (lk (s.set g (.dat .bool true)).env)) past then da c (bn i moves) o (lk (s.set g (.dat .bool true)).env) s.mem fun v m => bif AZ ops o v m then mc c ops moves pr (i + 1) n (tJ i (jI (bn i moves) o (lk (s.set g (.dat .bool true)).env)) past) r (({ env := sA (s.set g (.dat .bool true)).env (cB (bn i moves) o), mem := m } : St).dst o.dst v) K else none else none)
           else mc c ops moves pr (i+1) n past r ((s.set g (.dat .bool true)).dst o.dst .unit) K)
          (bif want then mc c ops moves pr (i + 1) n past r ((s.set g (.dat .bool false)).dst o.dst .unit) K
           else (bif iY (lB pr i) (jI (bn i moves) o (lk (s.set g (.dat .bool false)).env)) past then da c (bn i moves) o (lk (s.set g (.dat .bool false)).env) s.mem fun v m=>bif AZ ops o v m then mc c ops moves pr (i+1) n (tJ i (jI (bn i moves) o (lk (s.set g (.dat .bool false)).env)) past) r (({ env:=sA (s.set g (.dat .bool false)).env (cB (bn i moves) o),mem:=m }:St).dst o.dst v) K else none else none))
      | .unit=>mc c ops moves pr (i+1) n past r (s.dst o.dst .unit) K
      | _=>none

inductive Ex where
 | normal
 | exit (id:Nat)
 | ret

def frz (env:List (Nat × V)):List Nat→List (Nat × V)
 | []=>env
 | t::l=>match lk env t with
  | some (.raw e xs)=>frz ((t,.own e xs)::rm env t) l
  | _=>frz env l
abbrev St.frz (s:St) (l:List Nat):St:={ s with env:=Pal.frz s.env l }
def V.iceK {α:Type} (k:Nat) (e:Ty) (xs:List e.D):V→(V→Option α)→Option α
 | .vref k' e' n,K=>bif Nat.beq k' k then br (az n (af xs)) (K (.dat (.slc e) xs)) none else K (.vref k' e' n)
 | .pr a b,K=>V.iceK k e xs a fun a'=>V.iceK k e xs b fun b'=>K (gP a' b')
 | v,K=>K v
def CC {α:Type} (k:Nat) (e:Ty) (xs:List e.D):List (Nat × V)→(List (Nat × V)→Option α)→Option α
 | [],K=>K []
 | (t,v)::r,K=>v.iceK k e xs fun v'=>CC k e xs r fun r'=>K ((t,v')::r')
def ice {α:Type}:List Nat→St→(St→Option α)→Option α
 | [],s,K=>K s
 | k::l,s,K=>match lk s.mem k with
  | some (.vec k' e xs)=>bif Nat.beq k' k then CC k e xs s.env fun E=>CC k e xs (rm s.mem k) fun M=>ice l ⟨E,M⟩ K else none
  | _=>ice l s K
def opn {α : Type} : List (Nat × (List Step × Nat)) → St → (St → Option α) → Option α
  | [],s,K=>K s
  | (k, p, d) :: l, s, K => match lk s.mem k with
    | some v => match v.get p with
      | some (.box τ o) => bif Nat.blt d 1000000 && (lk s.mem d).isNone && cz d s.env && cz d s.mem && Nat.blt 0 τ.cells && Nat.ble 700000 d then
          br (Cp o) ((V.put p v (.ref d [])).bind fun v' => opn l { s with mem := (d, gd τ (D4 τ o)) :: eX s.mem k v' } K)
            ((V.put p v (.box τ none)).bind fun v'=>opn l { s with mem:=eX s.mem k v' } K)
        else none
      | _=>opn l s K
    | none=>opn l s K
def jj {β:Type}:V→List (Nat × V)→(V→List (Nat × V)→β)→β
 | .pr a b,m,K=>jj a m fun a' m1=>jj b m1 fun b' m2=>K (gP a' b') m2
 | .ref d [],m,K=>bif Nat.blt d 1000000 then (match lk m d with
  | some u=>match tD u with
   | some x=>bif Nat.blt 0 x.1.cells then K (.box x.1 (some x.2)) (rm m d) else K (.ref d []) m
   | none=>K (.ref d []) m
  | none=>K (.ref d []) m) else K (.ref d []) m
 | v,m,K=>K v m
def sM:List Nat→List (Nat × V)→List (Nat × V)
 | [],m=>m
 | k::l,m=>match lk m k with
  | some v=>jj v (rm m k) fun v' m'=>sM l ((k,v')::m')
  | none=>sM l m
def pK:List (Nat × V)→Option (Nat × Nat)
 | []=>none
 | (t,.lent x)::_=>some (t,x)
 | _::r=>pK r
abbrev settle (env:List (Nat × V)):List (Nat × V) :=
 match pK env with
 | none=>env
 | some (t,x)=>match lk env x with
  | some v=>(t,v)::rm (rm env t) x
  | none=>rm env t
abbrev prune (live mem:List Nat) (s:St):St:={ env:=pick s.env live,mem:=pick s.mem mem }
abbrev D2 (ri:RInfo) (s:St):St:=prune ri.live ri.mem { env:=settle s.env,mem:=sM ri.shut s.mem }

def eI:Code→Nat
 | .region id _ _=>id
 | .seq a _=>eI a
 | .block _ b=>eI b
 | .loop b=>eI b
 | .scope b=>eI b
 | _=>1000000

abbrev jU {α:Type} (g:St→Option α) (K:Ex→St→Option α):Ex→St→Option α
 | .normal,s=>g s
 | e,s=>K e s
abbrev qW {α:Type} (id:Nat) (K:Ex→St→Option α):Ex→St→Option α
 | .exit i,s=>bif Nat.beq i id then K .normal s else K (.exit i) s
 | e,s=>K e s

def rounds {α:Type} (id:Nat) (body:St→(Ex→St→Option α)→Option α) (head:St→St) (K:Ex→St→Option α):Nat→St→Option α
 | 0,_=>none
 | n+1,s=>body s (jU (fun s'=>rounds id body head K n (head s')) K)

def run {α:Type} (c:Cx) (code:Code):St→(Ex→St→Option α)→Option α :=
 Code.rec (motive:=fun _=>St→(Ex→St→Option α)→Option α)
  (fun s K=>K .normal s)
  (fun id ops dr s0 K=>(lkN c.regs id).bind fun ri=>ice ri.ice s0 fun s1=>opn ri.opn s1 fun s =>
   bif dr then bif bP (s.frz ri.frz).env && Ax (jW ops.toList) (s.frz ri.frz).env (s.frz ri.frz).mem then mc c ops ri.moves ri.pre 0 ri.quiet [] ops.toList (s.frz ri.frz) fun past r s1=>bif eW s1.env && eW s1.mem then cS c ops ri.moves ri.lends ri.quiet r s1 fun s'=>K .normal (D2 ri s') else none else none
   else cS c ops ri.moves ri.lends 0 ops.toList (s.frz ri.frz) fun s'=>K .normal (D2 ri s'))
  (fun _ _ iha ihb s K=>iha s (jU (fun s'=>ihb s' K) K))
  (fun x _ _ iha ihb s K=>(nl none s x).bind fun v=>match v with
   | .dat .bool t=>br t (iha s K) (ihb s K)
   | _=>none)
  (fun id _ ih s K=>ih s (qW id K))
  (fun b ih s K=>(lkN c.regs (eI b)).bind fun ri=>rounds (eI b) ih (prune ri.head ri.headM) K c.fuel (prune ri.head ri.headM s))
  (fun _ _ _ _ _ _ _ _=>none)
  (fun id s K=>K (.exit id) s)
  (fun _ _ _ _=>none)
  (fun _ _ _=>none)
  (fun _ _ _=>none)
  (fun s K=>K .ret s)
  (fun _ _ _=>none)
  code

def rf (c:Cx) (s:St):ResultVar→Option V
 | .tmp t=>lk s.env t
 | .cell a ty=>(c.lay ty).bind fun ly=>(lk s.env a).bind fun v=>match v with
  | .ref k p=>(lk s.mem k).bind fun u=>(u.get p).bind fun x=>bif Nat.beq ly.1 x.cells && (ly.2 == x.agg) then some x.copy else none
  | _=>none
def lV (c:Cx) (s:St):List ResultVar→Option V
 | []=>some .unit
 | [a]=>rf c s a
 | [a,b]=>(rf c s a).bind fun x=>(rf c s b).bind fun y=>bif cZ x || cZ y then none else some (.tup2 x y)
 | [a,b,d]=>(rf c s a).bind fun x=>(rf c s b).bind fun y=>(rf c s d).bind fun z=>bif cZ x || cZ y || cZ z then none else some (.tup3 x y z)
 | _=>none
def fY (m:List (Nat × V)):Nat→Nat→Option (List V)
 | _,0=>some []
 | k,n+1=>(lk m k).bind fun v=>(fY m (k+1) n).bind fun vs=>some (v::vs)
def gD (m:List (Nat × V)) (n:Nat):V→List V→Option (V × List V)
 | .ref k [],os=>bif Nat.ble 700000 k then none else (lk m k).bind fun u=>bif u.refs.isEmpty then some (.ref (1000000+n) [],os++[u]) else none
 | .tup2 (.ref k []) b,os=>bif Nat.ble 700000 k || !b.refs.isEmpty then none else (lk m k).bind fun u=>bif u.refs.isEmpty then some (.tup2 (.ref (1000000+n) []) b,os++[u]) else none
 | .tup3 (.ref k []) (.ref k' []) b,os=>bif Nat.ble 700000 k || Nat.ble 700000 k' || Nat.beq k k' || !b.refs.isEmpty then none else (lk m k).bind fun u=>(lk m k').bind fun u'=>bif u.refs.isEmpty && u'.refs.isEmpty then some (.tup3 (.ref (1000000+n) []) (.ref (1000000+(n+1)) []) b,os++[u,u']) else none
 | .mref k,os=>bif Nat.ble 700000 k then none else (lk m k).bind fun u=>bif u.refs.isEmpty then some (.mref (1000000+n),os++[u]) else none
 | .tup2 (.mref k) (.mref k'),os=>bif Nat.ble 700000 k || Nat.ble 700000 k' || Nat.beq k k' then none else (lk m k).bind fun u=>(lk m k').bind fun u'=>bif u.refs.isEmpty && u'.refs.isEmpty then some (.tup2 (.mref (1000000+n)) (.mref (1000000+(n+1))),os++[u,u']) else none
 | v,os=>bif v.refs.isEmpty then some (v,os) else none
def sub:Code→List Nat→Code
 | c,[]=>c
 | .seq a b,i::p=>match i with | 0=>sub a p | _=>sub b p
 | .cond _ a b,i::p=>match i with | 0=>sub a p | _=>sub b p
 | .block _ b,_::p=>sub b p
 | .loop b,_::p=>sub b p
 | c,_=>c
def Fc {α:Type} (c:Cx):Code→List Nat→List Nat→(Ex→St→Option α)→Ex→St→Option α
 | .seq a b,i::p,ns,K=>match i with | 0=>Fc c a p ns (jU (fun s'=>run c b s' K) K) | _=>Fc c b p ns K
 | .cond _ a b,i::p,ns,K=>match i with | 0=>Fc c a p ns K | _=>Fc c b p ns K
 | .block id b,_::p,ns,K=>Fc c b p ns (qW id K)
 | .loop b,_::p,n::ns,K=>match lkN c.regs (eI b) with
  | some ri=>Fc c b p ns (jU (fun s'=>rounds (eI b) (run c b) (prune ri.head ri.headM) K n (prune ri.head ri.headM s')) K)
  | none=>K
 | _,_,_,K=>K
def aU {α:Type} (c:Cx) (body:Code) (p:List Nat) (id:Nat) (h hm:List Nat) (ns:List Nat) (K:Ex→St→Option α) (n:Nat) (s:St):Option α :=
 rounds id (run c (sub body (p++[0]))) (prune h hm) (Fc c body p ns K) n s
abbrev FD {α:Type} (c:Cx) (rs:List ResultVar) (n:Nat) (K:V→List V→Option α):Ex→St→Option α
 | .exit _,_=>none
 | _,s=>(lV c s rs).bind fun v=>(fY s.mem 1000000 n).bind fun os=>(gD s.mem n v os).bind fun r=>K r.1 r.2
def cW {β:Type}:Nat→List β→List (Nat × β)
 | _,[]=>[]
 | k,v::r=>(k,v)::cW (k+1) r
def FR (args objs:List V):St:={ env:=cW 0 args,mem:=cW 1000000 objs }

inductive Ar where
 | dat (τ:Ty)
 | ref
 | fn (g n:Nat)
 | nil
inductive Rs where
 | dat (τ:Ty)
 | own (e:Ty)
 | raw (e:Ty)
 | t2 (a b:Rs)
 | new
 | unit
 | n2 (c:Rs)
 | t3 (a b c:Ty)
 | newm
 | n2m
@[reducible] def Rs.D:Rs→Type
 | .dat τ=>τ.D
 | .own e=>List e.D
 | .raw e=>List e.D
 | .t2 .new b=>b.D
 | .t2 a b=>a.D × b.D
 | .new=>Unit
 | .unit=>Unit
 | .n2 c=>c.D
 | .t3 a b c=>a.D × b.D × c.D
 | .newm=>Unit
 | .n2m=>Unit
def Rs.dec (n:Nat):(ρ:Rs)→V→Option ρ.D
 | .dat τ,v=>V.as τ v
 | .own e,.own e' xs=>if h:e'=e then some (h ▸ xs) else none
 | .own _,_=>none
 | .raw e,.own e' xs=>if h:e'=e then (bif flat e then some (h ▸ xs) else none) else none
 | .raw e,.raw e' xs=>if h:e'=e then some (h ▸ xs) else none
 | .raw _,_=>none
 | .t2 .new b,v=>match v with
  | .tup2 (.ref k []) y=>bif Nat.beq k (1000000+n) then b.dec n y else none
  | _=>none
 | .t2 (.dat τ) b,v=>match v with
  | .tup2 x y=>(V.as τ x).bind fun x'=>(b.dec n y).bind fun y'=>some (x',y')
  | _=>none
 | .t2 _ _,_=>none
 | .new,v=>match v with
  | .ref k []=>bif Nat.beq k (1000000+n) then some () else none
  | _=>none
 | .unit,v=>match v with
  | .unit=>some ()
  | _=>none
 | .n2 c,v=>match v with
  | .tup3 (.ref k []) (.ref k' []) y=>bif Nat.beq k (1000000+n) && Nat.beq k' (1000000+(n+1)) then c.dec n y else none
  | _=>none
 | .t3 a b c,v=>match v with
  | .tup3 x y z=>(V.as a x).bind fun x'=>(V.as b y).bind fun y'=>(V.as c z).bind fun z'=>some (x',y',z')
  | _=>none
 | .newm,v=>match v with
  | .mref k=>bif Nat.beq k (1000000+n) then some () else none
  | _=>none
 | .n2m,v=>match v with
  | .tup2 (.mref k) (.mref k')=>bif Nat.beq k (1000000+n) && Nat.beq k' (1000000+(n+1)) then some () else none
  | _=>none
def Rs.enc (n:Nat):(ρ:Rs)→ρ.D→V
 | .dat τ,x=>.dat τ x
 | .own e,xs=>.own e xs
 | .raw e,xs=>.raw e xs
 | .t2 .new b,y=>.tup2 (.ref (1000000+n) []) (b.enc n y)
 | .t2 (.dat τ) b,x=>.tup2 (.dat τ x.1) (b.enc n x.2)
 | .t2 _ _,_=>.unit
 | .new,_=>.ref (1000000+n) []
 | .unit,_=>.unit
 | .n2 c,y=>.tup3 (.ref (1000000+n) []) (.ref (1000000+(n+1)) []) (c.enc n y)
 | .t3 a b c,x=>.tup3 (.dat a x.1) (.dat b x.2.1) (.dat c x.2.2)
 | .newm,_=>.mref (1000000+n)
 | .n2m,_=>.tup2 (.mref (1000000+n)) (.mref (1000000+(n+1)))
@[reducible] def Dl:List Ty→Type
 | []=>Unit
 | [τ]=>τ.D
 | τ::r=>τ.D × Dl r
def Dl.dec:(ts:List Ty)→List V→Option (Dl ts)
 | [],[]=>some ()
 | [τ],[v]=>V.asB τ v
 | τ::τ'::r,v::vs=>(V.asB τ v).bind fun x=>(Dl.dec (τ'::r) vs).bind fun y=>some (x,y)
 | _,_=>none
def Dl.enc:(ts:List Ty)→Dl ts→List V
 | [],_=>[]
 | [τ],x=>[gd τ x]
 | τ::τ'::r,x=>gd τ x.1::Dl.enc (τ'::r) x.2
def dz:List Ar→List Ty
 | []=>[]
 | .dat τ::r=>τ::dz r
 | _::r=>dz r
def Ar.lay:List Ar→Nat→List V→List V
 | [],_,_=>[]
 | .dat _::r,n,v::vs=>v::Ar.lay r n vs
 | .dat _::r,n,[]=>Ar.lay r n []
 | .ref::r,n,vs=>.ref (1000000+n) []::Ar.lay r (n+1) vs
 | .nil::r,n,vs=>.nilp::Ar.lay r n vs
 | .fn g m::r,n,vs=>.fn g ((List.range m).map fun i=>(1000000+n+i,[]))::Ar.lay r (n+m) vs
def ul (n m:Nat) (caps:List (Nat × List Step)):Bool :=
 Nat.beq caps.length m && (caps.zip (List.range m)).all fun x=>Nat.beq x.1.1 (1000000+n+x.2) && x.1.2.isEmpty
def Ar.pull:List Ar→Nat→List V→Option (List V)
 | [],_,[]=>some []
 | .dat _::r,n,v::vs=>(Ar.pull r n vs).map fun us=>v::us
 | .ref::r,n,.ref k []::vs=>bif Nat.beq k (1000000+n) then Ar.pull r (n+1) vs else none
 | .nil::r,n,.nilp::vs=>Ar.pull r n vs
 | .fn g m::r,n,.fn g' caps::vs=>bif Nat.beq g g' && ul n m caps then Ar.pull r (n+m) vs else none
 | _,_,_=>none
structure Sg where
 args:List Ar
 objs:List Ty
 res:Rs
 outs:List Ty
@[reducible] def Sg.In (σ:Sg):Type:=Dl (dz σ.args++σ.objs)
@[reducible] def Ct (ρ:Rs):List Ty→Type
 | []=>ρ.D
 | ts=>ρ.D × Dl ts
@[reducible] def Sg.Out (σ:Sg):Type:=Ct σ.res σ.outs
def pg (ρ:Rs) (n:Nat):(ts:List Ty)→V→List V→Option (Ct ρ ts)
 | [],v,[]=>ρ.dec n v
 | [],_,_=>none
 | τ::r,v,os=>(ρ.dec n v).bind fun x=>(Dl.dec (τ::r) os).bind fun y=>some (x,y)
def gX (ρ:Rs) (n:Nat):(ts:List Ty)→Ct ρ ts→V
 | [],x=>ρ.enc n x
 | _::_,x=>ρ.enc n x.1
def fi (ρ:Rs):(ts:List Ty)→Ct ρ ts→List V
 | [],_=>[]
 | τ::r,x=>Dl.enc (τ::r) x.2
abbrev Sg.K (σ:Sg) (c:Cx) (rs:List ResultVar):Ex→St→Option σ.Out:=FD c rs σ.objs.length (pg σ.res σ.objs.length σ.outs)
def Sg.fn (σ:Sg) (c:Cx) (body:Code) (rs:List ResultVar) (x:σ.In):Option σ.Out :=
 run c body (FR (Ar.lay σ.args 0 ((Dl.enc (dz σ.args++σ.objs) x).take (dz σ.args).length)) ((Dl.enc (dz σ.args++σ.objs) x).drop (dz σ.args).length)) (σ.K c rs)
def Sg.entry (σ:Sg) (f:σ.In→Option σ.Out):Entry :=
 ⟨fun _ args objs K=>(Ar.pull σ.args 0 args).bind fun ds=>(Dl.dec (dz σ.args++σ.objs) (ds++objs)).bind fun x =>
  bnd (f x) fun r=>K (gX σ.res σ.objs.length σ.outs r) (fi σ.res σ.outs r)⟩
def Entry.alt (σ:Sg) (a b:Entry):Entry :=
 ⟨fun α args objs K=>bif (Ar.pull σ.args 0 args).isSome then a.run α args objs K else b.run α args objs K⟩
def Entry.pt (e:Entry):Entry :=
 ⟨fun α args objs K=>match args,objs with
  | .ref k (st::q)::r,[v]=>bif Nat.beq k 1000000 && kd r && v.refs.isEmpty then
   (v.get (st::q)).bind fun u=>bif u.refs.isEmpty && !(d7 u) then e.run α (.ref 1000000 []::r) [u] fun x os=>match os with
   | [u']=>bif x.refs.isEmpty && u'.refs.isEmpty && Nat.beq u.cells u'.cells then (V.put (st::q) v u').bind fun v'=>K x [v'] else none
   | _=>none
   else none else none
  | args,objs=>e.run α args objs K⟩
def FP {α:Type} (lt:α→α→Bool) (x:α):List α→List α
 | []=>[x]
 | y::r=>bif lt y x then y::FP lt x r else x::y::r
def fH {α:Type} (lt:α→α→Bool):List α→List α
 | []=>[]
 | x::r=>FP lt x (fH lt r)
def iI {α:Type} (p:α→Bool) (xs:List α):List α:=xs.filter p
def qV (e:Ty) (g:Nat) (lt:e.D→e.D→Bool):Entry :=
 ⟨fun _ args objs K=>match args,objs with
  | [.raw e' xs,.fn g' []],[]=>if h:e'=e then (bif Nat.beq g' g then br (bm ([]:List Int) (h ▸ xs:List e.D)) (K .unit [.raw e (fH lt (h ▸ xs:List e.D))]) none else none) else none
  | _,_=>none⟩
def iE (e:Ty):Entry :=
 ⟨fun _ args objs K=>match args,objs with
  | [v],[]=>(V.as (.slc e) v).bind fun xs=>br (bm ([]:List Int) (show List e.D from xs)) (K (.raw e xs) []) none
  | _,_=>none⟩
def iX (e:Ty):Entry :=
 ⟨fun _ args objs K=>match args,objs with
  | [v],[]=>(V.as (.slc e) v).bind fun xs=>br (bm ([]:List Int) (show List e.D from xs)) (K (.own e xs) []) none
  | _,_=>none⟩
def AM (e:Ty) (g:Nat) (p:e.D→Bool):Entry :=
 ⟨fun _ args objs K=>match args,objs with
  | [.raw e' xs,.fn g' []],[]=>if h:e'=e then (bif Nat.beq g' g then br (bm ([]:List Int) (h ▸ xs:List e.D)) (K (.raw e (iI p (h ▸ xs:List e.D))) []) none else none) else none
  | _,_=>none⟩
def eC {α:Type} (xs:List α) (i:Int) (ys:List α):List α:=xs.take i.toNat++(ys++xs.drop i.toNat)
def rl (e : Ty) : Entry :=
  ⟨fun _ args objs K => match args, objs with
    | [.raw e' xs, .dat (.int .i64) i, v], [] => if h : e' = e then (V.as (.slc e) v).bind fun ys =>
        br (eE 0 i (af (h ▸ xs:List e.D))) (br (bm (h ▸ xs:List e.D) (show List e.D from ys)) (K (.own e (eC (h ▸ xs:List e.D) i ys)) []) none) none else none
    | _,_=>none⟩
def wm (e:Ty):Entry :=
 ⟨fun _ args objs K=>match args,objs with
  | [.own e' xs,.dat (.int .i64) n],[]=>if h:e'=e then br (aq n 0) none (br (aq 4294967296 n) none (br (bm ([]:List Int) (h ▸ xs:List e.D)) (K (.own e (h ▸ xs:List e.D)) []) none)) else none
  | _,_=>none⟩
end Go.Proofs.YtfhcammihohmjaaGreatDoor.Pal
end
noncomputable section
/- What data are in a memory: the relation between the abstract run's values and the machine's. -/
namespace Go.Proofs.YtfhcammihohmjaaGreatDoor.Pal
open Go

abbrev Im:=Nat→Nat→Option Value
def Im.le (I J:Im):Prop:=∀ b o v,I b o=some v→J b o=some v
def ym (I:Im) (b o:Nat) (cs:List Value):Prop:=∀ j v,cs[j]? = some v→I b (o+j)=some v
def bC {α:Type} (R:α→List Value→Prop):List α→List Value→Prop
 | [],cs=>cs=[]
 | x::xs,cs=>∃ c1 c2,cs=c1++c2∧R x c1∧bC R xs c2
def d8 {α:Type} (I:Im) (sz:Nat) (R:α→List Value→Prop) (b o:Nat) (xs:List α):Prop :=
 ∀ i x,xs[i]? = some x→∃ c,R x c∧ym I b (o+i * sz) c
def aR (I:Im):(τ:Ty)→τ.D→List Value→Prop
 | .int k,n,cs=>cs=[.int k n]
 | .bool,b,cs=>cs=[.bool b]
 | .str,s,cs=>cs=[.string ⟨s.toArray⟩]
 | .slc e,xs,cs=>∃ a len cap,cs=[.slice a len cap]∧List.length xs=len∧len≤cap∧(xs=[]∨∃ b o,a=some ⟨b,o,none⟩∧d8 I e.cells (aR I e) b o xs)
 | .arr n e,xs,cs=>List.length xs=n∧bC (aR I e) xs cs
 | .pair a b,x,cs=>∃ c1 c2,cs=c1++c2∧aR I a x.1 c1∧aR I b x.2 c2
 | .map _ _,_,cs=>cs=[]
 | .box _,o,cs=>o=none∧cs=[.pointer none]

theorem Im.le_refl (I:Im):I.le I:=fun _ _ _ h=>h
theorem Im.le_trans {I J K:Im} (h:I.le J) (k:J.le K):I.le K:=fun b o v x=>k b o v (h b o v x)
theorem ym.mono {I J:Im} {b o:Nat} {cs:List Value} (hl:I.le J) (h:ym I b o cs):ym J b o cs:=fun j v x=>hl _ _ _ (h j v x)
theorem bC.mono {α:Type} {R R':α→List Value→Prop} (h:∀ x c,R x c→R' x c):∀ (xs:List α) (cs:List Value),bC R xs cs→bC R' xs cs
 | [],_,hh=>hh
 | _::xs,_,⟨c1,c2,e,a,b⟩=>⟨c1,c2,e,h _ _ a,bC.mono h xs c2 b⟩
theorem aR.mono {I J:Im} (hl:I.le J):∀ (τ:Ty) (x:τ.D) (cs:List Value),aR I τ x cs→aR J τ x cs
 | .int _,_,_,h=>h
 | .bool,_,_,h=>h
 | .str,_,_,h=>h
 | .slc e,xs,cs,⟨a,len,cap,h1,h2,h3,h4⟩=>by
  refine ⟨a,len,cap,h1,h2,h3,h4.imp id ?_⟩
  rintro ⟨b,o,ha,hE⟩
  refine ⟨b,o,ha,fun i x hx=>?_⟩
  obtain ⟨c,hc,hat⟩:=hE i x hx
  exact ⟨c,aR.mono hl e x c hc,hat.mono hl⟩
 | .arr n e,xs,cs,⟨h1,h2⟩=>⟨h1,bC.mono (fun x c=>aR.mono hl e x c) _ _ h2⟩
 | .pair a b,x,cs,⟨c1,c2,h,h1,h2⟩=>⟨c1,c2,h,aR.mono hl a _ _ h1,aR.mono hl b _ _ h2⟩
 | .map _ _,_,_,h=>h
 | .box _,_,_,h=>h

theorem bC.length {α:Type} {R:α→List Value→Prop} {n:Nat} (h:∀ x c,R x c→c.length=n):∀ (xs:List α) (cs:List Value),bC R xs cs→cs.length=xs.length * n
 | [],cs,hh=>by simp [bC] at hh;simp [hh]
 | x::xs,cs,⟨c1,c2,e,a,b⟩=>by
  rw [e,List.length_append,h _ _ a,bC.length h xs c2 b,List.length_cons,Nat.add_mul]
  omega
theorem aR.length {I:Im}:∀ (τ:Ty) (x:τ.D) (cs:List Value),aR I τ x cs→cs.length=τ.cells
 | .int _,_,_,h=>by simp [aR] at h;simp [h,Ty.cells]
 | .bool,_,_,h=>by simp [aR] at h;simp [h,Ty.cells]
 | .str,_,_,h=>by simp [aR] at h;simp [h,Ty.cells]
 | .slc e,xs,cs,⟨a,len,cap,h1,_⟩=>by simp [h1,Ty.cells]
 | .arr n e,xs,cs,⟨h1,h2⟩=>by rw [bC.length (fun x c=>aR.length e x c) _ _ h2,h1];rfl
 | .pair a b,x,cs,⟨c1,c2,h,h1,h2⟩=>by rw [h,List.length_append,aR.length a _ _ h1,aR.length b _ _ h2];rfl
 | .map _ _,_,_,h=>by simp only [aR] at h;subst h;rfl
 | .box _,_,_,h=>by obtain ⟨_,h⟩:=h;subst h;rfl

def lZ:Value→Bool
 | .agg _=>false
 | .tuple _=>false
 | _=>true
theorem bC.all {α:Type} {R:α→List Value→Prop} {p:Value→Prop} (h:∀ x c,R x c→∀ v ∈ c,p v):∀ (xs:List α) (cs:List Value),bC R xs cs→∀ v ∈ cs,p v
 | [],cs,hh=>by simp [bC] at hh;simp [hh]
 | x::xs,cs,⟨c1,c2,e,a,b⟩=>by
  intro v hv
  rw [e,List.mem_append] at hv
  rcases hv with hv | hv
  ·exact h _ _ a v hv
  ·exact bC.all h xs c2 b v hv
theorem aR.plain {I:Im}:∀ (τ:Ty) (x:τ.D) (cs:List Value),aR I τ x cs→∀ v ∈ cs,lZ v=true
 | .int _,_,_,h=>by simp only [aR] at h;subst h;intro v hv;simp at hv;subst hv;rfl
 | .bool,_,_,h=>by simp only [aR] at h;subst h;intro v hv;simp at hv;subst hv;rfl
 | .str,_,_,h=>by simp only [aR] at h;subst h;intro v hv;simp at hv;subst hv;rfl
 | .slc e,xs,cs,⟨a,len,cap,h1,_⟩=>by subst h1;intro v hv;simp at hv;subst hv;rfl
 | .arr n e,xs,cs,⟨h1,h2⟩=>bC.all (fun x c=>aR.plain e x c) _ _ h2
 | .pair a b,x,cs,⟨c1,c2,h,h1,h2⟩=>by
  intro v hv
  rw [h,List.mem_append] at hv
  rcases hv with hv | hv
  ·exact aR.plain a _ _ h1 v hv
  ·exact aR.plain b _ _ h2 v hv
 | .map _ _,_,_,h=>by simp only [aR] at h;subst h;intro v hv;cases hv
 | .box _,_,_,h=>by obtain ⟨_,h⟩:=h;subst h;intro v hv;simp at hv;subst hv;rfl

structure Gh where
 I:Im
 O:Nat→Nat→Option Nat
 ρ:Nat→Nat × Nat

def cn:List Step→Nat
 | []=>0
 | .l::p=>cn p
 | .r o::p=>o+cn p
 | .ix _ sz i::p=>i * sz+cn p
 | .el sz i::p=>i.toNat * sz+cn p
def cM:List Step→Prop
 | []=>True
 | .ix n _ i::p=>i<n∧cM p
 | _::p=>cM p
def Gh.addr (G:Gh) (k:Nat) (p:List Step):Addr:=⟨(G.ρ k).1,(G.ρ k).2+cn p,none⟩
def xE (G:Gh) (w:World) (g n m:Nat):Prop :=
 (∃ cells t,w.heap[g]? = some (.cells cells t (0,0))∧cells.size=m)∧(∀ o,n≤o→G.I g o=none)∧∀ o,G.O g o=none
def il (G:Gh) (w:World) (e:Ty) (xs:List e.D) (cs:List Value) (ts:List Nat):Prop :=
 ∃ a len cap,cs=[.slice a len cap]∧xs.length=len∧(len≤cap∧cap≤9223372036854775807) ∧
  ((cap=0∧ts=[])∨∃ g,a=some ⟨g,0,none⟩∧ts=[g]∧d8 G.I e.cells (aR G.I e) g 0 xs∧xE G w g (len * e.cells) (cap * e.cells))
def dC (agg:Bool) (cs:List Value) (v:Value):Prop:=if agg then v = .agg cs.toArray else cs=[v]∧lZ v=true
def dB (G:Gh):List (Nat × List Step)→List Value→Prop
 | [],vs=>vs=[]
 | (k,p)::r,vs=>∃ u us,vs=u::us∧u = .pointer (some (G.addr k p))∧cM p∧dB G r us
def Cf (I:Im) (w:World) (g:Nat) (e:Ty) (xs:List e.D) (m:Nat):Prop :=
 ∃ cells t cc,w.heap[g]? = some (.cells cells t (0,0))∧cells.size=m∧bC (aR I e) xs cc∧∀ (j:Nat) (v:Value),cc[j]? = some v→cells[j]? = some v
def iV (G:Gh) (w:World) (e:Ty) (xs:List e.D) (cs:List Value) (ts:List Nat):Prop :=
 ∃ a len cap,cs=[.slice a len cap]∧xs.length=len∧(len≤cap∧cap≤9223372036854775807) ∧
  ((cap=0∧ts=[])∨∃ g,a=some ⟨g,0,none⟩∧ts=[g]∧Cf G.I w g e xs (cap * e.cells)∧(∀ o,G.I g o=none)∧∀ o,G.O g o=none)
def fm (w:World) (b o:Nat) (cs:List Value):Prop:=∀ j v,cs[j]? = some v→w.cell? ⟨b,o+j,none⟩=some v
def cI (G:Gh) (w:World):(τ:Ty)→τ.D→List Value→List Nat→Prop
 | .box τ,o,cs,ts=>match o with
  | none=>cs=[.pointer none]∧ts=[]
  | some x=>∃ g off c ts',cs=[.pointer (some ⟨g,off,none⟩)]∧ts=g::ts'∧fm w g off c∧(∀ j,j<τ.cells→w.frozen? ⟨g,off+j,none⟩=false)∧(∀ q,G.I g q=none)∧(∀ q,G.O g q=none)∧0<τ.cells∧cI G w τ x c ts'
 | .pair a b,x,cs,ts=>∃ c1 c2 t1 t2,cs=c1++c2∧ts=t1++t2∧cI G w a x.1 c1 t1∧cI G w b x.2 c2 t2
 | .int k,x,cs,ts=>aR G.I (.int k) x cs∧ts=[]
 | .bool,x,cs,ts=>aR G.I .bool x cs∧ts=[]
 | .str,x,cs,ts=>aR G.I .str x cs∧ts=[]
 | .slc e,x,cs,ts=>aR G.I (.slc e) x cs∧ts=[]
 | .arr n e,x,cs,ts=>aR G.I (.arr n e) x cs∧ts=[]
 | .map a b,x,cs,ts=>aR G.I (.map a b) x cs∧ts=[]
def b8 (G:Gh) (w:World):V→List Value→List Nat→Prop
 | .dat τ x,cs,ts=>aR G.I τ x cs∧ts=[]
 | .own e xs,cs,ts=>il G w e xs cs ts
 | .pr a b,cs,ts=>∃ c1 c2 t1 t2,cs=c1++c2∧ts=t1++t2∧b8 G w a c1 t1∧b8 G w b c2 t2
 | .ref k p,cs,ts=>cs=[.pointer (some (G.addr k p))]∧cM p∧ts=[]
 | .nilp,cs,ts=>cs=[.pointer none]∧ts=[]
 | .ip τ x,cs,ts=>∃ b o c,cs=[.pointer (some ⟨b,o,none⟩)]∧aR G.I τ x c∧ym G.I b o c∧ts=[]
 | .fn f caps,cs,ts=>∃ vs,cs=[.func (.func f) #[] vs]∧dB G caps vs.toList∧ts=[]
 | .bnd f caps,cs,ts=>∃ vs,cs=[.func (.func f) vs #[]]∧dB G caps vs.toList∧ts=[]
 | .tup2 a b,cs,ts=>∃ va vb ca cb t1 t2,cs=[.tuple #[va,vb]]∧ts=t1++t2∧b8 G w a ca t1∧dC a.agg ca va∧b8 G w b cb t2∧dC b.agg cb vb
 | .tup3 a b d,cs,ts=>∃ va vb vd ca cb cd t1 t2 t3,cs=[.tuple #[va,vb,vd]]∧ts=t1++(t2++t3)∧b8 G w a ca t1∧dC a.agg ca va∧b8 G w b cb t2∧dC b.agg cb vb∧b8 G w d cd t3∧dC d.agg cd vd
 | .lent _,_,_=>False
 | .unit,cs,ts=>cs=[.tuple #[]]∧ts=[]
 | .raw e xs,cs,ts=>iV G w e xs cs ts
 | .any,cs,ts=>(∃ x,cs=[x]∧lZ x=true)∧ts=[]
 | .mref k,cs,ts=>cs=[.map (some (G.ρ k).1)]∧ts=[]
 | .vref k _ n,cs,ts=>(∃ a cap,cs=[.slice a n.toNat cap]∧(n.toNat≤cap∧0≤n)∧(n=0∨a=some ⟨(G.ρ k).1,(G.ρ k).2,none⟩))∧ts=[]
 | .vec k e xs,cs,ts=>cs=[]∧∃ a len cap,iV G w e xs [.slice a len cap] ts∧(xs=[]∨(a=some ⟨(G.ρ k).1,0,none⟩∧(G.ρ k).2=0))
 | .gone,cs,ts=>cs=[]∧ts=[]
 | .box τ o,cs,ts=>cI G w (.box τ) o cs ts
 | .view k p n e l h,cs,ts=>cs=[.slice (some (if n=l.toNat then G.addr k p else G.addr k (p++[.ix n e.cells l.toNat]))) (h.toNat - l.toNat) (n - l.toNat)]∧cM p∧(0≤l∧l≤h∧h≤(n:Int))∧ts=[]
def aY (G:Gh) (w:World) (v:V) (x:Value) (ts:List Nat):Prop :=
 ∃ cs,b8 G w v cs ts∧(if v.agg then x = .agg cs.toArray else cs=[x])
def aL (G:Gh) (w:World) (tmps:Array Value):List (Nat × V)→List Nat→Prop
 | [],ts=>ts=[]
 | (t,v)::r,ts=>match v with
  | .lent u=>tmps.getD t undef=tmps.getD u undef∧aL G w tmps r ts
  | v=>∃ t1 t2,ts=t1++t2∧aY G w v (tmps.getD t undef) t1∧aL G w tmps r t2
def u4 (I:Im) (k e:Ty) (p:k.D × e.D) (m:MapEntry):Prop:=(∃ ck,aR I k p.1 ck∧dC k.agg ck m.key)∧∃ ce,aR I e p.2 ce∧dC e.agg ce m.val
def cX (I:Im) (k e:Ty):List (k.D × e.D)→List MapEntry→Prop
 | [],l=>l=[]
 | p::r,l=>∃ m l',l=m::l'∧u4 I k e p m∧cX I k e r l'
theorem cX.mono {I J:Im} (hl:I.le J) {k e:Ty}:∀ (es:List (k.D × e.D)) (l:List MapEntry),cX I k e es l→cX J k e es l
 | [],_,h=>h
 | _::r,_,⟨m,l',h1,⟨⟨ck,a,b⟩,ce,c,d⟩,h3⟩=>⟨m,l',h1,⟨⟨ck,aR.mono hl _ _ _ a,b⟩,ce,aR.mono hl _ _ _ c,d⟩,cX.mono hl r l' h3⟩
def bH (G:Gh) (w:World) (k:Nat):V→Prop
 | .dat (.map a b) es=>(G.ρ k).2=0∧G.O (G.ρ k).1 0=some k∧∃ ents clock,w.heap[(G.ρ k).1]? = some (.map ents clock)∧cX G.I a b es ents.toList
 | _=>True
def CJ (G:Gh) (w:World) (k:Nat) (n:Nat):Prop:=∀ j,j<n→G.O (G.ρ k).1 ((G.ρ k).2+j)=some k∧w.frozen? ⟨(G.ρ k).1,(G.ρ k).2+j,none⟩=false
def ky (G:Gh) (w:World) (k:Nat) (v:V):Prop:=CJ G w k v.cells∧bH G w k v
def aM (G:Gh) (w:World):List (Nat × V)→List Nat→Prop
 | [],ts=>ts=[]
 | (k,v)::r,ts=>∃ t1 t2 cs,ts=t1++t2∧b8 G w v cs t1∧fm w (G.ρ k).1 (G.ρ k).2 cs∧ky G w k v∧aM G w r t2

def iT (X:Nat→Prop) (o o':Option Obj):Prop :=
 o'=o∨(∃ c c' t fr,o=some (.cells c t fr)∧o'=some (.cells c' t fr)∧c'.size=c.size∧∀ j,¬ X j→c'[j]? = c[j]?)∨∃ m c m' c',o=some (.map m c)∧o'=some (.map m' c')∧X 0
class MonoC where
 on:Prop
 tab:Im→Prop
 mono:∀ I J,Im.le I J→tab I→tab J
@[reducible] def MonoC.just (p:Prop):MonoC:=⟨p,fun _=>True,fun _ _ _ _=>trivial⟩
variable [MonoC]
structure Evo (X:Nat→Nat→Prop) (w w':World):Prop where
 os:w'.os=w.os
 tape:w'.tape=w.tape
 output:w'.output=w.output
 size:w.heap.size≤w'.heap.size
 block:∀ b,b<w.heap.size→iT (X b) w.heap[b]? w'.heap[b]?
 drawn:MonoC.on→w.drawn≤w'.drawn
structure Ev (Y:Nat→Nat→Prop) (G:Gh) (w:World) (G':Gh) (w':World):Prop where
 evo:Evo Y w w'
 le:G.I.le G'.I
 grow:∀ b o v,G'.I b o=some v→G.I b o=some v∨w.heap.size≤b∨Y b o
 own:∀ b o,b<w.heap.size→G'.O b o=G.O b o

theorem iT.refl (X:Nat→Prop) (o:Option Obj):iT X o o:=.inl rfl
theorem iT.mono {X Y:Nat→Prop} {o o':Option Obj} (h:iT X o o') (k:∀ j,X j→Y j):iT Y o o' :=
 h.imp id fun h=>h.imp (fun ⟨c,c',t,fr,a,b,d,e⟩=>⟨c,c',t,fr,a,b,d,fun j hj=>e j fun hx=>hj (k j hx)⟩) fun ⟨m,c,m',c',a,b,d⟩=>⟨m,c,m',c',a,b,k 0 d⟩
theorem iT.trans {X:Nat→Prop} {a b c:Option Obj} (h:iT X a b) (k:iT X b c):iT X a c:=by
 rcases h with rfl | ⟨c1,c2,t,fr,rfl,rfl,hs,hc⟩ | ⟨m1,k1,m2,k2,rfl,rfl,hx⟩
 ·exact k
 ·rcases k with rfl | ⟨d1,d2,t',fr',hd,rfl,hs',hc'⟩ | ⟨m1,k1,m2,k2,hd,_⟩
  ·exact .inr (.inl ⟨c1,c2,t,fr,rfl,rfl,hs,hc⟩)
  ·injection hd with hd;injection hd with h1 h2 h3;subst h1;subst h2;subst h3
   exact .inr (.inl ⟨c1,d2,t,fr,rfl,rfl,hs'.trans hs,fun j hj=>(hc' j hj).trans (hc j hj)⟩)
  ·injection hd with hd;cases hd
 ·rcases k with rfl | ⟨d1,d2,t',fr',hd,_⟩ | ⟨m3,k3,m4,k4,hd,rfl,_⟩
  ·exact .inr (.inr ⟨m1,k1,m2,k2,rfl,rfl,hx⟩)
  ·injection hd with hd;cases hd
  ·exact .inr (.inr ⟨m1,k1,m4,k4,rfl,rfl,hx⟩)
theorem Evo.refl (X:Nat→Nat→Prop) (w:World):Evo X w w:=⟨rfl,rfl,rfl,Nat.le_refl _,fun _ _=>.inl rfl,fun _=>Nat.le_refl _⟩
theorem Evo.trans {X Y Z:Nat→Nat→Prop} {a b c:World} (h:Evo X a b) (k:Evo Y b c) (hx:∀ i o,i<a.heap.size→X i o→Z i o) (hy:∀ i o,i<a.heap.size→Y i o→Z i o):Evo Z a c :=
 ⟨k.os.trans h.os,k.tape.trans h.tape,k.output.trans h.output,Nat.le_trans h.size k.size,fun i hi =>
  ((h.block i hi).mono fun j=>hx i j hi).trans ((k.block i (Nat.lt_of_lt_of_le hi h.size)).mono fun j=>hy i j hi),fun o=>Nat.le_trans (h.drawn o) (k.drawn o)⟩
theorem Evo.alloc (X:Nat→Nat→Prop) (w:World) (o:Obj):Evo X w (w.alloc o) :=
 ⟨rfl,rfl,rfl,by simp,fun b hb=>.inl (RowKit.Below.heap_alloc w o b hb),fun _=>Nat.le_refl _⟩
theorem Evo.drew (X:Nat→Nat→Prop) (w:World):Evo X w w.drew:=⟨rfl,rfl,rfl,Nat.le_refl _,fun _ _=>.inl rfl,fun _=>Nat.le_succ _⟩
theorem Evo.setCell {X:Nat→Nat→Prop} (w:World) (b o:Nat) (v:Value) (hX:X b o):Evo X w (w.setCell ⟨b,o,none⟩ v):=by
 refine ⟨rfl,rfl,rfl,by simp,fun i hi=>?_,fun _=>Nat.le_refl _⟩
 by_cases e:i=b
 ·subst e
  simp only [World.setCell,Array.getElem?_modify,if_true]
  cases hh:w.heap[i]? with
  | none=>exact .inl rfl
  | some ob =>
   cases ob with
   | cells c t fr =>
    refine .inr (.inl ⟨c,c.setIfInBounds o v,t,fr,rfl,by simp,by simp,fun j hj=>?_⟩)
    have:o ≠ j:=fun e=>hj (e ▸ hX)
    simp [Array.getElem?_setIfInBounds,this]
   | _=>exact .inl rfl
 ·exact .inl (RowKit.Below.heap_setCell w _ v i e)
theorem Evo.cell {X:Nat→Nat→Prop} {w w':World} (h:Evo X w w') {b o:Nat} (hb:b<w.heap.size) (hX:¬ X b o):w'.cell? ⟨b,o,none⟩=w.cell? ⟨b,o,none⟩:=by
 rcases h.block b hb with e | ⟨c,c',t,fr,e1,e2,_,hc⟩ | ⟨m,c,m',c',e1,e2,_⟩
 ·simp only [World.cell?,e]
 ·simp only [World.cell?,e1,e2];simp [hc o hX]
 ·simp only [World.cell?,e1,e2]
theorem Evo.frozen {X:Nat→Nat→Prop} {w w':World} (h:Evo X w w') {a:Addr} (hb:a.block<w.heap.size):w'.frozen? a=w.frozen? a:=by
 rcases h.block a.block hb with e | ⟨c,c',t,fr,e1,e2,_,hc⟩ | ⟨m,c,m',c',e1,e2,_⟩
 ·simp only [World.frozen?,e]
 ·simp only [World.frozen?,e1,e2]
 ·simp only [World.frozen?,e1,e2]
theorem xE.ev {Y:Nat→Nat→Prop} {G G':Gh} {w w':World} {g n m:Nat} (hE:Ev Y G w G' w') (hY:∀ o,¬ Y g o) (h:xE G w g n m):xE G' w' g n m:=by
 obtain ⟨⟨cells,t,hg,hs⟩,hI,hO⟩:=h
 have hlt:g<w.heap.size:=(Array.getElem?_eq_some_iff.1 hg).1
 refine ⟨?_,fun o ho=>?_,fun o=>(hE.own g o hlt).trans (hO o)⟩
 ·rcases hE.evo.block g hlt with e | ⟨c,c',t',fr,e1,e2,hs',_⟩ | ⟨m1,k1,m2,k2,e1,e2,_⟩
  ·exact ⟨cells,t,e.trans hg,hs⟩
  ·rw [hg] at e1
   injection e1 with e1;injection e1 with h1 h2 h3;subst h1;subst h2;subst h3
   exact ⟨c',t,e2,hs'.trans hs⟩
  ·rw [hg] at e1;injection e1 with e1;cases e1
 ·cases hv:G'.I g o with
  | none=>rfl
  | some v =>
   rcases hE.grow g o v hv with h1 | h1 | h1
   ·rw [hI o ho] at h1;cases h1
   ·omega
   ·exact absurd h1 (hY o)
theorem d8.mono {α:Type} {I J:Im} {sz:Nat} {R R':α→List Value→Prop} {b o:Nat} {xs:List α} (hl:I.le J) (hR:∀ x c,R x c→R' x c) (h:d8 I sz R b o xs):d8 J sz R' b o xs:=by
 intro i x hx
 obtain ⟨c,hc,hat⟩:=h i x hx
 exact ⟨c,hR x c hc,hat.mono hl⟩
theorem il.ev {Y:Nat→Nat→Prop} {G G':Gh} {w w':World} {e:Ty} {xs:List e.D} {cs:List Value} {ts:List Nat} (hE:Ev Y G w G' w') (hY:∀ g ∈ ts,∀ o,¬ Y g o)
  (h:il G w e xs cs ts):il G' w' e xs cs ts:=by
 obtain ⟨a,len,cap,h1,h2,h3,h4⟩:=h
 refine ⟨a,len,cap,h1,h2,h3,h4.imp id ?_⟩
 rintro ⟨g,ha,rfl,hel,hob⟩
 exact ⟨g,ha,rfl,hel.mono hE.le (fun x c=>aR.mono hE.le e x c),hob.ev hE (hY g (by simp))⟩
theorem iV.ev {Y:Nat→Nat→Prop} {G G':Gh} {w w':World} {e:Ty} {xs:List e.D} {cs:List Value} {ts:List Nat} (hE:Ev Y G w G' w') (hY:∀ g ∈ ts,∀ o,¬ Y g o) (h:iV G w e xs cs ts):iV G' w' e xs cs ts:=by
 obtain ⟨a,len,cap,h1,h2,h3,h4⟩:=h
 refine ⟨a,len,cap,h1,h2,h3,h4.imp id ?_⟩
 rintro ⟨g,ha,rfl,⟨cells,t,cc,hg,hs,hA,hc⟩,hI,hO⟩
 replace hA:=bC.mono (fun x c=>aR.mono hE.le e x c) _ _ hA
 have hlt:g<w.heap.size:=(Array.getElem?_eq_some_iff.1 hg).1
 have hY':=hY g (by simp)
 refine ⟨g,ha,rfl,?_,fun o=>?_,fun o=>(hE.own g o hlt).trans (hO o)⟩
 ·rcases hE.evo.block g hlt with e | ⟨c,c',t',fr,e1,e2,hs',hcc⟩ | ⟨m1,k1,m2,k2,e1,e2,_⟩
  ·exact ⟨cells,t,cc,e.trans hg,hs,hA,hc⟩
  ·rw [hg] at e1
   injection e1 with e1;injection e1 with h1 h2 h3;subst h1;subst h2;subst h3
   exact ⟨c',t,cc,e2,hs'.trans hs,hA,fun j v hj=>by rw [hcc j (hY' j)];exact hc j v hj⟩
  ·rw [hg] at e1;injection e1 with e1;cases e1
 ·cases hv:G'.I g o with
  | none=>rfl
  | some v =>
   rcases hE.grow g o v hv with h1 | h1 | h1
   ·rw [hI o] at h1;cases h1
   ·omega
   ·exact absurd h1 (hY' o)
theorem cI.length {G:Gh} {w:World}:∀ (τ:Ty) (x:τ.D) (cs:List Value) (ts:List Nat),cI G w τ x cs ts→cs.length=τ.cells
 | .box τ,o,cs,ts,h=>by
  cases o with
  | none=>obtain ⟨h,_⟩:=h;rw [h];rfl
  | some x=>obtain ⟨_,_,_,_,h,_⟩:=h;rw [h];rfl
 | .pair a b,x,cs,ts,⟨c1,c2,t1,t2,h,_,h1,h2⟩=>by rw [h,List.length_append,cI.length a _ _ _ h1,cI.length b _ _ _ h2];rfl
 | .int k,x,cs,ts,⟨h,_⟩=>aR.length _ _ _ h
 | .bool,x,cs,ts,⟨h,_⟩=>aR.length _ _ _ h
 | .str,x,cs,ts,⟨h,_⟩=>aR.length _ _ _ h
 | .slc e,x,cs,ts,⟨h,_⟩=>aR.length _ _ _ h
 | .arr n e,x,cs,ts,⟨h,_⟩=>aR.length _ _ _ h
 | .map a b,x,cs,ts,⟨h,_⟩=>aR.length _ _ _ h
theorem fm.lt {w:World} {b o:Nat} {cs:List Value} (h:fm w b o cs) (hl:0<cs.length):b<w.heap.size :=
 World.block_lt_of_cell? w _ (h 0 _ (List.getElem?_eq_getElem hl))
theorem cI.ev {Y:Nat→Nat→Prop} {G G':Gh} {w w':World} (hE:Ev Y G w G' w'):∀ (τ:Ty) (x:τ.D) (cs:List Value) (ts:List Nat),(∀ g ∈ ts,∀ o,¬ Y g o)→cI G w τ x cs ts→cI G' w' τ x cs ts
 | .box τ,o,cs,ts,hY,h=>by
  cases o with
  | none=>exact h
  | some x =>
   obtain ⟨g,off,c,ts',h1,rfl,h3,h4,h5,h6,h7,h8⟩:=h
   have hlt:g<w.heap.size:=h3.lt (by rw [cI.length τ x c ts' h8];exact h7)
   have hYg:=hY g (by simp)
   refine ⟨g,off,c,ts',h1,rfl,fun j v hj=>?_,fun j hj=>(hE.evo.frozen hlt).trans (h4 j hj),fun q=>?_,fun q=>(hE.own g q hlt).trans (h6 q),h7,cI.ev hE τ x c ts' (fun g' hg=>hY g' (by simp [hg])) h8⟩
   ·rw [hE.evo.cell hlt (hYg _)];exact h3 j v hj
   ·cases hv:G'.I g q with
    | none=>rfl
    | some v =>
     rcases hE.grow g q v hv with k1 | k1 | k1
     ·rw [h5 q] at k1;cases k1
     ·omega
     ·exact absurd k1 (hYg q)
 | .pair a b,x,cs,ts,hY,⟨c1,c2,t1,t2,h,ht,h1,h2⟩ =>
  ⟨c1,c2,t1,t2,h,ht,cI.ev hE a _ _ _ (fun g hg=>hY g (by rw [ht];simp [hg])) h1,cI.ev hE b _ _ _ (fun g hg=>hY g (by rw [ht];simp [hg])) h2⟩
 | .int k,x,cs,ts,_,⟨h,e⟩=>⟨aR.mono hE.le _ _ _ h,e⟩
 | .bool,x,cs,ts,_,⟨h,e⟩=>⟨aR.mono hE.le _ _ _ h,e⟩
 | .str,x,cs,ts,_,⟨h,e⟩=>⟨aR.mono hE.le _ _ _ h,e⟩
 | .slc e,x,cs,ts,_,⟨h,e'⟩=>⟨aR.mono hE.le _ _ _ h,e'⟩
 | .arr n e,x,cs,ts,_,⟨h,e'⟩=>⟨aR.mono hE.le _ _ _ h,e'⟩
 | .map a b,x,cs,ts,_,⟨h,e⟩=>⟨aR.mono hE.le _ _ _ h,e⟩
theorem dB.ev {G G':Gh}:∀ (caps:List (Nat × List Step)) (vs:List Value),(∀ k ∈ caps.map (·.1),G'.ρ k=G.ρ k)→dB G caps vs→dB G' caps vs
 | [],_,_,h=>h
 | (k,p)::r,vs,hk,⟨u,us,h1,h2,h3,h4⟩=>⟨u,us,h1,by rw [h2,Gh.addr,Gh.addr,hk k (by simp)],h3,dB.ev r us (fun x hx=>hk x (by simp at hx ⊢;exact .inr hx)) h4⟩
theorem b8.ev {Y:Nat→Nat→Prop} {G G':Gh} {w w':World} (hE:Ev Y G w G' w'):∀ (v:V) (cs:List Value) (ts:List Nat),(∀ k ∈ v.refs,G'.ρ k=G.ρ k)→(∀ g ∈ ts,∀ o,¬ Y g o)→b8 G w v cs ts→b8 G' w' v cs ts
 | .dat τ x,cs,ts,_,_,⟨h,e⟩=>⟨aR.mono hE.le τ x cs h,e⟩
 | .own e xs,cs,ts,_,hY,h=>il.ev hE hY h
 | .pr a b,cs,ts,hk,hY,⟨c1,c2,t1,t2,h1,h2,h3,h4⟩ =>
  ⟨c1,c2,t1,t2,h1,h2,b8.ev hE a c1 t1 (fun k h=>hk k (by simp [V.refs,h])) (fun g h=>hY g (by simp [h2,h])) h3,b8.ev hE b c2 t2 (fun k h=>hk k (by simp [V.refs,h])) (fun g h=>hY g (by simp [h2,h])) h4⟩
 | .ref k p,cs,ts,hk,_,⟨h1,h2,h3⟩=>⟨by rw [h1,Gh.addr,Gh.addr,hk k (by simp [V.refs])],h2,h3⟩
 | .nilp,cs,ts,_,_,h=>h
 | .ip τ x,cs,ts,_,_,⟨b,o,c,h1,h2,h3,h4⟩=>⟨b,o,c,h1,aR.mono hE.le τ x c h2,h3.mono hE.le,h4⟩
 | .fn f caps,cs,ts,hk,_,⟨vs,h1,h2,h3⟩=>⟨vs,h1,dB.ev caps _ (fun k h=>hk k (by simpa [V.refs] using h)) h2,h3⟩
 | .bnd f caps,cs,ts,hk,_,⟨vs,h1,h2,h3⟩=>⟨vs,h1,dB.ev caps _ (fun k h=>hk k (by simpa [V.refs] using h)) h2,h3⟩
 | .tup2 a b,cs,ts,hk,hY,⟨va,vb,ca,cb,t1,t2,h1,h2,h3,h4,h5,h6⟩ =>
  ⟨va,vb,ca,cb,t1,t2,h1,h2,b8.ev hE a ca t1 (fun k h=>hk k (by simp [V.refs,h])) (fun g h=>hY g (by simp [h2,h])) h3,h4,b8.ev hE b cb t2 (fun k h=>hk k (by simp [V.refs,h])) (fun g h=>hY g (by simp [h2,h])) h5,h6⟩
 | .tup3 a b d,cs,ts,hk,hY,⟨va,vb,vd,ca,cb,cd,t1,t2,t3,h1,h2,h3,h4,h5,h6,h7,h8⟩ =>
  ⟨va,vb,vd,ca,cb,cd,t1,t2,t3,h1,h2,b8.ev hE a ca t1 (fun k h=>hk k (by simp [V.refs,h])) (fun g h=>hY g (by simp [h2,h])) h3,h4,b8.ev hE b cb t2 (fun k h=>hk k (by simp [V.refs,h])) (fun g h=>hY g (by simp [h2,h])) h5,h6,
   b8.ev hE d cd t3 (fun k h=>hk k (by simp [V.refs,h])) (fun g h=>hY g (by simp [h2,h])) h7,h8⟩
 | .lent _,_,_,_,_,h=>h
 | .unit,cs,ts,_,_,h=>h
 | .raw e xs,cs,ts,_,hY,h=>iV.ev hE hY h
 | .any,cs,ts,_,_,h=>h
 | .mref k,cs,ts,hk,_,⟨h1,h2⟩=>⟨by rw [h1,hk k (by simp [V.refs])],h2⟩
 | .vref k e n,cs,ts,hk,_,⟨h1,h2⟩=>⟨by rw [hk k (by simp [V.refs])];exact h1,h2⟩
 | .vec k e xs,cs,ts,hk,hY,⟨h1,a,len,cap,h2,h3⟩=>⟨h1,a,len,cap,iV.ev hE hY h2,by rw [hk k (by simp [V.refs])];exact h3⟩
 | .gone,cs,ts,_,_,h=>h
 | .box τ o,cs,ts,_,hY,h=>cI.ev hE (.box τ) o cs ts hY h
 | .view k p n e l h,cs,ts,hk,_,⟨h1,h2,h3⟩=>⟨by rw [h1,Gh.addr,Gh.addr,Gh.addr,Gh.addr,hk k (by simp [V.refs])],h2,h3⟩
theorem aY.ev {Y:Nat→Nat→Prop} {G G':Gh} {w w':World} (hE:Ev Y G w G' w') {v:V} {x:Value} {ts:List Nat} (hk:∀ k ∈ v.refs,G'.ρ k=G.ρ k) (hY:∀ g ∈ ts,∀ o,¬ Y g o) (h:aY G w v x ts):aY G' w' v x ts:=by
 obtain ⟨cs,h1,h2⟩:=h
 exact ⟨cs,h1.ev hE v cs ts hk hY,h2⟩
def bh:List (Nat × V)→List Nat
 | []=>[]
 | (_,v)::r=>v.refs++bh r
theorem aL.ev {Y:Nat→Nat→Prop} {G G':Gh} {w w':World} {tmps:Array Value} (hE:Ev Y G w G' w'):∀ (env:List (Nat × V)) (ts:List Nat),(∀ k ∈ bh env,G'.ρ k=G.ρ k)→(∀ g ∈ ts,∀ o,¬ Y g o) →
  aL G w tmps env ts→aL G' w' tmps env ts
 | [],_,_,_,h=>h
 | (t,v)::r,ts,hk,hY,h=>by
  have hk1:∀ k ∈ v.refs,G'.ρ k=G.ρ k:=fun k h=>hk k (by simp [bh,h])
  have hk2:∀ k ∈ bh r,G'.ρ k=G.ρ k:=fun k h=>hk k (by simp [bh,h])
  have key:∀ t1 t2,ts=t1++t2→aY G w v (tmps.getD t undef) t1→aL G w tmps r t2→∃ t1 t2,ts=t1++t2∧aY G' w' v (tmps.getD t undef) t1∧aL G' w' tmps r t2:=by
   rintro t1 t2 rfl h1 h2
   exact ⟨t1,t2,rfl,h1.ev hE hk1 (fun g h=>hY g (by simp [h])),aL.ev hE r t2 hk2 (fun g h=>hY g (by simp [h])) h2⟩
  cases v with
  | lent u=>exact ⟨h.1,aL.ev hE r ts hk2 hY h.2⟩
  | _=>obtain ⟨t1,t2,e,h1,h2⟩:=h;exact key t1 t2 e h1 h2
theorem b8.length {G:Gh} {w:World}:∀ (v:V) (cs:List Value) (ts:List Nat),b8 G w v cs ts→cs.length=v.cells
 | .dat τ x,cs,ts,⟨h,_⟩=>aR.length τ x cs h
 | .own e xs,cs,ts,⟨a,len,cap,h,_⟩=>by simp [h,V.cells]
 | .pr a b,cs,ts,⟨c1,c2,t1,t2,h1,h2,h3,h4⟩=>by rw [h1,List.length_append,b8.length a _ _ h3,b8.length b _ _ h4];rfl
 | .ref k p,cs,ts,⟨h,_⟩=>by simp [h,V.cells]
 | .nilp,cs,ts,⟨h,_⟩=>by simp [h,V.cells]
 | .ip τ x,cs,ts,⟨b,o,c,h,_⟩=>by simp [h,V.cells]
 | .fn f caps,cs,ts,⟨vs,h,_⟩=>by simp [h,V.cells]
 | .bnd f caps,cs,ts,⟨vs,h,_⟩=>by simp [h,V.cells]
 | .tup2 a b,cs,ts,⟨va,vb,ca,cb,t1,t2,h,_⟩=>by simp [h,V.cells]
 | .tup3 a b d,cs,ts,⟨va,vb,vd,ca,cb,cd,t1,t2,t3,h,_⟩=>by simp [h,V.cells]
 | .lent _,_,_,h=>h.elim
 | .unit,cs,ts,⟨h,_⟩=>by simp [h,V.cells]
 | .raw e xs,cs,ts,⟨a,len,cap,h,_⟩=>by simp [h,V.cells]
 | .any,cs,ts,⟨⟨x,h,_⟩,_⟩=>by simp [h,V.cells]
 | .view k p n e l h,cs,ts,⟨h1,_⟩=>by simp [h1,V.cells]
 | .mref k,cs,ts,⟨h1,_⟩=>by simp [h1,V.cells]
 | .vref k e n,cs,ts,⟨⟨_,_,h1,_⟩,_⟩=>by simp [h1,V.cells]
 | .vec k e xs,cs,ts,⟨h1,_⟩=>by simp [h1,V.cells]
 | .gone,cs,ts,⟨h1,_⟩=>by simp [h1,V.cells]
 | .box τ o,cs,ts,h=>cI.length (.box τ) o cs ts h
end Go.Proofs.YtfhcammihohmjaaGreatDoor.Pal
end
noncomputable section
/- The abstract run's state, and the machine's: what is iI from operation to operation. -/
namespace Go.Proofs.YtfhcammihohmjaaGreatDoor.Pal
open Go
variable [MonoC]

theorem bH.ev {Y:Nat→Nat→Prop} {G G':Gh} {w w':World} (hE:Ev Y G w G' w') {k:Nat} {v:V} (hρ:G'.ρ k=G.ρ k) (hO:∀ b o,G.O b o=some k→¬ Y b o) (h:bH G w k v):bH G' w' k v:=by
 unfold bH at h ⊢
 split
 ·obtain ⟨h1,h2,ents,clock,h3,h4⟩:=h
  have hlt:(G.ρ k).1<w.heap.size:=(Array.getElem?_eq_some_iff.1 h3).1
  rw [hρ]
  refine ⟨h1,(hE.own _ _ hlt).trans h2,ents,clock,?_,cX.mono hE.le _ _ h4⟩
  rcases hE.evo.block _ hlt with e | ⟨c,c',t,fr,e1,_⟩ | ⟨m,c,m',c',e1,e2,hx⟩
  ·exact e.trans h3
  ·rw [h3] at e1;injection e1 with e1;cases e1
  ·exact absurd hx (hO _ _ h2)
 ·trivial
theorem bH.swap {G G':Gh} {w:World} {k k':Nat} {v:V} (hI:∀ b o,G'.I b o=G.I b o) (hρ:G'.ρ k'=G.ρ k) (hO:G.O (G.ρ k).1 0=some k→G'.O (G.ρ k).1 0=some k') (h:bH G w k v):bH G' w k' v:=by
 unfold bH at h ⊢
 split
 ·obtain ⟨h1,h2,ents,clock,h3,h4⟩:=h
  rw [hρ]
  exact ⟨h1,hO h2,ents,clock,h3,cX.mono (fun b o v hv=>(hI b o).trans hv) _ _ h4⟩
 ·trivial
theorem bH.lt {G:Gh} {w:World} {k:Nat} {a b:Ty} {es:List (a.D × b.D)} (h:bH G w k (.dat (.map a b) es)):(G.ρ k).1<w.heap.size:=by
 obtain ⟨_,_,ents,clock,h3,_⟩:=h
 exact (Array.getElem?_eq_some_iff.1 h3).1
theorem bH.no {G:Gh} {w:World} {k:Nat} {v:V} (h:d7 v=false):bH G w k v:=by
 unfold bH
 split
 ·cases h
 ·trivial
theorem bH.of {G:Gh} {w:World} {k:Nat} {v u:V} (h:bH G w k v) (hu:d7 u=false):bH G w k u:=bH.no hu
theorem bH.copy {G:Gh} {w:World} {k:Nat} {v:V} (h:bH G w k v):bH G w k v.copy:=by
 cases v with
 | own e xs=>trivial
 | vec k e xs=>trivial
 | pr a b =>
  refine bH.no ?_
  show d7 (gP a.copy b.copy)=false
  unfold gP;split <;> rfl
 | box τ o=>cases o <;> trivial
 | _=>exact h
def cR {β:Type} (m:List (Nat × β)):List Nat:=m.map (·.1)
theorem aM.ev {Y:Nat→Nat→Prop} {G G':Gh} {w w':World} (hE:Ev Y G w G' w'):∀ (mem:List (Nat × V)) (ts:List Nat),(∀ k ∈ bh mem,G'.ρ k=G.ρ k)→(∀ k ∈ cR mem,G'.ρ k=G.ρ k) →
  (∀ g ∈ ts,∀ o,¬ Y g o)→(∀ k ∈ cR mem,∀ b o,G.O b o=some k→¬ Y b o)→aM G w mem ts→aM G' w' mem ts
 | [],_,_,_,_,_,h=>h
 | (k,v)::r,ts,hr,hk,hY,hO,⟨t1,t2,cs,e,h1,h2,h3,h4⟩=>by
  subst e
  have hl:=b8.length v cs t1 h1
  have hρ:G'.ρ k=G.ρ k:=hk k (by simp [cR])
  refine ⟨t1,t2,cs,rfl,h1.ev hE v cs t1 (fun x hx=>hr x (by simp [bh,hx])) (fun g hg=>hY g (by simp [hg])),?_,?_,
   aM.ev hE r t2 (fun x hx=>hr x (by simp [bh,hx])) (fun x hx=>hk x (by simp [cR] at hx ⊢;exact .inr hx)) (fun g hg=>hY g (by simp [hg])) (fun x hx=>hO x (by simp [cR] at hx ⊢;exact .inr hx)) h4⟩
  ·intro j v' hj
   rw [hρ]
   have hc:=h2 j v' hj
   have hlt:j<v.cells:=by rw [← hl];exact (List.getElem?_eq_some_iff.1 hj).1
   rw [hE.evo.cell (World.block_lt_of_cell? w _ hc) (hO k (by simp [cR]) _ _ (h3.1 j hlt).1)]
   exact hc
  ·refine ⟨fun j hj=>?_,h3.2.ev hE hρ (hO k (by simp [cR]))⟩
   rw [hρ]
   have hc:∃ u,cs[j]? = some u:=⟨_,List.getElem?_eq_getElem (by omega)⟩
   obtain ⟨u,hu⟩:=hc
   have hb:=World.block_lt_of_cell? w _ (h2 j u hu)
   exact ⟨(hE.own _ _ hb).trans (h3.1 j hj).1,(hE.evo.frozen hb).trans (h3.1 j hj).2⟩

structure Wf (G:Gh) (w:World):Prop where
 holds:∀ b o v,G.I b o=some v→w.cell? ⟨b,o,none⟩=some v
 io:∀ b o v,G.I b o=some v→G.O b o=none
 lt:∀ b o k,G.O b o=some k→b<w.heap.size
 whole:∀ b o k,G.O b o=some k→k<1000000→∀ q,G.O b q=some k
structure Ew (X:Nat→Nat→Prop) (G:Gh) (w:World) (G':Gh) (w':World):Prop where
 evo:Evo X w w'
 le:G.I.le G'.I
 grow:∀ b o v,G'.I b o=some v→G.I b o=some v∨w.heap.size≤b∨X b o
 own:∀ b o,b<w.heap.size→G'.O b o=G.O b o∨∃ d,(700000≤d∧d<1000000)∧G'.O b o=some d∧G.O b o=none
structure Base (X:Nat→Nat→Prop) (G0:Gh) (w0:World) (G:Gh) (w:World):Prop where
 ev:Ew X G0 w0 G w
 wf:Wf G w
 par:∀ j,G.ρ (1000000+j)=G0.ρ (1000000+j)
 xo:∀ b o k,b<w0.heap.size→G.O b o=some k→X b o
 tab:MonoC.tab G0.I
 nm:∀ b o k,G0.O b o=some k→1000000≤k
def bi (g:Nat) (l:List Nat):Nat:=l.count g
@[simp] theorem GG (g:Nat):bi g []=0:=rfl
@[simp] theorem bN (g:Nat) (a b:List Nat):bi g (a++b)=bi g a+bi g b:=by simp [bi]
theorem bb {g:Nat} {l:List Nat}:g ∈ l ↔ 0<bi g l:=by simp [bi,List.count_pos_iff]
def gk (X:Nat→Nat→Prop) (G0:Gh) (w0:World) (G:Gh) (s:St) (tmps:Array Value) (w:World) (v:V) (x:Value):Prop :=
 Base X G0 w0 G w∧∃ tE tM tV,aL G w tmps s.env tE∧aM G w s.mem tM∧aY G w v x tV∧(∀ g,bi g tE+bi g tM+bi g tV≤1) ∧
  ∀ g,0<bi g tE+bi g tM+bi g tV→w0.heap.size≤g∨∀ o,X g o
def RS (X:Nat→Nat→Prop) (G0:Gh) (w0:World) (G:Gh) (s:St) (tmps:Array Value) (w:World):Prop :=
 Base X G0 w0 G w∧∃ tE tM,aL G w tmps s.env tE∧aM G w s.mem tM∧(∀ g,bi g tE+bi g tM≤1) ∧
  ∀ g,0<bi g tE+bi g tM→w0.heap.size≤g∨∀ o,X g o

theorem bR (k:Nat) (v:V) (r:List (Nat × V)) (t:Nat):lk ((k,v)::r) t=if k=t then some v else lk r t:=by
 simp only [lk]
 by_cases h:k=t
 ·subst h;simp
 ·have:Nat.beq k t=false:=by rw [Bool.eq_false_iff];intro e;exact h (Nat.eq_of_beq_eq_true e)
  simp [h,this]
theorem dq (k:Nat) (v:V) (r:List (Nat × V)) (t:Nat):rm ((k,v)::r) t=if k=t then rm r t else (k,v)::rm r t:=by
 simp only [rm]
 by_cases h:k=t
 ·subst h;simp
 ·have:Nat.beq k t=false:=by rw [Bool.eq_false_iff];intro e;exact h (Nat.eq_of_beq_eq_true e)
  simp [h,this]
def cF:V→Prop
 | .lent _=>False
 | _=>True
theorem aL.cons {G:Gh} {w:World} {tmps:Array Value} {t:Nat} {v:V} {r:List (Nat × V)} {ts:List Nat} (hn:cF v) :
  aL G w tmps ((t,v)::r) ts ↔ ∃ t1 t2,ts=t1++t2∧aY G w v (tmps.getD t undef) t1∧aL G w tmps r t2:=by
 cases v <;> first | exact Iff.rfl | exact hn.elim
theorem aL.rm {G:Gh} {w:World} {tmps:Array Value} (t:Nat):∀ (env:List (Nat × V)) (ts:List Nat),aL G w tmps env ts→∃ t2,(∀ g,bi g t2≤bi g ts)∧aL G w tmps (rm env t) t2
 | [],ts,h=>⟨ts,fun _=>Nat.le_refl _,h⟩
 | (k,v)::r,ts,h=>by
  rw [dq]
  cases v with
  | lent u =>
   obtain ⟨t2,a,b⟩:=aL.rm t r ts h.2
   split
   ·exact ⟨t2,a,b⟩
   ·exact ⟨t2,a,h.1,b⟩
  | _ =>
   obtain ⟨s1,s2,rfl,h1,h2⟩:=h
   obtain ⟨t2,a,b⟩:=aL.rm t r s2 h2
   split
   ·exact ⟨t2,fun g=>by have:=a g;simp;omega,b⟩
   ·exact ⟨s1++t2,fun g=>by have:=a g;simp;omega,s1,t2,rfl,h1,b⟩
theorem aL.find {G:Gh} {w:World} {tmps:Array Value} (t:Nat):∀ (env:List (Nat × V)) (ts:List Nat) (v:V),aL G w tmps env ts→lk env t=some v→cF v →
  ∃ t1 t2,(∀ g,bi g t1+bi g t2≤bi g ts)∧aY G w v (tmps.getD t undef) t1∧aL G w tmps (Pal.rm env t) t2
 | [],_,_,_,h,_=>by simp [lk] at h
 | (k,u)::r,ts,v,h,hl,hn=>by
  rw [bR] at hl
  rw [dq]
  by_cases e:k=t
  ·rw [if_pos e] at hl ⊢
   injection hl with hl;subst hl;subst e
   obtain ⟨s1,s2,rfl,h1,h2⟩:=(aL.cons hn).1 h
   obtain ⟨t2,a,b⟩:=aL.rm k r s2 h2
   exact ⟨s1,t2,fun g=>by have:=a g;simp;omega,h1,b⟩
  ·rw [if_neg e] at hl ⊢
   cases u with
   | lent x =>
    obtain ⟨t1,t2,a,b,c⟩:=aL.find t r ts v h.2 hl hn
    exact ⟨t1,t2,a,b,h.1,c⟩
   | _ =>
    obtain ⟨s1,s2,rfl,h1,h2⟩:=h
    obtain ⟨t1,t2,a,b,c⟩:=aL.find t r s2 v h2 hl hn
    exact ⟨t1,s1++t2,fun g=>by have:=a g;simp;omega,b,s1,t2,rfl,h1,c⟩
theorem j0 {a:Array Value} {d:Nat} {x:Value} (h:d<a.size):(a.setIfInBounds d x).getD d undef=x:=by
 simp [Array.getD,h]
theorem fL {a:Array Value} {d t:Nat} {x:Value} (h:d ≠ t):(a.setIfInBounds d x).getD t undef=a.getD t undef:=by
 simp only [Array.getD_eq_getD_getElem?,Array.getElem?_setIfInBounds,h,if_false]
theorem aL.write {G:Gh} {w:World} {tmps:Array Value} (d:Nat) (x:Value):∀ (env:List (Nat × V)) (ts:List Nat),aL G w tmps env ts →
  ∃ t2,(∀ g,bi g t2≤bi g ts)∧aL G w (tmps.setIfInBounds d x) (B1 env d) t2
 | [],ts,h=>⟨ts,fun _=>Nat.le_refl _,h⟩
 | (k,v)::r,ts,h=>by
  cases v with
  | lent u =>
   obtain ⟨t2,a,b⟩:=aL.write d x r ts h.2
   simp only [B1]
   by_cases e:k=d
   ·subst e;simp;exact ⟨t2,a,b⟩
   ·by_cases e':u=d
    ·subst e';simp;exact ⟨t2,a,b⟩
    ·have h1:Nat.beq k d=false:=by rw [Bool.eq_false_iff];intro z;exact e (Nat.eq_of_beq_eq_true z)
     have h2:Nat.beq u d=false:=by rw [Bool.eq_false_iff];intro z;exact e' (Nat.eq_of_beq_eq_true z)
     simp only [h1,h2,Bool.or_false,cond_false]
     refine ⟨t2,a,?_,b⟩
     rw [fL (Ne.symm e),fL (Ne.symm e')]
     exact h.1
  | _ =>
   obtain ⟨s1,s2,rfl,h1,h2⟩:=h
   obtain ⟨t2,a,b⟩:=aL.write d x r s2 h2
   simp only [B1]
   by_cases e:k=d
   ·subst e;simp;exact ⟨t2,fun g=>by have:=a g;omega,b⟩
   ·have h3:Nat.beq k d=false:=by rw [Bool.eq_false_iff];intro z;exact e (Nat.eq_of_beq_eq_true z)
    simp only [h3,Bool.or_false,cond_false]
    refine ⟨s1++t2,fun g=>by have:=a g;simp;omega,s1,t2,rfl,?_,b⟩
    rw [fL (Ne.symm e)]
    exact h1
theorem aM.rm {G:Gh} {w:World} (t:Nat):∀ (mem:List (Nat × V)) (ts:List Nat),aM G w mem ts→∃ t2,(∀ g,bi g t2≤bi g ts)∧aM G w (rm mem t) t2
 | [],ts,h=>⟨ts,fun _=>Nat.le_refl _,h⟩
 | (k,v)::r,ts,⟨s1,s2,cs,e,h1,h2,h3,h4⟩=>by
  rw [dq]
  obtain ⟨t2,a,b⟩:=aM.rm t r s2 h4
  subst e
  split
  ·exact ⟨t2,fun g=>by have:=a g;simp;omega,b⟩
  ·exact ⟨s1++t2,fun g=>by have:=a g;simp;omega,s1,t2,cs,rfl,h1,h2,h3,b⟩
theorem aM.find {G:Gh} {w:World} (t:Nat):∀ (mem:List (Nat × V)) (ts:List Nat) (v:V),aM G w mem ts→lk mem t=some v →
  ∃ t1 t2 cs,(∀ g,bi g t1+bi g t2≤bi g ts)∧b8 G w v cs t1∧fm w (G.ρ t).1 (G.ρ t).2 cs∧ky G w t v∧aM G w (Pal.rm mem t) t2
 | [],_,_,_,h=>by simp [lk] at h
 | (k,u)::r,ts,v,⟨s1,s2,cs,e,h1,h2,h3,h4⟩,hl=>by
  rw [bR] at hl
  rw [dq]
  subst e
  by_cases e:k=t
  ·rw [if_pos e] at hl ⊢
   injection hl with hl;subst hl;subst e
   obtain ⟨t2,a,b⟩:=aM.rm k r s2 h4
   exact ⟨s1,t2,cs,fun g=>by have:=a g;simp;omega,h1,h2,h3,b⟩
  ·rw [if_neg e] at hl ⊢
   obtain ⟨t1,t2,cs',a,b,c,d,f⟩:=aM.find t r s2 v h4 hl
   exact ⟨t1,s1++t2,cs',fun g=>by have:=a g;simp;omega,b,c,d,s1,t2,cs,rfl,h1,h2,h3,f⟩
theorem fj (t:Nat):∀ (m:List (Nat × V)),∀ k ∈ cR (rm m t),k ∈ cR m∧k ≠ t
 | [],k,h=>by simp [rm,cR] at h
 | (q,v)::r,k,h=>by
  rw [dq] at h
  split at h
  ·have:=fj t r k h
   exact ⟨by simp [cR] at this ⊢;exact .inr this.1,this.2⟩
  ·rename_i hne
   simp only [cR,List.map_cons,List.mem_cons] at h ⊢
   rcases h with rfl | h
   ·exact ⟨.inl rfl,hne⟩
   ·have:=fj t r k h
    exact ⟨.inr this.1,this.2⟩

theorem dY {G:Gh} {w:World} {a b:V} {c1 c2:List Value} {t1 t2:List Nat} (h1:b8 G w a c1 t1) (h2:b8 G w b c2 t2):b8 G w (gP a b) (c1++c2) (t1++t2):=by
 unfold gP
 split
 ·obtain ⟨h1,rfl⟩:=h1
  obtain ⟨h2,rfl⟩:=h2
  exact ⟨⟨c1,c2,rfl,h1,h2⟩,rfl⟩
 ·exact ⟨c1,c2,t1,t2,rfl,rfl,h1,h2⟩
theorem iD (a b:V):(gP a b).agg=true:=by unfold gP;split <;> rfl
theorem iC:∀ v:V,v.copy.agg=v.agg
 | .pr a b=>by show (gP a.copy b.copy).agg=_;rw [iD];rfl
 | .own _ _=>rfl
 | .dat _ _=>rfl
 | .ref _ _=>rfl
 | .nilp=>rfl
 | .ip _ _=>rfl
 | .fn _ _=>rfl
 | .bnd _ _=>rfl
 | .tup2 _ _=>rfl
 | .tup3 _ _ _=>rfl
 | .lent _=>rfl
 | .unit=>rfl
 | .raw _ _=>rfl
 | .any=>rfl
 | .view _ _ _ _ _ _=>rfl
 | .mref _=>rfl
 | .vref _ _ _=>rfl
 | .vec _ _ _=>rfl
 | .gone=>rfl
 | .box _ o=>by cases o <;> rfl
theorem il.dat {G:Gh} {w:World} {e:Ty} {xs:List e.D} {cs:List Value} {ts:List Nat} (h:il G w e xs cs ts):aR G.I (.slc e) xs cs:=by
 obtain ⟨a,len,cap,h1,h2,h3,h4⟩:=h
 refine ⟨a,len,cap,h1,h2,h3.1,?_⟩
 rcases h4 with ⟨hc,_⟩ | ⟨g,ha,_,hel,_⟩
 ·exact .inl (List.length_eq_zero_iff.1 (by omega))
 ·exact .inr ⟨g,0,ha,hel⟩
theorem b8.copy {G:Gh} {w:World}:∀ (v:V) (cs:List Value) (ts:List Nat),b8 G w v cs ts→b8 G w v.copy cs []
 | .dat τ x,cs,ts,⟨h,_⟩=>⟨h,rfl⟩
 | .own e xs,cs,ts,h=>⟨il.dat h,rfl⟩
 | .pr a b,cs,ts,⟨c1,c2,t1,t2,h1,h2,h3,h4⟩=>by subst h1;exact dY (b8.copy a _ _ h3) (b8.copy b _ _ h4)
 | .ref k p,cs,ts,⟨h1,h2,_⟩=>⟨h1,h2,rfl⟩
 | .nilp,cs,ts,⟨h,_⟩=>⟨h,rfl⟩
 | .ip τ x,cs,ts,⟨b,o,c,h1,h2,h3,_⟩=>⟨b,o,c,h1,h2,h3,rfl⟩
 | .fn f caps,cs,ts,⟨vs,h1,h2,_⟩=>⟨vs,h1,h2,rfl⟩
 | .bnd f caps,cs,ts,⟨vs,h1,h2,_⟩=>⟨vs,h1,h2,rfl⟩
 | .tup2 a b,cs,ts,⟨va,vb,ca,cb,t1,t2,h1,h2,h3,h4,h5,h6⟩=>⟨va,vb,ca,cb,[],[],h1,rfl,b8.copy a _ _ h3,by rw [iC];exact h4,b8.copy b _ _ h5,by rw [iC];exact h6⟩
 | .tup3 a b d,cs,ts,⟨va,vb,vd,ca,cb,cd,t1,t2,t3,h1,h2,h3,h4,h5,h6,h7,h8⟩ =>
  ⟨va,vb,vd,ca,cb,cd,[],[],[],h1,rfl,b8.copy a _ _ h3,by rw [iC];exact h4,b8.copy b _ _ h5,by rw [iC];exact h6,b8.copy d _ _ h7,by rw [iC];exact h8⟩
 | .lent _,_,_,h=>h.elim
 | .unit,cs,ts,⟨h,_⟩=>⟨h,rfl⟩
 | .raw _ _,cs,ts,⟨_,_,_,h,_⟩=>⟨⟨_,h,rfl⟩,rfl⟩
 | .any,cs,ts,⟨h,_⟩=>⟨h,rfl⟩
 | .view _ _ _ _ _ _,cs,ts,⟨h1,h2,h3,_⟩=>⟨h1,h2,h3,rfl⟩
 | .mref _,cs,ts,⟨h1,_⟩=>⟨h1,rfl⟩
 | .vref _ _ _,cs,ts,⟨h1,_⟩=>⟨h1,rfl⟩
 | .vec _ _ _,cs,ts,⟨h1,_⟩=>⟨h1,rfl⟩
 | .gone,cs,ts,⟨h1,_⟩=>⟨h1,rfl⟩
 | .box _ o,cs,ts,h=>by
  cases o with
  | none=>exact ⟨h.1,rfl⟩
  | some x=>obtain ⟨_,_,_,_,h,_⟩:=h;exact ⟨⟨_,h,rfl⟩,rfl⟩
theorem aY.copy {G:Gh} {w:World} {v:V} {x:Value} {ts:List Nat} (h:aY G w v x ts):aY G w v.copy x []:=by
 obtain ⟨cs,h1,h2⟩:=h
 exact ⟨cs,h1.copy v cs ts,by rw [iC];exact h2⟩
theorem pU {v u:V} (h:v.copyO=some u):cF v∧u=v.copy:=by
 cases v <;> simp [V.copyO] at h <;> first | exact ⟨trivial,h.symm⟩ | exact h.elim

variable {X:Nat→Nat→Prop} {G0 G:Gh} {w0 w:World} {s:St} {a:Act}
theorem BW {e:Option Ty} {x:Value} {v:V} (h:cV e x=some v):aY G w v x []:=by
 unfold cV at h
 split at h
 ·injection h with h;subst h;exact ⟨_,⟨rfl,rfl⟩,rfl⟩
 ·injection h with h;subst h;exact ⟨_,⟨rfl,rfl⟩,rfl⟩
 ·injection h with h;subst h;exact ⟨_,⟨rfl,rfl⟩,rfl⟩
 ·injection h with h;subst h;exact ⟨_,⟨rfl,rfl⟩,rfl⟩
 ·injection h with h;subst h;exact ⟨_,⟨⟨_,rfl,rfl⟩,rfl⟩,rfl⟩
 ·split at h
  ·injection h with h;subst h
   exact ⟨_,⟨none,0,0,rfl,rfl,by omega,.inl ⟨rfl,rfl⟩⟩,rfl⟩
  ·cases h
 ·cases h
theorem ga {e:Option Ty} {x:Operand} {v:V} (hR:RS X G0 w0 G s a.tmps w) (h:nl e s x=some v):aY G w v (a.eval x) []:=by
 obtain ⟨_,tE,tM,hE,_⟩:=hR
 cases x with
 | tmp t =>
  simp only [nl,Option.bind_eq_some_iff] at h
  obtain ⟨u,hu,hc⟩:=h
  obtain ⟨hn,rfl⟩:=pU hc
  obtain ⟨t1,t2,_,hT,_⟩:=aL.find t s.env tE u hE hu hn
  exact hT.copy
 | const y=>exact BW h
 | func f =>
  simp only [nl,Option.some.injEq] at h;subst h
  exact ⟨_,⟨#[],rfl,rfl,rfl⟩,rfl⟩
 | global g=>simp [nl] at h
theorem RS.withV {v:V} {x:Value} (hR:RS X G0 w0 G s a.tmps w) (h:aY G w v x []):gk X G0 w0 G s a.tmps w v x:=by
 obtain ⟨hB,tE,tM,h1,h2,h3,h4⟩:=hR
 exact ⟨hB,tE,tM,[],h1,h2,h,by simpa using h3,by simpa using h4⟩
theorem mG {mv:Bool} {e:Option Ty} {x:Operand} {v:V} {s':St} (hR:RS X G0 w0 G s a.tmps w) (h:wP mv e s x=some (v,s')):gk X G0 w0 G s' a.tmps w v (a.eval x):=by
 cases x with
 | tmp t =>
  cases mv with
  | true =>
   simp only [wP,cond_true,Option.bind_eq_some_iff,Option.map_eq_some_iff] at h
   obtain ⟨u,hu,c,hc,he⟩:=h
   obtain ⟨hn,rfl⟩:=pU hc
   injection he with h1 h2;subst h1;subst h2
   obtain ⟨hB,tE,tM,hE,hM,h3,h4⟩:=hR
   obtain ⟨t1,t2,hcnt,hT,hE2⟩:=aL.find t s.env tE u hE hu hn
   exact ⟨hB,t2,tM,t1,hE2,hM,hT,fun g=>by have:=hcnt g;have:=h3 g;omega,fun g hg=>h4 g (by have:=hcnt g;omega)⟩
  | false =>
   simp only [wP,cond_false,Option.map_eq_some_iff] at h
   obtain ⟨u,hu,he⟩:=h
   injection he with h1 h2;subst h1;subst h2
   exact hR.withV (ga (e:=none) hR hu)
 | const y =>
  simp only [wP,Option.map_eq_some_iff] at h
  obtain ⟨u,hu,he⟩:=h
  injection he with h1 h2;subst h1;subst h2
  exact hR.withV (BW hu)
 | func f =>
  simp only [wP,Option.some.injEq,Prod.mk.injEq] at h
  obtain ⟨rfl,rfl⟩:=h
  exact hR.withV ⟨_,⟨#[],rfl,rfl,rfl⟩,rfl⟩
 | global g=>simp [wP] at h
theorem gk.put {v:V} {x:Value} {d:Option Nat} (hv:cF v) (hd:∀ t,d=some t→t<a.tmps.size) (h:gk X G0 w0 G s a.tmps w v x):RS X G0 w0 G (s.dst d v) (a.put d x).tmps w:=by
 obtain ⟨hB,tE,tM,tV,h1,h2,h3,h4,h5⟩:=h
 cases d with
 | none=>exact ⟨hB,tE,tM,h1,h2,fun g=>by have:=h4 g;omega,fun g hg=>h5 g (by omega)⟩
 | some t =>
  obtain ⟨t2,hc,hE⟩:=aL.write t x s.env tE h1
  refine ⟨hB,tV++t2,tM,?_,h2,fun g=>by have:=h4 g;have:=hc g;simp;omega,fun g hg=>h5 g (by have:=hc g;simp at hg;omega)⟩
  refine (aL.cons hv).2 ⟨tV,t2,rfl,?_,hE⟩
  show aY G w v ((a.tmps.setIfInBounds t x).getD t undef) tV
  rw [j0 (hd t rfl)]
  exact h3
theorem ct {v:V} {x:Value} {ts:List Nat} (h:aY G w v x ts):cF v:=by
 obtain ⟨cs,h,_⟩:=h
 cases v <;> first | trivial | exact h.elim
end Go.Proofs.YtfhcammihohmjaaGreatDoor.Pal
end
noncomputable section
/- Parts of values: read, written; data out of values. -/
namespace Go.Proofs.YtfhcammihohmjaaGreatDoor.Pal
open Go
variable [MonoC]
variable {G:Gh} {w:World}

theorem aS {a b:Nat}:Nat.beq a b=true ↔ a=b:=⟨Nat.eq_of_beq_eq_true,fun h=>by subst h;simp⟩
theorem bC.at_ {α:Type} {R:α→List Value→Prop} {sz:Nat} (z:α) (hR:∀ x c,R x c→c.length=sz):∀ (xs:List α) (cs:List Value) (i:Nat),bC R xs cs→i<xs.length →
  ∃ c1 c c2,cs=c1++(c++c2)∧c1.length=i * sz∧R (xs.getD i z) c∧∀ y c',R y c'→bC R (xs.set i y) (c1++(c'++c2))
 | [],_,_,_,h=>by simp at h
 | x::xs,cs,0,⟨c1,c2,e,h1,h2⟩,_=>⟨[],c1,c2,by simpa using e,by simp,by simpa using h1,fun y c' hy=>by simp only [List.set_cons_zero];exact ⟨c',c2,by simp,hy,h2⟩⟩
 | x::xs,cs,i+1,⟨c1,c2,e,h1,h2⟩,hlt=>by
  obtain ⟨d1,d,d2,e2,hl,hr,hs⟩:=bC.at_ z hR xs c2 i h2 (by simpa using hlt)
  refine ⟨c1++d1,d,d2,by rw [e,e2,List.append_assoc],by rw [List.length_append,hR _ _ h1,hl,Nat.add_mul];omega,by simpa using hr,fun y c' hy=>?_⟩
  simp only [List.set_cons_succ]
  exact ⟨c1,d1++(c'++d2),by simp [List.append_assoc],h1,hs y c' hy⟩
theorem dV (a b:V):(gP a b).cells=a.cells+b.cells:=by unfold gP;split <;> rfl
theorem gC:∀ (p:List Step) (v u:V) (cs:List Value) (ts:List Nat),b8 G w v cs ts→v.get p=some u→cM p →
  ∃ c1 cu c2 tu,cs=c1++(cu++c2)∧c1.length=cn p∧(∀ g,bi g tu≤bi g ts)∧b8 G w u cu tu
 | [],v,u,cs,ts,h,hg,_=>by
  simp only [V.get,Option.some.injEq] at hg;subst hg
  exact ⟨[],cs,[],ts,by simp,rfl,fun _=>Nat.le_refl _,h⟩
 | .l::p,v,u,cs,ts,h,hg,hp=>by
  cases v with
  | pr a b =>
   simp only [V.get] at hg
   obtain ⟨c1,c2,t1,t2,e1,e2,h1,h2⟩:=h
   obtain ⟨d1,du,d2,tu,e3,hl,hc,hu⟩:=gC p a u c1 t1 h1 hg hp
   exact ⟨d1,du,d2++c2,tu,by simp [e1,e3],hl,fun g=>by have:=hc g;simp [e2];omega,hu⟩
  | dat τ x =>
   cases τ with
   | pair a b =>
    simp only [V.get] at hg
    obtain ⟨⟨c1,c2,e1,h1,h2⟩,rfl⟩:=h
    obtain ⟨d1,du,d2,tu,e3,hl,hc,hu⟩:=gC p (.dat a x.1) u c1 [] ⟨h1,rfl⟩ hg hp
    exact ⟨d1,du,d2++c2,tu,by simp [e1,e3],hl,hc,hu⟩
   | _=>simp [V.get] at hg
  | _=>simp [V.get] at hg
 | .r o::p,v,u,cs,ts,h,hg,hp=>by
  cases v with
  | pr a b =>
   simp only [V.get] at hg
   obtain ⟨c1,c2,t1,t2,e1,e2,h1,h2⟩:=h
   cases ho:Nat.beq a.cells o with
   | false=>simp [ho] at hg
   | true =>
    simp only [ho,cond_true] at hg
    obtain ⟨d1,du,d2,tu,e3,hl,hc,hu⟩:=gC p b u c2 t2 h2 hg hp
    refine ⟨c1++d1,du,d2,tu,by simp [e1,e3],?_,fun g=>by have:=hc g;simp [e2];omega,hu⟩
    rw [List.length_append,b8.length a c1 t1 h1,hl,aS.1 ho];rfl
  | dat τ x =>
   cases τ with
   | pair a b =>
    simp only [V.get] at hg
    obtain ⟨⟨c1,c2,e1,h1,h2⟩,rfl⟩:=h
    cases ho:Nat.beq a.cells o with
    | false=>simp [ho] at hg
    | true =>
     simp only [ho,cond_true] at hg
     obtain ⟨d1,du,d2,tu,e3,hl,hc,hu⟩:=gC p (.dat b x.2) u c2 [] ⟨h2,rfl⟩ hg hp
     refine ⟨c1++d1,du,d2,tu,by simp [e1,e3],?_,hc,hu⟩
     rw [List.length_append,aR.length a _ c1 h1,hl,aS.1 ho];rfl
   | _=>simp [V.get] at hg
  | _=>simp [V.get] at hg
 | .ix n sz i::p,v,u,cs,ts,h,hg,hp=>by
  cases v with
  | dat τ x =>
   cases τ with
   | arr m e =>
    simp only [V.get] at hg
    obtain ⟨⟨hl,h2⟩,rfl⟩:=h
    cases ho:Nat.beq m n && Nat.beq e.cells sz with
    | false=>simp [ho] at hg
    | true =>
     simp only [ho,cond_true] at hg
     simp only [Bool.and_eq_true] at ho
     have hm:=aS.1 ho.1
     have hs:=aS.1 ho.2
     obtain ⟨c1,c,c2,e1,hl1,hr,_⟩:=bC.at_ e.zero (fun x c=>aR.length e x c) x cs i h2 (by rw [hl,hm];exact hp.1)
     obtain ⟨d1,du,d2,tu,e3,hl3,hc,hu⟩:=gC p (.dat e (rd e x i)) u c [] ⟨hr,rfl⟩ hg hp.2
     refine ⟨c1++d1,du,d2++c2,tu,by simp [e1,e3],?_,hc,hu⟩
     rw [List.length_append,hl1,hl3,hs];rfl
   | _=>simp [V.get] at hg
  | _=>simp [V.get] at hg
 | .el sz i::p,v,u,cs,ts,h,hg,hp=>by
  cases v with
  | dat τ x=>cases τ <;> simp [V.get] at hg
  | _=>simp [V.get] at hg
theorem j4 (τ:Ty):∀ (v:V) (x:τ.D) (cs:List Value) (ts:List Nat),V.as τ v=some x→b8 G w v cs ts→aR G.I τ x cs:=by
 intro v
 induction v generalizing τ with
 | dat τ' y =>
  intro x cs ts h hv
  simp only [V.as] at h
  split at h
  ·rename_i e;subst e;injection h with h;subst h;exact hv.1
  ·cases h
 | own e ys =>
  intro x cs ts h hv
  simp only [V.as] at h
  split at h
  ·rename_i e;subst e;injection h with h;subst h;exact il.dat hv
  ·cases h
 | pr a b iha ihb =>
  intro x cs ts h hv
  cases τ with
  | pair ta tb =>
   simp only [V.as,Option.bind_eq_some_iff] at h
   obtain ⟨x1,h1,x2,h2,e⟩:=h
   injection e with e;subst e
   obtain ⟨c1,c2,t1,t2,e1,_,g1,g2⟩:=hv
   exact ⟨c1,c2,e1,iha ta x1 c1 t1 h1 g1,ihb tb x2 c2 t2 h2 g2⟩
  | _=>simp [V.as] at h
 | _=>intro x cs ts h;simp [V.as] at h
theorem iw (τ:Ty):∀ (v:V) (x:τ.D),V.as τ v=some x→v.cells=τ.cells∧v.agg=τ.agg:=by
 intro v
 induction v generalizing τ with
 | dat τ' y =>
  intro x h
  simp only [V.as] at h
  split at h
  ·rename_i e;subst e;exact ⟨rfl,rfl⟩
  ·cases h
 | own e ys =>
  intro x h
  simp only [V.as] at h
  split at h
  ·rename_i e;subst e;exact ⟨rfl,rfl⟩
  ·cases h
 | pr a b iha ihb =>
  intro x h
  cases τ with
  | pair ta tb =>
   simp only [V.as,Option.bind_eq_some_iff] at h
   obtain ⟨x1,h1,x2,h2,e⟩:=h
   exact ⟨by show a.cells+b.cells=ta.cells+tb.cells;rw [(iha ta x1 h1).1,(ihb tb x2 h2).1],rfl⟩
  | _=>simp [V.as] at h
 | _=>intro x h;simp [V.as] at h
theorem Fg (τ:Ty) (v:V) (hb:eR τ=false):V.asB τ v=V.as τ v:=by
 induction v generalizing τ with
 | pr a b iha ihb =>
  cases τ with
  | pair ta tb =>
   simp only [eR,Bool.or_eq_false_iff] at hb
   simp only [V.asB,V.as,iha ta hb.1,ihb tb hb.2]
  | _=>simp only [V.asB,V.as]
 | box e o =>
  simp only [V.asB,V.as]
  rw [dif_neg]
  intro h
  subst h
  cases hb
 | _=>simp only [V.asB,V.as]
theorem fu (a b:V):d7 (gP a b)=false:=by unfold gP;split <;> rfl
theorem ue (v u:V):wH v u=u∨∃ τ o,v = .box τ o∧u = .nilp∧wH v u = .box τ none:=by
 unfold wH
 split
 ·exact .inr ⟨_,_,rfl,rfl,rfl⟩
 ·exact .inl rfl
theorem Bh {v u:V} (h:d7 u=false):d7 (wH v u)=false:=by
 rcases ue v u with e | ⟨_,_,_,_,e⟩ <;> rw [e]
 ·exact h
 ·rfl
theorem jr (v u:V):(wH v u).cells=u.cells∧(wH v u).agg=u.agg:=by
 rcases ue v u with e | ⟨_,_,_,e',e⟩
 ·rw [e];exact ⟨rfl,rfl⟩
 ·rw [e,e'];exact ⟨rfl,rfl⟩
theorem qG {v u:V} {cs:List Value} {ts:List Nat} (h:b8 G w u cs ts):b8 G w (wH v u) cs ts:=by
 rcases ue v u with e | ⟨_,_,_,e',e⟩
 ·rw [e];exact h
 ·subst e';rw [e];exact h
theorem ju {p:List Step} {v u v':V} (h:V.put p v u=some v'):d7 v'=false:=by
 cases p with
 | nil =>
  simp only [V.put] at h
  cases ho:Nat.beq v.cells u.cells && (v.agg == u.agg) && !(d7 v) && !(d7 u) with
  | false=>rw [ho] at h;cases h
  | true =>
   rw [ho] at h
   simp only [cond_true,Option.some.injEq] at h;subst h
   simp only [Bool.and_eq_true,Bool.not_eq_true'] at ho
   exact Bh ho.2
 | cons st p =>
  cases st with
  | l =>
   cases v with
   | pr a b =>
    simp only [V.put,Option.map_eq_some_iff] at h
    obtain ⟨_,_,rfl⟩:=h;exact fu _ _
   | dat τ x =>
    cases τ with
    | pair a b =>
     simp only [V.put,Option.map_eq_some_iff] at h
     obtain ⟨_,_,rfl⟩:=h;exact fu _ _
    | _=>simp [V.put] at h
   | _=>simp [V.put] at h
  | r o =>
   cases v with
   | pr a b =>
    simp only [V.put] at h
    cases ho:Nat.beq a.cells o with
    | false=>rw [ho] at h;cases h
    | true =>
     rw [ho] at h
     simp only [cond_true,Option.map_eq_some_iff] at h
     obtain ⟨_,_,rfl⟩:=h;exact fu _ _
   | dat τ x =>
    cases τ with
    | pair a b =>
     simp only [V.put] at h
     cases ho:Nat.beq a.cells o with
     | false=>rw [ho] at h;cases h
     | true =>
      rw [ho] at h
      simp only [cond_true,Option.map_eq_some_iff] at h
      obtain ⟨_,_,rfl⟩:=h;exact fu _ _
    | _=>simp [V.put] at h
   | _=>simp [V.put] at h
  | el sz i =>
   cases v with
   | dat τ x=>cases τ <;> simp [V.put] at h
   | _=>simp [V.put] at h
  | ix n sz i =>
   cases v with
   | dat τ x =>
    cases τ with
    | arr m e =>
     simp only [V.put] at h
     cases ho:Nat.beq m n && Nat.beq e.cells sz with
     | false=>rw [ho] at h;cases h
     | true =>
      rw [ho] at h
      simp only [cond_true,Option.bind_eq_some_iff] at h
      obtain ⟨_,_,_,_,h⟩:=h
      injection h with h;subst h;rfl
    | _=>simp [V.put] at h
   | _=>simp [V.put] at h
theorem gW:∀ (p:List Step) (v u v':V) (cs cu:List Value) (ts tu:List Nat),b8 G w v cs ts→b8 G w u cu tu→V.put p v u=some v'→cM p →
  v'.cells=v.cells∧v'.agg=v.agg∧∃ c1 c0 c2 t',cs=c1++(c0++c2)∧c1.length=cn p∧c0.length=cu.length∧(∀ g,bi g t'≤bi g ts+bi g tu)∧b8 G w v' (c1++(cu++c2)) t'
 | [],v,u,v',cs,cu,ts,tu,h,hu,hg,_=>by
  simp only [V.put] at hg
  cases ho:Nat.beq v.cells u.cells && (v.agg == u.agg) && !(d7 v) && !(d7 u) with
  | false=>rw [ho] at hg;cases hg
  | true =>
   rw [ho] at hg
   simp only [cond_true,Option.some.injEq] at hg;subst hg
   simp only [Bool.and_eq_true,beq_iff_eq] at ho
   replace ho:=ho.1.1
   refine ⟨(jr v u).1.trans (aS.1 ho.1).symm,(jr v u).2.trans ho.2.symm,[],cs,[],tu,by simp,rfl,?_,fun g=>by omega,by simpa using qG (v:=v) hu⟩
   rw [b8.length v cs ts h,b8.length u cu tu hu,aS.1 ho.1]
 | .l::p,v,u,v',cs,cu,ts,tu,h,hu,hg,hp=>by
  cases v with
  | pr a b =>
   simp only [V.put,Option.map_eq_some_iff] at hg
   obtain ⟨a',ha,rfl⟩:=hg
   obtain ⟨c1,c2,t1,t2,e1,e2,h1,h2⟩:=h
   obtain ⟨hc,hag,d1,d0,d2,t',e3,hl,hl0,hcn,hv⟩:=gW p a u a' c1 cu t1 tu h1 hu ha hp
   refine ⟨by rw [dV,hc];rfl,by rw [iD];rfl,d1,d0,d2++c2,t'++t2,by simp [e1,e3],hl,hl0,fun g=>by have:=hcn g;simp [e2];omega,?_⟩
   have:=dY hv h2
   simpa [List.append_assoc] using this
  | dat τ x =>
   cases τ with
   | pair a b =>
    simp only [V.put,Option.map_eq_some_iff] at hg
    obtain ⟨a',ha,rfl⟩:=hg
    obtain ⟨⟨c1,c2,e1,h1,h2⟩,rfl⟩:=h
    obtain ⟨hc,hag,d1,d0,d2,t',e3,hl,hl0,hcn,hv⟩:=gW p (.dat a x.1) u a' c1 cu [] tu ⟨h1,rfl⟩ hu ha hp
    refine ⟨by rw [dV,hc];rfl,by rw [iD];rfl,d1,d0,d2++c2,t'++[],by simp [e1,e3],hl,hl0,fun g=>by have:=hcn g;simp at this ⊢;omega,?_⟩
    have:=dY hv (show b8 G w (.dat b x.2) c2 [] from ⟨h2,rfl⟩)
    simpa [List.append_assoc] using this
   | _=>simp [V.put] at hg
  | _=>simp [V.put] at hg
 | .r o::p,v,u,v',cs,cu,ts,tu,h,hu,hg,hp=>by
  cases v with
  | pr a b =>
   simp only [V.put] at hg
   cases ho:Nat.beq a.cells o with
   | false=>simp [ho] at hg
   | true =>
    simp only [ho,cond_true,Option.map_eq_some_iff] at hg
    obtain ⟨b',hb,rfl⟩:=hg
    obtain ⟨c1,c2,t1,t2,e1,e2,h1,h2⟩:=h
    obtain ⟨hc,hag,d1,d0,d2,t',e3,hl,hl0,hcn,hv⟩:=gW p b u b' c2 cu t2 tu h2 hu hb hp
    refine ⟨by rw [dV,hc];rfl,by rw [iD];rfl,c1++d1,d0,d2,t1++t',by simp [e1,e3],?_,hl0,fun g=>by have:=hcn g;simp [e2];omega,?_⟩
    ·rw [List.length_append,b8.length a c1 t1 h1,hl,aS.1 ho];rfl
    ·have:=dY h1 hv
     simpa [List.append_assoc] using this
  | dat τ x =>
   cases τ with
   | pair a b =>
    simp only [V.put] at hg
    cases ho:Nat.beq a.cells o with
    | false=>simp [ho] at hg
    | true =>
     simp only [ho,cond_true,Option.map_eq_some_iff] at hg
     obtain ⟨b',hb,rfl⟩:=hg
     obtain ⟨⟨c1,c2,e1,h1,h2⟩,rfl⟩:=h
     obtain ⟨hc,hag,d1,d0,d2,t',e3,hl,hl0,hcn,hv⟩:=gW p (.dat b x.2) u b' c2 cu [] tu ⟨h2,rfl⟩ hu hb hp
     refine ⟨by rw [dV,hc];rfl,by rw [iD];rfl,c1++d1,d0,d2,[]++t',by simp [e1,e3],?_,hl0,fun g=>by have:=hcn g;simp at this ⊢;omega,?_⟩
     ·rw [List.length_append,aR.length a _ c1 h1,hl,aS.1 ho];rfl
     ·have:=dY (show b8 G w (.dat a x.1) c1 [] from ⟨h1,rfl⟩) hv
      simpa [List.append_assoc] using this
   | _=>simp [V.put] at hg
  | _=>simp [V.put] at hg
 | .ix n sz i::p,v,u,v',cs,cu,ts,tu,h,hu,hg,hp=>by
  cases v with
  | dat τ x =>
   cases τ with
   | arr m e =>
    simp only [V.put] at hg
    obtain ⟨⟨hl,h2⟩,rfl⟩:=h
    cases ho:Nat.beq m n && Nat.beq e.cells sz with
    | false=>simp [ho] at hg
    | true =>
     simp only [ho,cond_true,Option.bind_eq_some_iff] at hg
     simp only [Bool.and_eq_true] at ho
     have hm:=aS.1 ho.1
     have hs:=aS.1 ho.2
     obtain ⟨v1,hv1,y,hy,he⟩:=hg
     injection he with he;subst he
     obtain ⟨c1,c,c2,e1,hl1,hr,hset⟩:=bC.at_ e.zero (fun x c=>aR.length e x c) x cs i h2 (by rw [hl,hm];exact hp.1)
     obtain ⟨hc,hag,d1,d0,d2,t',e3,hl3,hl0,hcn,hv⟩:=gW p (.dat e (rd e x i)) u v1 c cu [] tu ⟨hr,rfl⟩ hu hv1 hp.2
     refine ⟨rfl,rfl,c1++d1,d0,d2++c2,[],by simp [e1,e3],?_,hl0,fun g=>by simp,?_⟩
     ·rw [List.length_append,hl1,hl3,hs];rfl
     ·have hd:=j4 e v1 y _ _ hy hv
      have:=hset y _ hd
      refine ⟨⟨by simpa [ja] using hl,?_⟩,rfl⟩
      simpa [List.append_assoc,ja] using this
   | _=>simp [V.put] at hg
  | _=>simp [V.put] at hg
 | .el sz i::p,v,u,v',cs,cu,ts,tu,h,hu,hg,hp=>by
  cases v with
  | dat τ x=>cases τ <;> simp [V.put] at hg
  | _=>simp [V.put] at hg
end Go.Proofs.YtfhcammihohmjaaGreatDoor.Pal
end
noncomputable section
/- The table of types, held against the program's. -/
namespace Go.Proofs.YtfhcammihohmjaaGreatDoor.Pal
open Go
variable [MonoC]

def dj:Ty→List Value
 | .int k=>[.int k 0]
 | .bool=>[.bool false]
 | .str=>[.string .empty]
 | .slc _=>[.slice none 0 0]
 | .arr n e=>(List.replicate n (dj e)).flatten
 | .pair a b=>dj a++dj b
 | .map _ _=>[]
 | .box _=>[.pointer none]
def GT:Value→Value→Bool
 | .int k n,.int k' n'=>(k == k') && (n == n')
 | .bool a,.bool b=>a == b
 | .string a,.string b=>Nat.beq a.size 0 && Nat.beq b.size 0
 | .slice none 0 0,.slice none 0 0=>true
 | .pointer none,.pointer none=>true
 | _,_=>false
def Al:List Value→List Value→Bool
 | [],[]=>true
 | a::x,b::y=>GT a b && Al x y
 | _,_=>false
theorem Fq {a b:Value} (h:GT a b=true):a=b:=by
 unfold GT at h
 split at h
 ·simp only [Bool.and_eq_true,beq_iff_eq] at h;rw [h.1,h.2]
 ·simp only [beq_iff_eq] at h;rw [h]
 ·rename_i x y
  simp only [Bool.and_eq_true] at h
  have h1:=aS.1 h.1
  have h2:=aS.1 h.2
  have e:∀ z:ByteArray,z.size=0→z = .empty:=fun z hz=>by
   cases z with
   | mk d => 
    have:d=#[]:=Array.eq_empty_of_size_eq_zero (by simpa [ByteArray.size] using hz)
    subst this;rfl
  rw [e x h1,e y h2]
 ·rfl
 ·rfl
 ·cases h
theorem yP:∀ {a b:List Value},Al a b=true→a=b
 | [],[],_=>rfl
 | [],_::_,h=>by simp [Al] at h
 | _::_,[],h=>by simp [Al] at h
 | a::x,b::y,h=>by
  simp only [Al,Bool.and_eq_true] at h
  rw [Fq h.1,yP h.2]
def fQ (f:TypeId→Ty→Bool):List Field→Nat→Ty→Bool
 | [],_,_=>false
 | [g], o, τ => Nat.beq g.offset o && f g.type τ && (g.name != "_")
 | g::g'::r,o,τ=>match τ with
  | .pair a b => Nat.beq g.offset o && f g.type a && (g.name != "_") && fQ f (g' :: r) (o + a.cells) b
  | _=>false
def kL (f:TypeId→Ty→Bool) (held:Bool):TypeDesc→Ty→Bool
 | .int k,.int k'=>k == k'
 | .bool,.bool=>true
 | .string,.str=>true
 | .slice E,.slc e=>f E e
 | .pointer _,.box _=>true
 | .array m E,.arr m' e=>Nat.beq m m' && f E e
 | .struct fs,.pair a b=>Nat.ble 2 fs.size && fQ f fs.toList 0 (.pair a b) && !held
 | _,_=>false
def gf (P:Program):Nat→TypeId→Ty→Bool
 | 0,_,_=>false
 | n+1,T,τ=>match P.info? T,P.underlying T with
  | some i,some d=>Nat.beq i.size τ.cells && Nat.blt 0 τ.cells && Nat.ble i.bytes 32768 &&
   (match i.zero with | some z=>Al z.cells.toList (dj τ) | none=>false) &&
   kL (gf P n) (P.stoodInHeld T) d τ
  | _,_=>false
def Ty.dep:Ty→Nat
 | .arr _ e=>e.dep+1
 | .pair a b=>max a.dep b.dep+1
 | _=>1
def FO (P:Program) (T:TypeId) (ti:TInfo):Bool :=
 gf P 40 T ti.ty && Nat.ble ti.ty.dep 9000 && (match P.underlying T with | some (.struct fs)=>Nat.beq fs.size ti.nf | _=>true) && !(P.eqGuardType P.depth T)
def FQ (P:Program) (T:TypeId):Bool:=match P.underlying T,P.info? T with
 | some (.pointer _),some i=>Nat.beq i.size 1 && (match i.zero with | some (.pointer none)=>true | _=>false)
 | _,_=>false
def Ty.keyT:Ty→Bool
 | .int _ | .bool=>true
 | .pair a b=>a.keyT && b.keyT
 | _=>false
def Fm:Ty→Bool
 | .pair _ _=>true
 | _=>false
def GI (P:Program) (E:TypeId) (τ:Ty):Bool:=match P.info? E with
 | some i=>match i.zero with
  | some (.agg _)=>τ.agg
  | some (.tuple _)=>false
  | some _=>!τ.agg
  | none=>false
 | none=>false
def Ds (P:Program) (T:TypeId) (ke:Ty × Ty):Bool:=match P.underlying T with
 | some (.map K E)=>gf P 40 K ke.1 && gf P 40 E ke.2 && ke.1.keyT && Nat.ble ke.1.dep 9000 && Fm ke.1 && GI P E ke.2
 | _=>false
structure TT (P:Program) (c:Cx):Prop where
 tab:∀ T ti,lkN c.types T=some ti→FO P T ti=true
 ptr:∀ T,bn T c.ptrs=true→FQ P T=true
 mp:∀ T ke,lkN c.maps T=some ke→Ds P T ke=true
theorem uL {p:Nat→Bool}:∀ (l:List Nat) (t:Nat),l.all p=true→bn t l=true→p t=true
 | [],_,_,h=>by simp [bn] at h
 | k::r,t,ha,h=>by
  simp only [List.all_cons,Bool.and_eq_true] at ha
  simp only [bn,Bool.or_eq_true] at h
  rcases h with h | h
  ·rw [← aS.1 h];exact ha.1
  ·exact uL r t ha.2 h
theorem yQ {β:Type} {p:Nat × β→Bool}:∀ (l:List (Nat × β)) (T:Nat) (b:β),l.all p=true→lkN l T=some b→p (T,b)=true
 | [],_,_,_,h=>by simp [lkN] at h
 | (k,v)::r,T,b,ha,hl=>by
  simp only [List.all_cons,Bool.and_eq_true] at ha
  simp only [lkN] at hl
  cases hb:Nat.beq k T with
  | true =>
   simp only [hb,cond_true,Option.some.injEq] at hl
   rw [← aS.1 hb,← hl];exact ha.1
  | false =>
   simp only [hb,cond_false] at hl
   exact yQ r T b ha.2 hl
theorem TT.of {P:Program} {c:Cx} (h:c.types.all (fun x=>FO P x.1 x.2)=true) (hp:c.ptrs.all (FQ P)=true) (hm:c.maps.all (fun x=>Ds P x.1 x.2)=true:=by rfl):TT P c:=by
 refine ⟨?_,fun T hT=>uL c.ptrs T hp hT,fun T ke h=>yQ (p:=fun x=>Ds P x.1 x.2) c.maps T ke hm h⟩
 intro T ti ht
 have key:∀ l:List (Nat × TInfo),l.all (fun x=>FO P x.1 x.2)=true→lkN l T=some ti→FO P T ti=true:=by
  intro l
  induction l with
  | nil=>intro _ h;simp [lkN] at h
  | cons x r ih =>
   obtain ⟨k,v⟩:=x
   intro ha hl
   simp only [List.all_cons,Bool.and_eq_true] at ha
   simp only [lkN] at hl
   cases hb:Nat.beq k T with
   | true =>
    simp only [hb,cond_true,Option.some.injEq] at hl
    rw [← aS.1 hb,← hl];exact ha.1
   | false =>
    simp only [hb,cond_false] at hl
    exact ih ha.2 hl
 exact key c.types h ht

structure TyI (P:Program) (T:TypeId) (τ:Ty):Prop where
 info:∃ i,P.info? T=some i∧i.size=τ.cells∧i.bytes≤32768∧∃ z,i.zero=some z∧z.cells.toList=dj τ
 pos:0<τ.cells
section
variable {P:Program} {n:Nat} {T:TypeId} {τ:Ty}
theorem dI (h:gf P n T τ=true):TyI P T τ:=by
 cases n with
 | zero=>simp [gf] at h
 | succ n =>
  simp only [gf] at h
  split at h
  ·rename_i i d hi hd
   simp only [Bool.and_eq_true] at h
   obtain ⟨⟨⟨⟨h1,h2⟩,h3⟩,h4⟩,h5⟩:=h
   refine ⟨⟨i,hi,aS.1 h1,Nat.le_of_ble_eq_true h3,?_⟩,?_⟩
   ·split at h4
    ·rename_i z hz;exact ⟨z,hz,yP h4⟩
    ·cases h4
   ·have:=Nat.le_of_ble_eq_true h2;omega
  ·cases h
theorem nj (h:gf P (n+1) T τ=true):∃ d,P.underlying T=some d∧kL (gf P n) (P.stoodInHeld T) d τ=true:=by
 simp only [gf] at h
 split at h
 ·rename_i i d hi hd
  simp only [Bool.and_eq_true] at h
  exact ⟨d,hd,h.2⟩
 ·cases h
theorem gV (h:gf P n T τ=true):∃ m,n=m+1:=by
 cases n with
 | zero=>simp [gf] at h
 | succ m=>exact ⟨m,rfl⟩
theorem jG {k:IntKind} (h:gf P n T (.int k)=true):P.underlying T=some (.int k):=by
 obtain ⟨m,rfl⟩:=gV h
 obtain ⟨d,hd,h⟩:=nj h
 cases d <;> simp_all [kL]
theorem jY (h:gf P n T .bool=true):P.underlying T=some .bool:=by
 obtain ⟨m,rfl⟩:=gV h
 obtain ⟨d,hd,h⟩:=nj h
 cases d <;> simp_all [kL]
theorem hD (h:gf P n T .str=true):P.underlying T=some .string:=by
 obtain ⟨m,rfl⟩:=gV h
 obtain ⟨d,hd,h⟩:=nj h
 cases d <;> simp_all [kL]
theorem dW {e:Ty} (h:gf P n T (.slc e)=true):∃ E m,P.underlying T=some (.slice E)∧gf P m E e=true:=by
 obtain ⟨m,rfl⟩:=gV h
 obtain ⟨d,hd,h⟩:=nj h
 cases d <;> simp_all [kL]
 exact ⟨m,h⟩
theorem EH {e:Ty} (h:gf P n T (.box e)=true):∃ E,P.underlying T=some (.pointer E):=by
 obtain ⟨m,rfl⟩:=gV h
 obtain ⟨d,hd,h⟩:=nj h
 cases d <;> simp_all [kL]
theorem gY {e:Ty} {q:Nat} (h:gf P n T (.arr q e)=true):∃ E m,P.underlying T=some (.array q E)∧gf P m E e=true:=by
 obtain ⟨m,rfl⟩:=gV h
 obtain ⟨d,hd,h⟩:=nj h
 cases d <;> simp_all [kL]
 exact ⟨m,h.2⟩
theorem gF {a b:Ty} (h:gf P n T (.pair a b)=true):∃ fs m,P.underlying T=some (.struct fs)∧2≤fs.size∧fQ (gf P m) fs.toList 0 (.pair a b)=true∧P.stoodInHeld T=false:=by
 obtain ⟨m,rfl⟩:=gV h
 obtain ⟨d,hd,h⟩:=nj h
 cases d <;> simp_all [kL]
 exact ⟨m,h.1.2⟩
theorem zI (h:gf P n T τ=true) (w:World):(isAgg T).run P w = .ok τ.agg w:=by
 cases τ with
 | int k=>simp [isAgg,run_underlying (jG h),Ty.agg]
 | bool=>simp [isAgg,run_underlying (jY h),Ty.agg]
 | str=>simp [isAgg,run_underlying (hD h),Ty.agg]
 | slc e=>obtain ⟨E,m,hu,_⟩:=dW h;simp [isAgg,run_underlying hu,Ty.agg]
 | arr q e=>obtain ⟨E,m,hu,_⟩:=gY h;simp [isAgg,run_underlying hu,Ty.agg]
 | pair a b=>obtain ⟨fs,m,hu,_⟩:=gF h;simp [isAgg,run_underlying hu,Ty.agg]
 | map a b =>
  obtain ⟨m,rfl⟩:=gV h
  obtain ⟨d,hd,h⟩:=nj h
  cases d <;> simp_all [kL]
 | box e=>obtain ⟨E,hu⟩:=EH h;simp [isAgg,run_underlying hu,Ty.agg]
theorem TyI.sizeOf (h:TyI P T τ) (w:World):(sizeOf T).run P w = .ok τ.cells w:=by
 obtain ⟨i,hi,hs,_⟩:=h.info
 simp [Go.sizeOf,typeInfo,hi,hs]
theorem TyI.zero (h:TyI P T τ) (w:World):∃ z,(zeroValue T).run P w = .ok z w∧z.cells.toList=dj τ:=by
 obtain ⟨i,hi,_,_,z,hz,hc⟩:=h.info
 exact ⟨z,by simp [zeroValue,typeInfo,hi,hz],hc⟩
theorem yW (f:TypeId→Ty→Bool):∀ (fs:List Field) (o:Nat) (τ:Ty) (i:Nat),fQ f fs o τ=true→i<fs.length →
  ∃ g,fs[i]? = some g∧g.offset=o+cn (ff τ fs.length i)∧f g.type (fI τ fs.length i)=true∧cM (ff τ fs.length i)
 | [],_,_,i,_,hi=>by simp at hi
 | [g],o,τ,i,h,hi=>by
  simp only [fQ,Bool.and_eq_true] at h
  obtain rfl:i=0:=by simp at hi;omega
  have e:ff τ 1 0=[]:=by cases τ <;> rfl
  have e':fI τ 1 0=τ:=by cases τ <;> rfl
  refine ⟨g,rfl,?_,by show f g.type (fI τ 1 0)=true;rw [e'];exact h.1.2,?_⟩
  ·show g.offset=o+cn (ff τ 1 0);rw [e,aS.1 h.1.1];rfl
  ·show cM (ff τ 1 0);rw [e];trivial
 | g::g'::r,o,τ,i,h,hi=>by
  cases τ with
  | pair a b =>
   simp only [fQ,Bool.and_eq_true] at h
   obtain ⟨⟨⟨h1,h2⟩,h3⟩,h4⟩:=h
   cases i with
   | zero =>
    have e:ff (.pair a b) (g::g'::r).length 0=[.l]:=rfl
    exact ⟨g,rfl,by rw [e,aS.1 h1];rfl,h2,by rw [e];trivial⟩
   | succ i =>
    have e:ff (.pair a b) (g::g'::r).length (i+1) = .r a.cells::ff b (g'::r).length i:=rfl
    obtain ⟨q,q1,q2,q3,q4⟩:=yW f (g'::r) (o+a.cells) b i h4 (by simpa using hi)
    exact ⟨q,by simpa using q1,by rw [e,cn,q2];omega,q3,by rw [e];exact q4⟩
  | _=>simp [fQ] at h
end
theorem dL (I:Im):∀ τ:Ty,aR I τ τ.zero (dj τ)
 | .int _=>rfl
 | .bool=>rfl
 | .str=>rfl
 | .slc e=>⟨none,0,0,rfl,rfl,Nat.le_refl _,.inl rfl⟩
 | .arr n e=>by
  refine ⟨by simp [Ty.zero,aV],?_⟩
  have h:=dL I e
  show bC (aR I e) (List.replicate n e.zero) (List.replicate n (dj e)).flatten
  induction n with
  | zero=>rfl
  | succ n ih=>exact ⟨dj e,_,by simp [List.replicate_succ],h,ih⟩
 | .pair a b=>⟨dj a,dj b,rfl,dL I a,dL I b⟩
 | .map _ _=>rfl
 | .box _=>⟨rfl,rfl⟩
theorem ij (G:Gh) (w:World):∀ τ:Ty,b8 G w (jO τ) (dj τ) []
 | .int k=>⟨dL G.I (.int k),rfl⟩
 | .bool=>⟨dL G.I .bool,rfl⟩
 | .str=>⟨dL G.I .str,rfl⟩
 | .slc e=>⟨none,0,0,rfl,rfl,by omega,.inl ⟨rfl,rfl⟩⟩
 | .arr n e=>⟨dL G.I (.arr n e),rfl⟩
 | .pair a b=>dY (ij G w a) (ij G w b)
 | .map a b=>⟨dL G.I (.map a b),rfl⟩
 | .box a=>⟨rfl,rfl⟩
theorem m8:∀ τ:Ty,(jO τ).refs=[]
 | .int k=>rfl
 | .bool=>rfl
 | .str=>rfl
 | .slc e=>rfl
 | .arr n e=>rfl
 | .map _ _=>rfl
 | .box _=>rfl
 | .pair a b=>by
  show (gP (jO a) (jO b)).refs=[]
  unfold gP
  split
  ·rfl
  ·simp [V.refs,m8 a,m8 b]
end Go.Proofs.YtfhcammihohmjaaGreatDoor.Pal
end
noncomputable section
/- Go's '==' of structs and arrays of data. -/
namespace Go.Proofs.YtfhcammihohmjaaGreatDoor.Pal
open Go
variable [MonoC]
variable {P:Program}

def eV (I:Im) (τ:Ty) (x:τ.D) (v:Value):Prop:=∃ cs,aR I τ x cs∧(if τ.agg then v = .agg cs.toArray else cs=[v])
theorem gH {n:Nat} {T:TypeId} {τ:Ty} (h:gf P n T τ=true) (c1 cu c2:List Value) (hl:cu.length=τ.cells) (w:World) :
  ∃ v,(part T (c1++(cu++c2)).toArray c1.length).run P w = .ok v w∧(if τ.agg then v = .agg cu.toArray else cu=[v]):=by
 have hs:=(dI h).sizeOf w
 have ha:=zI h w
 cases hag:τ.agg with
 | true =>
  rw [hag] at ha
  refine ⟨.agg cu.toArray,?_,by simp⟩
  simp only [part,Sem.run_bind,ha,Result.andThen_ok,if_true,hs,Sem.run_pure]
  congr 2
  apply Array.ext'
  simp [hl.symm]
 | false =>
  rw [hag] at ha
  have h1:τ.cells=1:=by
   have hp:=(dI h).pos
   cases τ <;> simp [Ty.agg] at hag <;> first | rfl | (simp [Ty.cells] at hp)
  rw [h1] at hl
  obtain ⟨v,rfl⟩:=List.length_eq_one_iff.1 hl
  refine ⟨v,?_,by simp⟩
  simp [part,ha]
def GV (P:Program) (τ:Ty):Prop:=∀ (n:Nat) (T:TypeId) (d:Nat),gf P n T τ=true→τ.dep≤d →
 ∀ (I:Im) (x y:τ.D) (u v:Value),eV I τ x u→eV I τ y v→∀ w,(Op.equalIn d T u v).run P w = .ok (eQ τ x y) w
def H3 (P:Program) (τ:Ty):Prop:=∀ (n:Nat) (fs:List Field) (c1 c1' cx cy:List Value) (d:Nat),2≤fs.length→fQ (gf P n) fs c1.length τ=true→c1'.length=c1.length→τ.dep≤d+1 →
 ∀ (I:Im) (x y:τ.D),aR I τ x cx→aR I τ y cy→∀ w,(Op.eqFields d (c1++cx).toArray (c1'++cy).toArray fs).run P w = .ok (eQ τ x y) w
theorem o9 {e:Ty} (IH:GV P e) {n:Nat} {E:TypeId} (hE:gf P n E e=true) {d:Nat} (hd:e.dep≤d) (I:Im) :
  ∀ (xs ys:List e.D) (c1 c1' cx cy:List Value) (k:Nat),c1.length=k * e.cells→c1'.length=k * e.cells→xs.length=ys.length→bC (aR I e) xs cx→bC (aR I e) ys cy →
   ∀ w,(Op.eqItems d E e.cells (c1++cx).toArray (c1'++cy).toArray ((List.range xs.length).map (k + ·))).run P w = .ok (jN (eQ e) xs ys) w
 | [],[],_,_,_,_,_,_,_,_,_,_,w=>by simp [Op.eqItems,jN]
 | [],_::_,_,_,_,_,_,_,_,h,_,_,_=>by simp at h
 | _::_,[],_,_,_,_,_,_,_,h,_,_,_=>by simp at h
 | x::xs,y::ys,c1,c1',_,_,k,h1,h2,hl,⟨a1,a2,rfl,ha,ha'⟩,⟨b1,b2,rfl,hb,hb'⟩,w=>by
  have la:=aR.length e x a1 ha
  have lb:=aR.length e y b1 hb
  obtain ⟨u,hu,hu'⟩:=gH hE c1 a1 a2 la w
  obtain ⟨v,hv,hv'⟩:=gH hE c1' b1 b2 lb w
  have hr:=IH n E d hE hd I x y u v ⟨a1,ha,hu'⟩ ⟨b1,hb,hv'⟩ w
  have ih:=o9 IH hE hd I xs ys (c1++a1) (c1'++b1) a2 b2 (k+1) (by rw [List.length_append,h1,la,Nat.add_mul];omega) (by rw [List.length_append,h2,lb,Nat.add_mul];omega) (by simpa using hl) ha' hb' w
  have hmap:(List.range (x::xs).length).map (k + ·)=k::(List.range xs.length).map (k+1 + ·):=by
   simp only [List.length_cons,List.range_succ_eq_map,List.map_cons,List.map_map,Nat.add_zero]
   congr 1
   apply List.map_congr_left
   intro j _
   simp only [Function.comp]
   omega
  rw [hmap]
  rw [h1] at hu
  rw [h2] at hv
  simp only [Op.eqItems,Sem.run_bind,hu,hv,hr,Result.andThen_ok]
  simp only [List.append_assoc] at ih
  cases hq:eQ e x y with
  | false=>simp [jN,hq]
  | true =>
   simp only [Bool.not_true,Bool.false_eq_true,if_false]
   rw [ih]
   simp [jN,hq]
theorem pB : ∀ τ : Ty, τ.hasEq0 = true → GV P τ ∧ H3 P τ
  | .int k, _ => ⟨fun n T d h hd I x y u v ⟨cu, hu, eu⟩ ⟨cv, hv, ev⟩ w => by
      obtain ⟨d,rfl⟩:∃ q,d=q+1:=⟨d - 1,by simp [Ty.dep] at hd;omega⟩
      simp only [aR] at hu hv;subst hu;subst hv
      simp [Ty.agg] at eu ev;subst eu;subst ev
      rw [run_equalIn_int w d T k k x y (jG h)];rfl,
    fun n fs c1 c1' cx cy d h2 h=>by cases fs with | nil=>simp at h2 | cons g r=>cases r with | nil=>simp at h2 | cons g' r=>simp [fQ] at h⟩
  | .bool, _ => ⟨fun n T d h hd I x y u v ⟨cu, hu, eu⟩ ⟨cv, hv, ev⟩ w => by
      obtain ⟨d,rfl⟩:∃ q,d=q+1:=⟨d - 1,by simp [Ty.dep] at hd;omega⟩
      simp only [aR] at hu hv;subst hu;subst hv
      simp [Ty.agg] at eu ev;subst eu;subst ev
      rw [run_equalIn_bool' w d T x y (jY h)];rfl,
    fun n fs c1 c1' cx cy d h2 h=>by cases fs with | nil=>simp at h2 | cons g r=>cases r with | nil=>simp at h2 | cons g' r=>simp [fQ] at h⟩
  | .str, _ => ⟨fun n T d h hd I x y u v ⟨cu, hu, eu⟩ ⟨cv, hv, ev⟩ w => by
      obtain ⟨d,rfl⟩:∃ q,d=q+1:=⟨d - 1,by simp [Ty.dep] at hd;omega⟩
      simp only [aR] at hu hv;subst hu;subst hv
      simp [Ty.agg] at eu ev;subst eu;subst ev
      rw [run_equalIn_string w d T _ _ (hD h),ByteArray.toList_eq,ByteArray.toList_eq];rfl,
    fun n fs c1 c1' cx cy d h2 h=>by cases fs with | nil=>simp at h2 | cons g r=>cases r with | nil=>simp at h2 | cons g' r=>simp [fQ] at h⟩
  | .slc _,h=>by simp [Ty.hasEq0] at h
  | .map _ _,h=>by simp [Ty.hasEq0] at h
  | .arr q e, hq => by
    have IH:=(pB e hq).1
    refine ⟨fun n T d h hd I x y u v ⟨cu,hu,eu⟩ ⟨cv,hv,ev⟩ w=>?_,fun n fs c1 c1' cx cy d h2 h=>by cases fs with | nil=>simp at h2 | cons g r=>cases r with | nil=>simp at h2 | cons g' r=>simp [fQ] at h⟩
    obtain ⟨d,rfl⟩:∃ q,d=q+1:=⟨d - 1,by simp [Ty.dep] at hd;omega⟩
    obtain ⟨E,m,hE,he⟩:=gY h
    obtain ⟨i,hi,hs,_⟩:=(dI he).info
    obtain ⟨hlx,hx⟩:=hu
    obtain ⟨hly,hy⟩:=hv
    simp [Ty.agg] at eu ev;subst eu;subst ev
    rw [run_equalIn_array w d _ _ hE hi]
    have hc:P.cellsOf E=e.cells:=by simp [Program.cellsOf,hi,hs]
    rw [hc]
    have:=o9 IH he (by simp [Ty.dep] at hd;omega) I x y [] [] cu cv 0 (by simp) (by simp) (by rw [hlx,hly]) hx hy w
    show _=Result.ok (jN (eQ e) x y) w
    simpa [hlx] using this
  | .pair a b, hq => by
    simp only [Ty.hasEq0,Bool.and_eq_true] at hq
    have Ha:=pB a hq.1
    have Hb:=pB b hq.2
    have hF : H3 P (.pair a b) := by
      intro n fs c1 c1' cx cy d h2 h hl hd I x y hx hy w
      obtain ⟨x1,x2,rfl,hx1,hx2⟩:=hx
      obtain ⟨y1,y2,rfl,hy1,hy2⟩:=hy
      have lx:=aR.length a _ x1 hx1
      have ly:=aR.length a _ y1 hy1
      have hd':a.dep≤d∧b.dep≤d:=by simp [Ty.dep] at hd;omega
      match fs,h2,h with
      | g :: g' :: r, _, h =>
        simp only [fQ,Bool.and_eq_true] at h
        obtain ⟨⟨⟨h1,hg⟩,hn⟩,hr⟩:=h
        have hn' : g.name ≠ "_" := by simpa using hn
        obtain ⟨u,hu,hu'⟩:=gH hg c1 x1 x2 lx w
        obtain ⟨v,hv,hv'⟩:=gH hg c1' y1 y2 ly w
        rw [hl] at hv
        have hq1:=Ha.1 n g.type d hg hd'.1 I x.1 y.1 u v ⟨x1,hx1,hu'⟩ ⟨y1,hy1,hv'⟩ w
        have hrest : (Op.eqFields d (c1 ++ (x1 ++ x2)).toArray (c1' ++ (y1 ++ y2)).toArray (g' :: r)).run P w = .ok (eQ b x.2 y.2) w := by
          cases r with
          | nil =>
            simp only [fQ,Bool.and_eq_true] at hr
            obtain ⟨⟨h3,hg'⟩,hn2⟩:=hr
            have hn2' : g'.name ≠ "_" := by simpa using hn2
            have lx2:=aR.length b _ x2 hx2
            have ly2:=aR.length b _ y2 hy2
            obtain ⟨u2,hu2,hu2'⟩:=gH hg' (c1++x1) x2 [] lx2 w
            obtain ⟨v2,hv2,hv2'⟩:=gH hg' (c1'++y1) y2 [] ly2 w
            rw [List.length_append,lx] at hu2
            rw [List.length_append,ly,hl] at hv2
            simp only [List.append_nil,List.append_assoc] at hu2 hv2
            have hq2:=Hb.1 n g'.type d hg' hd'.2 I x.2 y.2 u2 v2 ⟨x2,hx2,hu2'⟩ ⟨y2,hy2,hv2'⟩ w
            simp only [Op.eqFields,hn2',ne_eq,not_false_eq_true,if_true,Sem.run_bind,aS.1 h3,hu2,hv2,hq2,Result.andThen_ok]
            cases eQ b x.2 y.2 <;> simp
          | cons g2 r =>
            have hb2:b.dep≤d+1:=by omega
            have:=Hb.2 n (g'::g2::r) (c1++x1) (c1'++y1) x2 y2 d (by simp) (by rw [List.length_append,lx];exact hr) (by rw [List.length_append,List.length_append,hl,lx,ly]) hb2 I x.2 y.2 hx2 hy2 w
            simpa [List.append_assoc] using this
        rw [Op.eqFields]
        simp only [hn',ne_eq,not_false_eq_true,if_true,Sem.run_bind,aS.1 h1,hu,hv,hq1,Result.andThen_ok]
        cases hdq:eQ a x.1 y.1 with
        | false=>simp [eQ,hdq]
        | true=>simp [eQ,hdq,hrest]
    refine ⟨fun n T d h hd I x y u v ⟨cu,hu,eu⟩ ⟨cv,hv,ev⟩ w=>?_,hF⟩
    obtain ⟨d,rfl⟩:∃ q,d=q+1:=⟨d - 1,by simp [Ty.dep] at hd;omega⟩
    obtain ⟨fs,m,hfs,h2,hfl,hst⟩:=gF h
    simp [Ty.agg] at eu ev;subst eu;subst ev
    have hfo:P.fieldsOf T=fs:=by simp [Program.fieldsOf,hfs]
    rw [run_equalIn_struct w d T _ _ (by rw [hfo];exact hfs) hst,hfo]
    have:=hF m fs.toList [] [] cu cv d (by simpa using h2) hfl rfl hd I x y hu hv w
    simpa using this
end Go.Proofs.YtfhcammihohmjaaGreatDoor.Pal
end
noncomputable section
/- Operations that turn no memory: the abstract run's answer is the machine's. -/
namespace Go.Proofs.YtfhcammihohmjaaGreatDoor.Pal
open Go
variable [MonoC]
variable {P:Program} {X:Nat→Nat→Prop} {G0 G:Gh} {w0 w:World} {s:St} {a:Act} {c:Cx}

theorem aY.dat_int {k:IntKind} {n:Int} {x:Value} {ts:List Nat} (h:aY G w (.dat (.int k) n) x ts):x = .int k n:=by
 obtain ⟨cs,⟨h1,_⟩,h2⟩:=h
 simp only [aR] at h1;subst h1
 simpa [V.agg,Ty.agg] using h2.symm
theorem aY.dat_bool {b:Bool} {x:Value} {ts:List Nat} (h:aY G w (.dat .bool b) x ts):x = .bool b:=by
 obtain ⟨cs,⟨h1,_⟩,h2⟩:=h
 simp only [aR] at h1;subst h1
 simpa [V.agg,Ty.agg] using h2.symm
theorem aY.dat_str {l:List UInt8} {x:Value} {ts:List Nat} (h:aY G w (.dat .str l) x ts):x = .string ⟨l.toArray⟩:=by
 obtain ⟨cs,⟨h1,_⟩,h2⟩:=h
 simp only [aR] at h1;subst h1
 simpa [V.agg,Ty.agg] using h2.symm
theorem aY.dat_slc {e:Ty} {xs:List e.D} {x:Value} {ts:List Nat} (h:aY G w (.dat (.slc e) xs) x ts):∃ ad len cap,x = .slice ad len cap∧xs.length=len∧len≤cap∧(xs=[]∨∃ b o,ad=some ⟨b,o,none⟩∧d8 G.I e.cells (aR G.I e) b o xs):=by
 obtain ⟨cs,⟨h1,_⟩,h2⟩:=h
 obtain ⟨ad,len,cap,e1,e2,e3,e4⟩:=h1
 subst e1
 exact ⟨ad,len,cap,by simpa [V.agg,Ty.agg] using h2.symm,e2,e3,e4⟩
theorem eV.trep {τ:Ty} {y:τ.D} {x:Value} (h:eV G.I τ y x):aY G w (.dat τ y) x []:=by
 obtain ⟨cs,h1,h2⟩:=h
 exact ⟨cs,⟨h1,rfl⟩,h2⟩
theorem aY.int (k:IntKind) (n:Int):aY G w (.dat (.int k) n) (.int k n) []:=⟨_,⟨rfl,rfl⟩,rfl⟩
theorem aY.bool (b:Bool):aY G w (.dat .bool b) (.bool b) []:=⟨_,⟨rfl,rfl⟩,rfl⟩
theorem aY.str (l:List UInt8):aY G w (.dat .str l) (.string ⟨l.toArray⟩) []:=⟨_,⟨rfl,rfl⟩,rfl⟩
theorem aY.ref_ {k:Nat} {p:List Step} {x:Value} {ts:List Nat} (h:aY G w (.ref k p) x ts):x = .pointer (some (G.addr k p))∧cM p:=by
 obtain ⟨cs,⟨h1,h2,_⟩,h3⟩:=h
 subst h1
 exact ⟨by simpa [V.agg] using h3.symm,h2⟩
theorem aY.nilp_ {x:Value} {ts:List Nat} (h:aY G w .nilp x ts):x = .pointer none:=by
 obtain ⟨cs,⟨h1,_⟩,h3⟩:=h
 subst h1
 simpa [V.agg] using h3.symm
theorem aY.ip_ {τ:Ty} {y:τ.D} {x:Value} {ts:List Nat} (h:aY G w (.ip τ y) x ts):∃ b o cc,x = .pointer (some ⟨b,o,none⟩)∧aR G.I τ y cc∧ym G.I b o cc:=by
 obtain ⟨cs,⟨b,o,cc,h1,h2,h3,_⟩,h4⟩:=h
 subst h1
 exact ⟨b,o,cc,by simpa [V.agg] using h4.symm,h2,h3⟩
theorem aY.as_ {τ:Ty} {v:V} {y:τ.D} {x:Value} {ts:List Nat} (hv:V.as τ v=some y) (h:aY G w v x ts):eV G.I τ y x:=by
 obtain ⟨cs,h1,h2⟩:=h
 exact ⟨cs,j4 τ v y cs ts hv h1,by rw [← (iw τ v y hv).2];exact h2⟩

theorem oG (l:List UInt8):(⟨l.toArray⟩:ByteArray).size=l.length:=by simp [ByteArray.size]
theorem ia (l:List UInt8):(⟨l.toArray⟩:ByteArray).toList=l:=by rw [ByteArray.toList_eq]
theorem fW:∀ x y,Op.bytesLess x y=qd x y
 | _,[]=>by cases ‹List UInt8› <;> rfl
 | [],_::_=>rfl
 | a::x,b::y=>by simp only [Op.bytesLess,qd,fW x y]
theorem lL {α:Type} {b:Bool} {x y:Option α} {r:α} (h:br b x y=some r):(b=true∧x=some r)∨(b=false∧y=some r):=by
 cases b
 ·exact .inr ⟨rfl,h⟩
 ·exact .inl ⟨rfl,h⟩
theorem cw {α:Type} {b:Bool} {x:Option α} {r:α} (h:br b x none=some r):b=true∧x=some r:=by
 rcases lL h with h | ⟨_,h⟩
 ·exact h
 ·cases h
theorem lh {α:Type} {b:Bool} {x:Option α} {r:α} (h:br b none x=some r):b=false∧x=some r:=by
 rcases lL h with ⟨_,h⟩ | h
 ·cases h
 ·exact h

theorem yg {α:Type} {op:BinOp} {k k':IntKind} {m n:Int} {pt:Bool} {ty:Option Ty} {K:V→Option α} {r:α} (hk:op = .shl∨op = .shr∨k=k')
  (h:oA pt ty op (.dat (.int k) m) (.dat (.int k') n) K=some r) (T:TypeId) :
  ∃ v x,(binOp op T (.int k m) (.int k' n)).run P w = .ok x w∧aY G w v x []∧K v=some r:=by
 have hs:op = .shl∨op = .shr∨(op ≠ .shl∧op ≠ .shr∧k=k'):=by
  rcases hk with h | h | h
  ·exact .inl h
  ·exact .inr (.inl h)
  ·by_cases h1:op = .shl
   ·exact .inl h1
   ·by_cases h2:op = .shr
    ·exact .inr (.inl h2)
    ·exact .inr (.inr ⟨h1,h2,h⟩)
 rcases hs with rfl | rfl | ⟨h1,h2,rfl⟩
 ·simp only [oA] at h
  obtain ⟨hb,h⟩:=lh h
  have hz:¬ n<0:=by simpa [aq] using hb
  refine ⟨_,.int k _,?_,aY.int _ _,h⟩
  simp only [binOp,Op.shift,if_neg hz];rfl
 ·simp only [oA] at h
  obtain ⟨hb,h⟩:=lh h
  have hz:¬ n<0:=by simpa [aq] using hb
  refine ⟨_,.int k _,?_,aY.int _ _,h⟩
  simp only [binOp,Op.shift,if_neg hz];rfl
 ·cases op <;> simp only [oA] at h
  case add=>exact ⟨_,.int k _,by rw [show binOp .add T (.int k m) (.int k n)=Op.intArith .add k m n from by simp [binOp]];rfl,aY.int _ _,h⟩
  case sub=>exact ⟨_,.int k _,by rw [show binOp .sub T (.int k m) (.int k n)=Op.intArith .sub k m n from by simp [binOp]];rfl,aY.int _ _,h⟩
  case mul=>exact ⟨_,.int k _,by rw [show binOp .mul T (.int k m) (.int k n)=Op.intArith .mul k m n from by simp [binOp]];rfl,aY.int _ _,h⟩
  case quo =>
   obtain ⟨hb,h⟩:=lh h
   have hz:¬ n=0:=by simpa [az] using hb
   exact ⟨_,.int k _,by rw [show binOp .quo T (.int k m) (.int k n)=Op.intDiv .quo k m n from by simp [binOp]];simp only [Op.intDiv,if_neg hz];rfl,aY.int _ _,h⟩
  case rem =>
   obtain ⟨hb,h⟩:=lh h
   have hz:¬ n=0:=by simpa [az] using hb
   exact ⟨_,.int k _,by rw [show binOp .rem T (.int k m) (.int k n)=Op.intDiv .rem k m n from by simp [binOp]];simp only [Op.intDiv,if_neg hz];rfl,aY.int _ _,h⟩
  case and=>exact ⟨_,.int k _,by rw [show binOp .and T (.int k m) (.int k n)=Op.intBits .and k m n from by simp [binOp]];rfl,aY.int _ _,h⟩
  case or=>exact ⟨_,.int k _,by rw [show binOp .or T (.int k m) (.int k n)=Op.intBits .or k m n from by simp [binOp]];rfl,aY.int _ _,h⟩
  case xor=>exact ⟨_,.int k _,by rw [show binOp .xor T (.int k m) (.int k n)=Op.intBits .xor k m n from by simp [binOp]];rfl,aY.int _ _,h⟩
  case shl=>exact absurd rfl h1
  case shr=>exact absurd rfl h2
  case andNot=>cases h
  case eql=>exact ⟨_,.bool _,by rw [show binOp .eql T (.int k m) (.int k n)=Op.intCmp .eql m n from by simp [binOp]];rfl,aY.bool _,h⟩
  case neq=>exact ⟨_,.bool _,by rw [show binOp .neq T (.int k m) (.int k n)=Op.intCmp .neq m n from by simp [binOp]];rfl,aY.bool _,h⟩
  case lss=>exact ⟨_,.bool _,by rw [show binOp .lss T (.int k m) (.int k n)=Op.intCmp .lss m n from by simp [binOp]];rfl,aY.bool _,h⟩
  case leq=>exact ⟨_,.bool _,by rw [show binOp .leq T (.int k m) (.int k n)=Op.intCmp .leq m n from by simp [binOp]];rfl,aY.bool _,h⟩
  case gtr=>exact ⟨_,.bool _,by rw [show binOp .gtr T (.int k m) (.int k n)=Op.intCmp .gtr m n from by simp [binOp]];rfl,aY.bool _,h⟩
  case geq=>exact ⟨_,.bool _,by rw [show binOp .geq T (.int k m) (.int k n)=Op.intCmp .geq m n from by simp [binOp]];rfl,aY.bool _,h⟩
theorem yf {α:Type} {op:BinOp} {m n:List UInt8} {pt:Bool} {ty:Option Ty} {K:V→Option α} {r:α}
  (h:oA pt ty op (.dat .str m) (.dat .str n) K=some r) (T:TypeId) :
  ∃ v x,(binOp op T (.string ⟨m.toArray⟩) (.string ⟨n.toArray⟩)).run P w = .ok x w∧aY G w v x []∧K v=some r:=by
 cases op <;> simp only [oA] at h
 case add =>
  obtain ⟨hb,h⟩:=cw h
  have hl:m.length+n.length≤4611686018427387904:=by simpa [bz] using hb
  refine ⟨_,.string _,?_,aY.str _,h⟩
  simp only [binOp,Op.stringOp,oG]
  have hm:IntKind.i64.max=9223372036854775807:=rfl
  rw [if_neg (by rw [hm];omega)]
  rfl
 case eql=>exact ⟨_,.bool _,by simp only [binOp,Op.stringOp,ia];rfl,aY.bool _,h⟩
 case neq=>exact ⟨_,.bool _,by simp only [binOp,Op.stringOp,ia];rfl,aY.bool _,h⟩
 case lss=>exact ⟨_,.bool _,by simp only [binOp,Op.stringOp,ia,fW];rfl,aY.bool _,h⟩
 case leq=>exact ⟨_,.bool _,by simp only [binOp,Op.stringOp,ia,fW];rfl,aY.bool _,h⟩
 case gtr=>exact ⟨_,.bool _,by simp only [binOp,Op.stringOp,ia,fW];rfl,aY.bool _,h⟩
 case geq=>exact ⟨_,.bool _,by simp only [binOp,Op.stringOp,ia,fW];rfl,aY.bool _,h⟩
 all_goals cases h
theorem xj {k k':IntKind} (h:kn k=kn k'):k=k':=by cases k <;> cases k' <;> first | rfl | (simp [kn] at h)
theorem TT.ti (hT:TT P c) {t:TypeId} {ti:TInfo} (hl:lkN c.types t=some ti):gf P 40 t ti.ty=true∧ti.ty.dep≤9000∧P.eqGuardType P.depth t=false∧∀ fs,P.underlying t=some (.struct fs)→fs.size=ti.nf:=by
 have:=hT.tab t ti hl
 simp only [FO,Bool.and_eq_true,Bool.not_eq_true'] at this
 obtain ⟨⟨⟨h1,h2⟩,h3⟩,h4⟩:=this
 refine ⟨h1,Nat.le_of_ble_eq_true h2,h4,fun fs hfs=>?_⟩
 rw [hfs] at h3
 exact aS.1 h3
theorem TT.ty (hT:TT P c) {t:TypeId} {τ:Ty} (h:c.ty t=some τ):gf P 40 t τ=true∧τ.dep≤9000∧P.eqGuardType P.depth t=false:=by
 simp only [Cx.ty,Option.map_eq_some_iff] at h
 obtain ⟨ti,hl,rfl⟩:=h
 have:=hT.ti hl
 exact ⟨this.1,this.2.1,this.2.2.1⟩
theorem TT.pt (hT:TT P c) {t:TypeId} (h:bn t c.ptrs=true):∃ e,P.underlying t=some (.pointer e):=by
 have:=hT.ptr t h
 unfold FQ at this
 split at this
 ·rename_i e i he hi;exact ⟨e,he⟩
 ·cases this
theorem eG {op:BinOp} {t:TypeId} {x y:Operand} {u v:Value} (h:∀ cs ds,¬ (u = .agg cs∧v = .agg ds)) (h2:¬ (u = .nilIface∧v = .nilIface)):(eqGuard op t x y u v).run P w = .ok () w:=by
 cases op <;> first
  | rfl
  | (unfold eqGuard;simp only [Bool.not_true,Bool.false_eq_true,if_false];cases u <;> cases v <;> first | rfl | exact absurd ⟨rfl,rfl⟩ h2 | exact absurd ⟨rfl,rfl⟩ (h _ _))
theorem FM {τ:Ty} (hq:τ.hasEq=true) {t:TypeId} (ht:gf P 40 t τ=true) (hd:τ.dep≤9000) (hg:P.eqGuardType P.depth t=false) {y z:τ.D} {u v:Value} (hu:eV G.I τ y u) (hv:eV G.I τ z v) (ox oy:Operand) (op:BinOp) :
  (eqGuard op t ox oy u v).run P w = .ok () w∧(Op.equal t u v).run P w = .ok (eQ τ y z) w∧(binOp .eql t u v=do pure (.bool (← Op.equal t u v)))∧(binOp .neq t u v=do pure (.bool (!(← Op.equal t u v)))):=by
 have hq0:τ.hasEq0=true:=by cases τ <;> simp_all [Ty.hasEq,Ty.hasEq0]
 have he:=(pB (P:=P) τ hq0).1 40 t 10000 ht (by omega) G.I y z u v hu hv w
 refine ⟨?_,he,?_⟩
 ·obtain ⟨cu,hcu,eu⟩:=hu
  obtain ⟨cv,hcv,ev⟩:=hv
  cases hag:τ.agg with
  | true =>
   simp [hag] at eu ev
   subst eu;subst ev
   exact run_eqGuard_agg w op t ox oy _ _ hg
  | false =>
   cases τ <;> simp [Ty.agg,Ty.hasEq] at hag hq
   simp only [aR] at hcu hcv;subst hcu;subst hcv
   simp [Ty.agg] at eu ev;subst eu;subst ev
   exact eG (by simp) (by simp)
 ·obtain ⟨cu,hcu,eu⟩:=hu
  obtain ⟨cv,hcv,ev⟩:=hv
  cases hag:τ.agg with
  | true =>
   simp [hag] at eu ev
   subst eu;subst ev
   exact ⟨rfl,rfl⟩
  | false =>
   cases τ <;> simp [Ty.agg,Ty.hasEq] at hag hq
   simp only [aR] at hcu hcv;subst hcu;subst hcv
   simp [Ty.agg] at eu ev;subst eu;subst ev
   exact ⟨rfl,rfl⟩
theorem uc {α:Type} (hT:TT P c) {op:BinOp} {t:TypeId} {ox oy:Operand} {v u:V} {xv xu:Value} {K:V→Option α} {r:α} {t1 t2:List Nat}
  (hv:aY G w v xv t1) (hu:aY G w u xu t2)
  (h:(match c.ty t with
   | some τ=>bif τ.hasEq then (V.as τ v).bind fun a=>(V.as τ u).bind fun b=>match op with
    | .eql=>K (.dat .bool (eQ τ a b))
    | .neq=>K (.dat .bool (ai (eQ τ a b)))
    | _=>none
    else none
   | none=>none)=some r) :
  ∃ v' x',(do eqGuard op t ox oy xv xu;binOp op t xv xu).run P w = .ok x' w∧aY G w v' x' []∧K v'=some r:=by
 split at h
 ·rename_i τ hτ
  obtain ⟨ht,hd,hg⟩:=hT.ty hτ
  cases hq:τ.hasEq with
  | false=>simp [hq] at h
  | true =>
   simp only [hq,cond_true,Option.bind_eq_some_iff] at h
   obtain ⟨a,ha,b,hb,h⟩:=h
   obtain ⟨e1,e2,e3,e4⟩:=FM (w:=w) hq ht hd hg (aY.as_ ha hv) (aY.as_ hb hu) ox oy op
   cases op <;> simp only at h
   case eql=>exact ⟨_,.bool _,by simp only [Sem.run_bind,e1,Result.andThen_ok,e3,e2];rfl,aY.bool _,h⟩
   case neq=>exact ⟨_,.bool _,by simp only [Sem.run_bind,e1,Result.andThen_ok,e4,e2];rfl,aY.bool _,h⟩
   all_goals cases h
 ·cases h
theorem vj {t e:TypeId} (hpt:P.underlying t=some (.pointer e)) (b:Option Addr):(Op.equal t (.pointer none) (.pointer b)).run P w = .ok b.isNone w:=by
 show (Op.equalIn (9999+1) t _ _).run P w=_
 rw [Op.equalIn]
 simp only [Sem.run_bind,run_underlying hpt,Result.andThen_ok]
 rfl
theorem CX {t e:TypeId} (hpt:P.underlying t=some (.pointer e)) (b:Addr):(Op.equal t (.pointer (some b)) (.pointer none)).run P w = .ok false w:=by
 show (Op.equalIn (9999+1) t _ _).run P w=_
 rw [Op.equalIn]
 simp only [Sem.run_bind,run_underlying hpt,Result.andThen_ok]
 rfl
theorem Am {α:Type} (hT:TT P c) {op:BinOp} {t:TypeId} {ox oy:Operand} {v u:V} {xv xu:Value} {K:V→Option α} {r:α} {t1 t2:List Nat}
  (hv:aY G w v xv t1) (hu:aY G w u xu t2) (hok:CN op v u=true) (h:oA (bn t c.ptrs) (c.ty t) op v u K=some r) :
  ∃ v' x',(do eqGuard op t ox oy xv xu;binOp op t xv xu).run P w = .ok x' w∧aY G w v' x' []∧K v'=some r:=by
 unfold oA at h
 split at h
 ·rename_i k m k' n
  have e1:=hv.dat_int
  have e2:=hu.dat_int
  subst e1;subst e2
  have hgd:=eG (P:=P) (w:=w) (op:=op) (t:=t) (x:=ox) (y:=oy) (u:=.int k m) (v:=.int k' n) (by simp) (by simp)
  obtain ⟨v',x',hr,ht,hk⟩:=yg (P:=P) (G:=G) (w:=w) (op:=op) (k:=k) (k':=k') (m:=m) (n:=n) (pt:=false) (ty:=none) (K:=K) (r:=r) (by
   cases op <;> simp [CN] at hok ⊢
   all_goals exact xj hok) h t
  exact ⟨v',x',by simp only [Sem.run_bind,hgd,Result.andThen_ok,hr],ht,hk⟩
 ·rename_i m n
  have e1:=hv.dat_str
  have e2:=hu.dat_str
  subst e1;subst e2
  have hgd:=eG (P:=P) (w:=w) (op:=op) (t:=t) (x:=ox) (y:=oy) (u:=.string ⟨m.toArray⟩) (v:=.string ⟨n.toArray⟩) (by simp) (by simp)
  obtain ⟨v',x',hr,ht,hk⟩:=yf (P:=P) (G:=G) (w:=w) (op:=op) (m:=m) (n:=n) (pt:=false) (ty:=none) (K:=K) (r:=r) h t
  exact ⟨v',x',by simp only [Sem.run_bind,hgd,Result.andThen_ok,hr],ht,hk⟩
 ·have e1:=hv.nilp_
  have e2:=hu.nilp_
  subst e1;subst e2
  have hgd:=eG (P:=P) (w:=w) (op:=op) (t:=t) (x:=ox) (y:=oy) (u:=.pointer none) (v:=.pointer none) (by simp) (by simp)
  cases hp:bn t c.ptrs with
  | false=>simp [hp] at h
  | true =>
   simp only [hp,cond_true] at h
   obtain ⟨e,hpt⟩:=hT.pt hp
   have he:(Op.equal t (.pointer none) (.pointer none)).run P w = .ok true w:=by
    exact vj hpt none
   cases op <;> simp only at h
   case eql=>exact ⟨_,.bool _,by simp only [Sem.run_bind,hgd,Result.andThen_ok,binOp,he];rfl,aY.bool _,h⟩
   case neq=>exact ⟨_,.bool _,by simp only [Sem.run_bind,hgd,Result.andThen_ok,binOp,he];rfl,aY.bool _,h⟩
   all_goals cases h
 ·have e1:=hv.ref_.1
  have e2:=hu.nilp_
  subst e1;subst e2
  have hgd:=fun a=>eG (P:=P) (w:=w) (op:=op) (t:=t) (x:=ox) (y:=oy) (u:=.pointer (some a)) (v:=.pointer none) (by simp) (by simp)
  cases hp:bn t c.ptrs with
  | false=>simp [hp] at h
  | true =>
   simp only [hp,cond_true] at h
   obtain ⟨e,hpt⟩:=hT.pt hp
   have he:∀ a,(Op.equal t (.pointer (some a)) (.pointer none)).run P w = .ok false w:=fun a=>by
    exact CX hpt a
   cases op <;> simp only at h
   case eql=>exact ⟨_,.bool _,by simp only [Sem.run_bind,hgd,Result.andThen_ok,binOp,he];rfl,aY.bool _,h⟩
   case neq=>exact ⟨_,.bool _,by simp only [Sem.run_bind,hgd,Result.andThen_ok,binOp,he];rfl,aY.bool _,h⟩
   all_goals cases h
 ·have e1:=hv.nilp_
  have e2:=hu.ref_.1
  subst e1;subst e2
  have hgd:=fun a=>eG (P:=P) (w:=w) (op:=op) (t:=t) (x:=ox) (y:=oy) (u:=.pointer none) (v:=.pointer (some a)) (by simp) (by simp)
  cases hp:bn t c.ptrs with
  | false=>simp [hp] at h
  | true =>
   simp only [hp,cond_true] at h
   obtain ⟨e,hpt⟩:=hT.pt hp
   have he:∀ a,(Op.equal t (.pointer none) (.pointer (some a))).run P w = .ok false w:=fun a=>by
    exact vj hpt (some a)
   cases op <;> simp only at h
   case eql=>exact ⟨_,.bool _,by simp only [Sem.run_bind,hgd,Result.andThen_ok,binOp,he];rfl,aY.bool _,h⟩
   case neq=>exact ⟨_,.bool _,by simp only [Sem.run_bind,hgd,Result.andThen_ok,binOp,he];rfl,aY.bool _,h⟩
   all_goals cases h
 ·exact uc hT hv hu h
end Go.Proofs.YtfhcammihohmjaaGreatDoor.Pal
end
noncomputable section
/- Operations that turn no memory, the rest of them. -/
namespace Go.Proofs.YtfhcammihohmjaaGreatDoor.Pal
open Go
variable [MonoC]
variable {P:Program} {X:Nat→Nat→Prop} {G0 G:Gh} {w0 w:World} {s:St} {a:Act} {c:Cx}

theorem gA {m:Sem Value} {x:Value} {w':World} (h:m.run P w = .ok x w'):(do pure (Next.value (← m)):Sem Next).run P w = .ok (.value x) w':=by
 simp only [Sem.run_bind,h,Result.andThen_ok];rfl
theorem dR (g j n:Nat):(⟨g,j,none⟩:Addr).add n=⟨g,j+n,none⟩:=by unfold Addr.add;split <;> simp_all
theorem dE:∀ p q:List Step,cn (p++q)=cn p+cn q
 | [],q=>by simp [cn]
 | .l::p,q=>by simp [cn,dE p q]
 | .r o::p,q=>by simp [cn,dE p q];omega
 | .ix n sz i::p,q=>by simp [cn,dE p q];omega
 | .el sz i::p,q=>by simp [cn,dE p q];omega
theorem dF:∀ p q:List Step,cM p→cM q→cM (p++q)
 | [],q,_,h=>h
 | .l::p,q,h,k=>dF p q h k
 | .r o::p,q,h,k=>dF p q h k
 | .ix n sz i::p,q,h,k=>⟨h.1,dF p q h.2 k⟩
 | .el sz i::p,q,h,k=>dF p q h k
theorem aY.ref_mk {k:Nat} {p:List Step} (hp:cM p):aY G w (.ref k p) (.pointer (some (G.addr k p))) []:=⟨_,⟨rfl,hp,rfl⟩,rfl⟩
theorem aY.ip_mk {τ:Ty} {y:τ.D} {b o:Nat} {cc:List Value} (h1:aR G.I τ y cc) (h2:ym G.I b o cc):aY G w (.ip τ y) (.pointer (some ⟨b,o,none⟩)) []:=⟨_,⟨b,o,cc,rfl,h1,h2,rfl⟩,rfl⟩
theorem vl (hT:TT P c) {t:Nat} {ti:TInfo} {f:Nat} (hl:lkN c.types t=some ti) (hf:mV ti f=true) :
  ∃ fs g,P.underlying t=some (.struct fs)∧fs[f]? = some g∧g.offset=cn (ff ti.ty ti.nf f)∧cM (ff ti.ty ti.nf f)∧∃ z,(∀ w,(sizeOf g.type).run P w = .ok z w)∧z ≠ 0:=by
 obtain ⟨h1,_,_,h4⟩:=hT.ti hl
 simp only [mV,Bool.and_eq_true] at hf
 obtain ⟨hp,hb⟩:=hf
 have hlt:=Nat.le_of_ble_eq_true hb
 cases hty:ti.ty with
 | pair x y =>
  rw [hty] at h1
  obtain ⟨fs,m,hfs,h2,hfl,_⟩:=gF h1
  have hn:=h4 fs hfs
  obtain ⟨g,e1,e2,e3,e4⟩:=yW (gf P m) fs.toList 0 (.pair x y) f hfl (by simp;omega)
  have hlen:fs.toList.length=ti.nf:=by simpa using hn
  rw [hlen] at e2 e4
  refine ⟨fs,g,hfs,by simpa using e1,by rw [e2];simp,e4,_,fun w=>(dI e3).sizeOf w,?_⟩
  have:=(dI e3).pos
  omega
 | _=>simp [hty] at hp
theorem TT.lay (hT:TT P c) {t:Nat} {ly:Nat × Bool} (h:c.lay t=some ly) (w:World):(sizeOf t).run P w = .ok ly.1 w∧(isAgg t).run P w = .ok ly.2 w:=by
 unfold Cx.lay at h
 split at h
 ·rename_i ti hl
  injection h with h;subst h
  have:=(hT.ti hl).1
  exact ⟨(dI this).sizeOf w,zI this w⟩
 ·cases hp:bn t c.ptrs with
  | false=>simp [hp] at h
  | true =>
   simp only [hp,cond_true,Option.some.injEq] at h;subst h
   have:=hT.ptr t hp
   unfold FQ at this
   split at this
   ·rename_i e i he hi
    simp only [Bool.and_eq_true] at this
    exact ⟨by simp [sizeOf,typeInfo,hi,aS.1 this.1],by simp [isAgg,run_underlying he]⟩
   ·cases this
theorem TT.zero (hT:TT P c) {t:Nat} {z:V} (h:c.zero t=some z) (G:Gh) (w:World):∃ x cs,(zeroValue t).run P w = .ok x w∧b8 G w z cs []∧x.cells.toList=cs∧z.refs=[]∧d7 z=false:=by
 unfold Cx.zero at h
 split at h
 ·rename_i ti hl
  injection h with h;subst h
  obtain ⟨x,h1,h2⟩:=(dI (hT.ti hl).1).zero w
  have hp:=(dI (hT.ti hl).1).pos
  have hm:∀ τ:Ty,0<τ.cells→d7 (jO τ)=false:=fun τ h=>by
   cases τ with
   | map a b=>simp [Ty.cells] at h
   | pair a b=>exact fu _ _
   | _=>rfl
  exact ⟨x,dj ti.ty,h1,ij G w ti.ty,h2,m8 ti.ty,hm _ hp⟩
 ·cases hp:bn t c.ptrs with
  | false=>simp [hp] at h
  | true =>
   simp only [hp,cond_true,Option.some.injEq] at h;subst h
   have:=hT.ptr t hp
   unfold FQ at this
   split at this
   ·rename_i e i he hi
    simp only [Bool.and_eq_true] at this
    have hz:=this.2
    split at hz
    ·rename_i hz'
     exact ⟨.pointer none,[.pointer none],by simp [zeroValue,typeInfo,hi,hz'],⟨rfl,rfl⟩,rfl,rfl,rfl⟩
    ·cases hz
   ·cases this
theorem o5 {t f:Nat} {b o:Nat} {fs:Array Field} {g:Field} {z:Nat} (hu:P.underlying t=some (.struct fs)) (hg:fs[f]? = some g) (hz:∀ w,(sizeOf g.type).run P w = .ok z w) (h0:z ≠ 0) :
  (Instr.fieldAt t (.pointer (some ⟨b,o,none⟩)) f).run P w = .ok (.pointer (some ⟨b,o+g.offset,none⟩)) w:=by
 simp only [Instr.fieldAt,Sem.run_bind,run_underlying hu,Result.andThen_ok,hg,Instr.sureAddr]
 simp only [fieldPlace,Sem.run_bind,hz,Result.andThen_ok,Sem.run_pure,if_neg h0,dR]
theorem mY {α:Type} {i:Int} {xs:List α} (h:bO i xs=true):0≤i∧i<xs.length∧aj i<xs.length:=by
 simp only [bO,Bool.and_eq_true,decide_eq_true_eq] at h
 exact ⟨h.1,h.2,by simp only [aj];omega⟩
theorem jg {i:Int} {n:Nat} (h:gh i n=true):0≤i∧i<n∧aj i<n:=by
 simp only [gh,Bool.and_eq_true,decide_eq_true_eq] at h
 exact ⟨h.1,h.2,by simp only [aj];omega⟩
theorem km {l h n:Int} (hh:eE l h n=true):0≤l∧l≤h∧h≤n:=by
 simp only [eE,Bool.and_eq_true,decide_eq_true_eq] at hh
 exact ⟨hh.1.1,hh.1.2,hh.2⟩
theorem eV.slc {e:Ty} {xs:List e.D} {x:Value} (h:eV G.I (.slc e) xs x):∃ ad len cap,x = .slice ad len cap∧xs.length=len∧len≤cap∧(xs=[]∨∃ b o,ad=some ⟨b,o,none⟩∧d8 G.I e.cells (aR G.I e) b o xs) :=
 (h.trep (w:=default)).dat_slc
theorem F5 {e:Ty} {xs:List e.D} {i:Nat} (h:i<xs.length):xs[i]? = some (rd e xs i):=by
 simp [rd,List.getD,List.getElem?_eq_getElem h]
theorem pL {t E:Nat} {e:Ty} {m:Nat} (hu:P.underlying t=some (.slice E)) (hE:gf P m E e=true) {xs:List e.D} {v:Value} (hv:eV G.I (.slc e) xs v) {k:IntKind} {i:Int} (hi:bO i xs=true) :
  ∃ x,(Instr.indexAt t v (.int k i)).run P w = .ok x w∧aY G w (.ip e (rd e xs (aj i))) x []:=by
 obtain ⟨h0,h1,h2⟩:=mY hi
 obtain ⟨ad,len,cap,rfl,hl,hc,hx⟩:=hv.slc
 rcases hx with rfl | ⟨b,o,rfl,hel⟩
 ·simp at h2
 obtain ⟨cc,hcc,hat⟩:=hel (aj i) (rd e xs (aj i)) (F5 h2)
 refine ⟨.pointer (some ⟨b,o+aj i * e.cells,none⟩),?_,aY.ip_mk hcc hat⟩
 simp only [Instr.indexAt,asIntOf,Sem.run_bind,Sem.run_pure,Result.andThen_ok,run_underlying hu]
 rw [if_pos ⟨h0,by rw [← hl];exact h1⟩]
 simp only [Sem.run_bind,(dI hE).sizeOf,Result.andThen_ok,Sem.run_pure,dR]
 rfl
theorem nd {t E:Nat} {e:Ty} {m q:Nat} (hu:P.underlying t=some (.array q E)) (hE:gf P m E e=true) {b o:Nat} {k:IntKind} {i:Int} (hi:gh i q=true) :
  (Instr.indexAt t (.pointer (some ⟨b,o,none⟩)) (.int k i)).run P w = .ok (.pointer (some ⟨b,o+aj i * e.cells,none⟩)) w:=by
 obtain ⟨h0,h1,h2⟩:=jg hi
 simp only [Instr.indexAt,asIntOf,Sem.run_bind,Sem.run_pure,Result.andThen_ok,run_underlying hu,Instr.sureAddr]
 rw [if_pos ⟨h0,h1⟩]
 simp only [Sem.run_bind,(dI hE).sizeOf,Result.andThen_ok,Sem.run_pure,dR]
 rfl
theorem d8.drop {α:Type} {I:Im} {sz:Nat} {R:α→List Value→Prop} {b o:Nat} {xs:List α} (h:d8 I sz R b o xs) (l n:Nat):d8 I sz R b (o+l * sz) ((xs.take n).drop l):=by
 intro i x hx
 rw [List.getElem?_drop] at hx
 have hx':xs[l+i]? = some x:=by
  rw [List.getElem?_take] at hx
  split at hx
  ·exact hx
  ·cases hx
 obtain ⟨cc,h1,h2⟩:=h (l+i) x hx'
 refine ⟨cc,h1,?_⟩
 have:o+l * sz+i * sz=o+(l+i) * sz:=by rw [Nat.add_mul];omega
 rw [this];exact h2
theorem lM {lo hi:Option Value} {len cap:Nat} {isSlice:Bool} {l h:Int} {k1 k2:IntKind} (hlo:lo=none∧l=0∨lo=some (.int k1 l)) (hhi:hi=none∧h=len∨hi=some (.int k2 h)) (hlc:len≤cap) (hb:eE l h len=true) :
  (Instr.sliceBounds isSlice len cap lo hi none).run P w = .ok (l.toNat,h.toNat,cap) w:=by
 obtain ⟨h1,h2,h3⟩:=km hb
 have e1:∀ code,(Instr.sliceBound (.int k2 h) cap code).run P w = .ok h.toNat w:=fun code=>by
  simp only [Instr.sliceBound,asIntOf,Sem.run_bind,Sem.run_pure,Result.andThen_ok]
  rw [if_pos ⟨by omega,by omega⟩];rfl
 have e2:∀ code,(Instr.sliceBound (.int k1 l) h.toNat code).run P w = .ok l.toNat w:=fun code=>by
  simp only [Instr.sliceBound,asIntOf,Sem.run_bind,Sem.run_pure,Result.andThen_ok]
  rw [if_pos ⟨by omega,by omega⟩];rfl
 rcases hlo with ⟨rfl,rfl⟩ | rfl <;> rcases hhi with ⟨rfl,rfl⟩ | rfl
 ·simp [Instr.sliceBounds]
 ·simp [Instr.sliceBounds,e1]
 ·have e2':∀ code,(Instr.sliceBound (.int k1 l) len code).run P w = .ok l.toNat w:=fun code=>by simpa using e2 code
  simp [Instr.sliceBounds,e2']
 ·simp [Instr.sliceBounds,e1,e2]
theorem tp {t E:Nat} {e:Ty} {m:Nat} (hu:P.underlying t=some (.slice E)) (hE:gf P m E e=true) {xs:List e.D} {v:Value} (hv:eV G.I (.slc e) xs v) {lo hi:Option Value} {l h:Int} {k1 k2:IntKind}
  (hlo:lo=none∧l=0∨lo=some (.int k1 l)) (hhi:hi=none∧h=af xs∨hi=some (.int k2 h)) (hb:eE l h (af xs)=true) :
  ∃ x,(Instr.sliceAt t v lo hi none).run P w = .ok x w∧aY G w (.dat (.slc e) (ba xs l h)) x []:=by
 obtain ⟨h1,h2,h3⟩:=km hb
 obtain ⟨ad,len,cap,rfl,hl,hc,hx⟩:=hv.slc
 have h3':h≤len:=by simp only [af] at h3;omega
 have hbr:=lM (P:=P) (w:=w) (isSlice:=true) hlo (by simpa [af,hl] using hhi) hc (by simpa [af,hl] using hb)
 refine ⟨.slice (if cap=l.toNat then ad else ad.map (·.add (l.toNat * e.cells))) (h.toNat - l.toNat) (cap - l.toNat),?_,?_⟩
 ·simp only [Instr.sliceAt,Sem.run_bind,run_underlying hu,Result.andThen_ok,Instr.slice,hbr,(dI hE).sizeOf,Sem.run_pure]
 ·refine ⟨_,⟨⟨_,_,_,rfl,?_,by omega,?_⟩,rfl⟩,rfl⟩
  ·simp only [ba,List.length_drop,List.length_take];omega
  ·rcases hx with rfl | ⟨b,o,rfl,hel⟩
   ·exact .inl (by simp [ba])
   ·by_cases hp:ba xs l h=[]
    ·exact .inl hp
    ·refine .inr ⟨b,o+l.toNat * e.cells,?_,hel.drop l.toNat h.toNat⟩
     have:cap ≠ l.toNat:=by
      intro ec
      apply hp
      apply List.length_eq_zero_iff.1
      simp only [ba,List.length_drop,List.length_take]
      omega
     rw [if_neg this]
     simp [dR]
theorem te {t:Nat} (hu:P.underlying t=some .string) {xs:List UInt8} {lo hi:Option Value} {l h:Int} {k1 k2:IntKind}
  (hlo:lo=none∧l=0∨lo=some (.int k1 l)) (hhi:hi=none∧h=af xs∨hi=some (.int k2 h)) (hb:eE l h (af xs)=true) :
  (Instr.sliceAt t (.string ⟨xs.toArray⟩) lo hi none).run P w = .ok (.string ⟨(ba xs l h).toArray⟩) w:=by
 have hsz:=oG xs
 have hbr:=lM (P:=P) (w:=w) (isSlice:=false) (len:=xs.length) (cap:=xs.length) hlo (by simpa [af] using hhi) (Nat.le_refl _) (by simpa [af] using hb)
 simp only [Instr.sliceAt,Sem.run_bind,run_underlying hu,Result.andThen_ok,Instr.slice,hsz,hbr,Sem.run_pure]
 simp only [Option.isSome_none,Bool.false_eq_true,if_false,Sem.run_bind,Sem.run_pure,Result.andThen_ok,hbr]
 congr 2
 apply ByteArray.ext
 rw [ByteArray.data_extract]
 apply Array.ext'
 simp [ba,List.extract,List.drop_take]
theorem Aa {t:Nat} (hu:P.underlying t=some .string) {xs:List UInt8} {k:IntKind} {i:Int} (hi:bO i xs=true) :
  (Instr.index t (.string ⟨xs.toArray⟩) (.int k i)).run P w = .ok (.int .u8 (bd xs i)) w:=by
 obtain ⟨h0,h1,h2⟩:=mY hi
 have h2':i.toNat<xs.length:=h2
 simp only [Instr.index,asIntOf,Sem.run_bind,Sem.run_pure,Result.andThen_ok,run_underlying hu,if_pos h0]
 have:(⟨xs.toArray⟩:ByteArray)[i.toNat]? = some (xs[i.toNat]):=by
  rw [getElem?_pos _ _ (by rw [oG];exact h2')]
  rfl
 rw [this]
 simp only [Sem.run_pure,bd,List.getD,List.getElem?_eq_getElem h2']
 rfl
theorem Dg {t ty:Nat} {τ:Ty} {v:V} {x:Value} {n:Int} {ts:List Nat} (ht:gf P 40 t τ=true) (hv:aY G w v x ts) (hok:CP τ v=true) (hn:na v=some n) :
  (Builtin.len_ #[t] ty #[x]).run P w = .ok (.int .i64 n) w:=by
 unfold CP at hok
 split at hok
 ·obtain ⟨E,m,hu,_⟩:=dW ht
  obtain ⟨ad,len,cap,rfl,hl,_⟩:=hv.dat_slc
  simp only [na,Option.some.injEq] at hn
  subst hn
  simp [Builtin.len_,run_underlying hu,goInt,af,hl]
 ·obtain ⟨E,m,hu,_⟩:=dW ht
  obtain ⟨cs,⟨q1,q2,⟨b1,b2,b3⟩,q4⟩,q5⟩:=hv
  simp only [V.agg,Bool.false_eq_true,if_false] at q5
  rw [q1] at q5
  simp only [List.cons.injEq,and_true] at q5
  simp only [na,Option.some.injEq,Df] at hn
  subst hn
  rw [← q5]
  have e1:∀ l h:Int,0≤l→l≤h→(((h.toNat - l.toNat:Nat)):Int)=h - l:=fun l h h1 h2=>by omega
  simp [Builtin.len_,run_underlying hu,goInt,e1 _ _ b1 b2]
 ·obtain ⟨E,m,hu,_⟩:=dW ht
  obtain ⟨cs,⟨⟨a,cap,q1,⟨b1,b2⟩,b3⟩,q4⟩,q5⟩:=hv
  simp only [V.agg,Bool.false_eq_true,if_false] at q5
  rw [q1] at q5
  simp only [List.cons.injEq,and_true] at q5
  simp only [na,Option.some.injEq] at hn
  subst hn
  rw [← q5]
  have e1:(((_:Int).toNat:Nat):Int)=_:=Int.toNat_of_nonneg b2
  simp [Builtin.len_,run_underlying hu,goInt,e1]
 ·have hu:=hD ht
  have e1:=hv.dat_str
  subst e1
  simp only [na,Option.some.injEq] at hn
  subst hn
  simp [Builtin.len_,run_underlying hu,goInt,af,oG]
 ·obtain ⟨E,m,hu,_⟩:=gY ht
  simp only [na,Option.some.injEq] at hn
  subst hn
  simp [Builtin.len_,run_underlying hu,goInt,aS.1 hok]
 ·cases hok
theorem uP {q t:Nat} (hq:∃ d,P.underlying q=some d) {k k':IntKind} {n:Int} (hu:P.underlying t=some (.int k)):(convert q t (.int k' n)).run P w = .ok (.int k (bj k n)) w:=by
 obtain ⟨d,hd⟩:=hq
 simp [convert,run_underlying hd,run_underlying hu,Conv.intToInt,bj]
theorem tY {q t:Nat} (hq:P.underlying q=some .string) {b:ByteArray} (hu:P.underlying t=some .string):(convert q t (.string b)).run P w = .ok (.string b) w:=by
 simp [convert,run_underlying hq,run_underlying hu]
end Go.Proofs.YtfhcammihohmjaaGreatDoor.Pal
end
noncomputable section
/- Maps: what the machine's operations do with entries that are data. -/
namespace Go.Proofs.YtfhcammihohmjaaGreatDoor.Pal
open Go
variable [MonoC]
variable {P:Program} {w:World} {I:Im}
theorem Ty.keyT_eq:∀ τ:Ty,τ.keyT=true→τ.hasEq0=true
 | .int _,_=>rfl
 | .bool,_=>rfl
 | .str,h=>by cases h
 | .pair a b,h=>by
  simp only [Ty.keyT,Bool.and_eq_true] at h
  simp only [Ty.hasEq0,Bool.and_eq_true]
  exact ⟨Ty.keyT_eq a h.1,Ty.keyT_eq b h.2⟩
 | .slc _,h=>by cases h
 | .arr _ _,h=>by cases h
 | .map _ _,h=>by cases h
def G9 (P:Program) (τ:Ty):Prop:=∀ (n:Nat) (T:TypeId) (d:Nat),gf P n T τ=true→τ.dep≤d→∀ (I:Im) (x:τ.D) (v:Value),eV I τ x v→∀ (em:Bool) w,(Instr.checkKey em d T v).run P w = .ok () w
def EJ (em : Bool) (d : Nat) (cs : Array Value) (f : Field) : Sem Unit := if f.name ≠ "_" then do Instr.checkKey em d f.type (← part f.type cs f.offset) else pure ()
def y9 (em:Bool) (d:Nat) (cs:Array Value):List Field→Sem Unit
 | []=>pure ()
 | f::r=>do EJ em d cs f;y9 em d cs r
def Gs (P:Program) (τ:Ty):Prop:=∀ (n:Nat) (fs:List Field) (c1 cx:List Value) (d:Nat),2≤fs.length→fQ (gf P n) fs c1.length τ=true→τ.dep≤d+1 →
 ∀ (I:Im) (x:τ.D),aR I τ x cx→∀ (em:Bool) w,(y9 em d (c1++cx).toArray fs).run P w = .ok () w
theorem zh {n : Nat} {τ : Ty} (Ha : G9 P τ) {g : Field} {d : Nat} (hg : gf P n g.type τ = true) (hn : g.name ≠ "_") (hd : τ.dep ≤ d) {c1 x1 x2 : List Value} (ho : g.offset = c1.length) {x : τ.D} (hx : aR I τ x x1) (em : Bool) (w : World) :
  (EJ em d (c1++(x1++x2)).toArray g).run P w = .ok () w:=by
 obtain ⟨u,hu,hu'⟩:=gH hg c1 x1 x2 (aR.length τ x x1 hx) w
 unfold EJ
 rw [if_pos hn,ho]
 simp only [Sem.run_bind,hu,Result.andThen_ok]
 exact Ha n g.type d hg hd I x u ⟨x1,hx,hu'⟩ em w
theorem oU : ∀ τ : Ty, τ.keyT = true → G9 P τ ∧ Gs P τ
  | .int k, _ => ⟨fun n T d h hd I x v ⟨cu, hu, eu⟩ em w => by
      obtain ⟨d,rfl⟩:∃ q,d=q+1:=⟨d - 1,by simp [Ty.dep] at hd;omega⟩
      simp only [aR] at hu;subst hu
      simp [Ty.agg] at eu;subst eu
      simp [Instr.checkKey,run_underlying (jG h)],
    fun n fs c1 cx d h2 h=>by cases fs with | nil=>simp at h2 | cons g r=>cases r with | nil=>simp at h2 | cons g' r=>simp [fQ] at h⟩
  | .bool, _ => ⟨fun n T d h hd I x v ⟨cu, hu, eu⟩ em w => by
      obtain ⟨d,rfl⟩:∃ q,d=q+1:=⟨d - 1,by simp [Ty.dep] at hd;omega⟩
      simp only [aR] at hu;subst hu
      simp [Ty.agg] at eu;subst eu
      simp [Instr.checkKey,run_underlying (jY h)],
    fun n fs c1 cx d h2 h=>by cases fs with | nil=>simp at h2 | cons g r=>cases r with | nil=>simp at h2 | cons g' r=>simp [fQ] at h⟩
  | .str,h=>by cases h
  | .slc _,h=>by cases h
  | .arr _ _,h=>by cases h
  | .map _ _,h=>by cases h
  | .pair a b, hq => by
    simp only [Ty.keyT,Bool.and_eq_true] at hq
    have Ha:=oU a hq.1
    have Hb:=oU b hq.2
    have hF : Gs P (.pair a b) := by
      intro n fs c1 cx d h2 h hd I x hx em w
      obtain ⟨x1,x2,rfl,hx1,hx2⟩:=hx
      have lx:=aR.length a _ x1 hx1
      have hd':a.dep≤d∧b.dep≤d:=by simp [Ty.dep] at hd;omega
      match fs,h2,h with
      | g :: g' :: r, _, h =>
        simp only [fQ,Bool.and_eq_true] at h
        obtain ⟨⟨⟨h1,hg⟩,hn⟩,hr⟩:=h
        have hn' : g.name ≠ "_" := by simpa using hn
        have one:=zh Ha.1 hg hn' hd'.1 (x2:=x2) (aS.1 h1) hx1 em w
        have hrest : (y9 em d (c1 ++ (x1 ++ x2)).toArray (g' :: r)).run P w = .ok () w := by
          cases r with
          | nil =>
            simp only [fQ,Bool.and_eq_true] at hr
            obtain ⟨⟨h3,hg'⟩,hn2⟩:=hr
            have hn2' : g'.name ≠ "_" := by simpa using hn2
            have:=zh Hb.1 hg' hn2' hd'.2 (c1:=c1++x1) (x2:=[]) (by rw [aS.1 h3,List.length_append,lx]) hx2 em w
            simp only [List.append_nil,List.append_assoc] at this
            simp only [y9,Sem.run_bind,this,Result.andThen_ok,Sem.run_pure]
          | cons g2 r =>
            have:=Hb.2 n (g'::g2::r) (c1++x1) x2 d (by simp) (by rw [List.length_append,lx];exact hr) (by omega) I x.2 hx2 em w
            simpa [List.append_assoc] using this
        rw [y9]
        simp only [Sem.run_bind,one,Result.andThen_ok]
        exact hrest
    refine ⟨fun n T d h hd I x v ⟨cu,hu,eu⟩ em w=>?_,hF⟩
    obtain ⟨d,rfl⟩:∃ q,d=q+1:=⟨d - 1,by simp [Ty.dep] at hd;omega⟩
    obtain ⟨fs,m,hfs,h2,hfl,hst⟩:=gF h
    simp [Ty.agg] at eu;subst eu
    have:=hF m fs.toList [] cu d (by simpa using h2) hfl hd I x hu em w
    have e : (Instr.checkKey em (d + 1) T (.agg cu.toArray)).run P w = (y9 em d cu.toArray fs.toList).run P w := by
      simp only [Instr.checkKey,Sem.run_bind,run_underlying hfs,Result.andThen_ok]
      rw [← Array.forIn_toList]
      generalize fs.toList=l
      clear this hfl h2 hfs
      induction l generalizing w with
      | nil=>rfl
      | cons g r ih =>
        rw [List.forIn_cons,y9]
        simp only [Sem.run_bind]
        unfold EJ
        by_cases hn : g.name ≠ "_"
        · simp only [if_pos hn,Sem.run_bind]
          cases hp:(part g.type cu.toArray g.offset).run P w with
          | ok a w1 =>
            simp only [Result.andThen_ok]
            cases hc:(Instr.checkKey em d g.type a).run P w1 with
            | ok u w2=>simp only [Result.andThen_ok,Sem.run_pure];exact ih w2
            | _=>simp [Result.andThen]
          | _=>simp [Result.andThen]
        · simp only [if_neg hn,Sem.run_pure,Result.andThen_ok];exact ih w
    rw [e]
    simpa using this

theorem eV.det:∀ (τ:Ty),τ.keyT=true→∀ (x:τ.D) (c1 c2:List Value),aR I τ x c1→aR I τ x c2→c1=c2
 | .int _,_,x,c1,c2,h1,h2=>by simp only [aR] at h1 h2;rw [h1,h2]
 | .bool,_,x,c1,c2,h1,h2=>by simp only [aR] at h1 h2;rw [h1,h2]
 | .str,h,_,_,_,_,_=>by cases h
 | .slc _,h,_,_,_,_,_=>by cases h
 | .arr _ _,h,_,_,_,_,_=>by cases h
 | .map _ _,h,_,_,_,_,_=>by cases h
 | .pair a b,h,x,_,_,⟨p1,p2,rfl,h1,h2⟩,⟨q1,q2,rfl,h3,h4⟩=>by
  simp only [Ty.keyT,Bool.and_eq_true] at h
  rw [eV.det a h.1 _ _ _ h1 h3,eV.det b h.2 _ _ _ h2 h4]
theorem kY:∀ (τ:Ty),τ.keyT=true→∀ (x:τ.D) (c1:List Value),aR I τ x c1→∀ u ∈ c1,∀ n,Instr.sameBits n u u=true
 | .int _,_,x,c1,h1,u,hu,n=>by simp only [aR] at h1;subst h1;simp at hu;subst hu;simp [Instr.sameBits]
 | .bool,_,x,c1,h1,u,hu,n=>by simp only [aR] at h1;subst h1;simp at hu;subst hu;simp [Instr.sameBits]
 | .str,h,_,_,_,_,_,_=>by cases h
 | .slc _,h,_,_,_,_,_,_=>by cases h
 | .arr _ _,h,_,_,_,_,_,_=>by cases h
 | .map _ _,h,_,_,_,_,_,_=>by cases h
 | .pair a b,h,x,_,⟨p1,p2,rfl,h1,h2⟩,u,hu,n=>by
  simp only [Ty.keyT,Bool.and_eq_true] at h
  rcases List.mem_append.1 hu with hu | hu
  ·exact kY a h.1 _ _ h1 u hu n
  ·exact kY b h.2 _ _ h2 u hu n
def rC (K:Ty) {α:Type}:List (K.D × α)→K.D→List MapEntry→Nat→Option (Nat × Value)
 | p::r,x,m::l,i=>if eQ K x p.1=true then some (i,m.val) else rC K r x l (i+1)
 | _,_,_,_=>none
theorem u5 {τ:Ty} {x:τ.D} {c:List Value} {v:Value} (h:aR I τ x c) (hv:dC τ.agg c v):eV I τ x v:=by
 refine ⟨c,h,?_⟩
 unfold dC at hv
 split at hv
 ·rename_i e;rw [if_pos e];exact hv
 ·rename_i e;rw [if_neg e];exact hv.1
theorem yU {n:Nat} {KT:TypeId} {K E:Ty} (hK:gf P n KT K=true) (hk:K.hasEq0=true) (hd:K.dep≤9000):∀ (es:List (K.D × E.D)) (l:List MapEntry) (i:Nat) (x:K.D) (v:Value),cX I K E es l→eV I K x v →
  ∀ w,(Instr.findAsking KT v l i).run P w = .ok (rC K es x l i) w
 | [],l,i,x,v,h,_,w=>by simp only [cX] at h;subst h;rfl
 | p::r,l,i,x,v,⟨m,l',h1,⟨⟨ck,a1,a2⟩,_⟩,h3⟩,hv,w=>by
  subst h1
  have he:=(pB K hk).1 n KT 10000 hK (by omega) I x p.1 v m.key hv (u5 a1 a2) w
  have he':(Op.equal KT v m.key).run P w = .ok (eQ K x p.1) w:=he
  simp only [Instr.findAsking,Sem.run_bind,he',Result.andThen_ok,rC]
  cases eQ K x p.1 with
  | true=>simp
  | false=>simp;exact yU hK hk hd r l' (i+1) x v h3 hv w
theorem qF {K E:Ty}:∀ (es:List (K.D × E.D)) (l:List MapEntry) (x:K.D) (i:Nat),cX I K E es l →
  (rC K es x l i=none∧es.find? (fun p=>eQ K x p.1)=none∧∀ y,pQ K E es x y=es++[(x,y)]) ∨
  ∃ j m p,rC K es x l i=some (i+j,m.val)∧l[j]? = some m∧es.find? (fun p=>eQ K x p.1)=some p∧u4 I K E p m∧eQ K x p.1=true ∧
   ∀ y m',u4 I K E (x,y) m'→cX I K E (pQ K E es x y) (l.set j m')
 | [],l,x,i,h=>.inl ⟨by simp [rC],rfl,fun _=>rfl⟩
 | p::r,l,x,i,⟨m,l',h1,h2,h3⟩=>by
  subst h1
  cases hq:eQ K x p.1 with
  | true =>
   refine .inr ⟨0,m,p,by simp [rC,hq],rfl,by simp [List.find?,hq],h2,hq,fun y m' hm=>?_⟩
   simp only [pQ,hq,cond_true,List.set_cons_zero]
   exact ⟨m',l',rfl,hm,h3⟩
  | false =>
   rcases qF r l' x (i+1) h3 with ⟨g1,g2,g3⟩ | ⟨j,m1,p1,g1,g2,g3,g4,g5,g6⟩
   ·exact .inl ⟨by simp [rC,hq,g1],by simp [List.find?,hq,g2],fun y=>by simp only [pQ,hq,cond_false,g3 y];rfl⟩
   ·refine .inr ⟨j+1,m1,p1,?_,g2,by simp [List.find?,hq,g3],g4,g5,fun y m' hm=>?_⟩
    ·simp only [rC,hq,Bool.false_eq_true,if_false,g1];congr 2;omega
    ·simp only [pQ,hq,cond_false,List.set_cons_succ]
     exact ⟨m,_,rfl,h2,g6 y m' hm⟩
theorem ot {K E:Ty}:∀ (es:List (K.D × E.D)) (l:List MapEntry) (p:K.D × E.D) (m:MapEntry),cX I K E es l→u4 I K E p m→cX I K E (es++[p]) (l++[m])
 | [],l,p,m,h,hm=>by simp only [cX] at h;subst h;exact ⟨m,[],rfl,hm,rfl⟩
 | q::r,l,p,m,⟨m0,l',h1,h2,h3⟩,hm=>by subst h1;exact ⟨m0,_,rfl,h2,ot r l' p m h3 hm⟩
theorem yS {T:TypeId} {k e:Ty} (h:Ds P T (k,e)=true):∃ K E,P.underlying T=some (.map K E)∧gf P 40 K k=true∧gf P 40 E e=true∧k.keyT=true∧k.dep≤9000∧Fm k=true∧GI P E e=true:=by
 unfold Ds at h
 split at h
 ·rename_i K E hu
  simp only [Bool.and_eq_true] at h
  exact ⟨K,E,hu,h.1.1.1.1.1,h.1.1.1.1.2,h.1.1.1.2,Nat.le_of_ble_eq_true h.1.1.2,h.1.2,h.2⟩
 ·cases h
theorem od {KT:TypeId} {K E:Ty} (hK:gf P 40 KT K=true) (hk:K.keyT=true) (hd:K.dep≤9000) (hp:Fm K=true) {es:List (K.D × E.D)} {l:List MapEntry} {x:K.D} {v:Value} (h:cX I K E es l) (hv:eV I K x v) (w:World) :
  (Instr.findKey KT v l).run P w = .ok (rC K es x l 0) w:=by
 have hw:(match P.underlying KT with | some (.array _ _) | some (.struct _)=>true | _=>false)=true:=by
  cases K with
  | pair a b=>obtain ⟨fs,m,hfs,_⟩:=gF hK;rw [hfs]
  | _=>cases hp
 rw [run_findKey_eq w hw]
 exact yU hK (Ty.keyT_eq K hk) hd es l 0 x v h hv w
theorem BD {E:TypeId} {τ:Ty} (hE:gf P 40 E τ=true) (hz:GI P E τ=true) (w:World):∃ z,(zeroValue E).run P w = .ok z w∧eV I τ τ.zero z:=by
 obtain ⟨i,hi,_,_,z,hzz,hc⟩:=(dI hE).info
 refine ⟨z,by simp [zeroValue,typeInfo,hi,hzz],dj τ,dL I τ,?_⟩
 unfold GI at hz
 rw [hi] at hz
 simp only [hzz] at hz
 cases z with
 | agg cs =>
  have hz:τ.agg=true:=hz
  rw [if_pos hz]
  have hc:cs.toList=dj τ:=hc
  rw [← hc]
 | tuple _=>cases hz
 | _ =>
  have hz:(!τ.agg)=true:=hz
  rw [if_neg (by simpa using hz)]
  exact hc.symm
theorem eV.of {τ:Ty} {x:τ.D} {v:Value} (h:eV I τ x v):∃ c,aR I τ x c∧dC τ.agg c v:=by
 obtain ⟨c,h1,h2⟩:=h
 refine ⟨c,h1,?_⟩
 unfold dC
 split at h2
 ·rename_i e;rw [if_pos e];exact h2
 ·rename_i e;rw [if_neg e];exact ⟨h2,aR.plain τ x c h1 v (by rw [h2];simp)⟩
theorem mO {g clock:Nat} {ents:Array MapEntry} (hb:w.heap[g]? = some (.map ents clock)):(getObj g).run P w = .ok (.map ents clock) w:=by simp [getObj,Sem.run,hb]
theorem wC {g clock:Nat} {ents:Array MapEntry} (o:Obj) (hb:w.heap[g]? = some (.map ents clock)):(setObj g o).run P w = .ok () { w with heap:=w.heap.setIfInBounds g o }:=by simp [setObj,Sem.run,hb]
theorem yo {T:TypeId} {K E:Ty} (hm:Ds P T (K,E)=true) {g clock:Nat} {ents:Array MapEntry} {es:List (K.D × E.D)} (hg:w.heap[g]? = some (.map ents clock)) (hes:cX I K E es ents.toList) {x:K.D} {v:Value} (hv:eV I K x v) (ok:Bool) :
  ∃ y,(Instr.lookup T (.map (some g)) v ok).run P w = .ok (if ok then .tuple #[y,.bool (rk K es x)] else y) w∧eV I E (tU K E es x) y:=by
 obtain ⟨KT,ET,hu,hK,hE,hk,hd,hp,hz⟩:=yS hm
 have hc:=(oU K hk).1 40 KT 10000 hK (by omega) I x v hv ents.isEmpty w
 have hf:=od hK hk hd hp hes hv w
 rcases qF es ents.toList x 0 hes with ⟨h1,h2,_⟩ | ⟨j,m,p,h1,_,h2,h3,_⟩
 ·obtain ⟨z,hz1,hz2⟩:=BD (I:=I) hE hz w
  have e1:tU K E es x=E.zero:=by unfold tU;rw [h2];rfl
  have e2:rk K es x=false:=by unfold rk;rw [h2];rfl
  refine ⟨z,?_,by rw [e1];exact hz2⟩
  rw [h1] at hf
  simp only [Instr.lookup,Sem.run_bind,run_underlying hu,Result.andThen_ok,mO hg,Sem.run_pure,hc,hf,hz1,e2]
 ·have e1:tU K E es x=p.2:=by unfold tU;rw [h2];rfl
  have e2:rk K es x=true:=by unfold rk;rw [h2];rfl
  obtain ⟨_,ce,g1,g2⟩:=h3
  refine ⟨m.val,?_,by rw [e1];exact u5 g1 g2⟩
  rw [h1] at hf
  simp only [Instr.lookup,Sem.run_bind,run_underlying hu,Result.andThen_ok,mO hg,Sem.run_pure,hc,hf,e2]
theorem qM:∀ (τ:Ty),τ.keyT=true→∀ x y:τ.D,eQ τ x y=true ↔ x=y
 | .int _,_,x,y=>by show (x == y)=true ↔ _;exact beq_iff_eq
 | .bool,_,x,y=>by show (x == y)=true ↔ _;exact beq_iff_eq
 | .str,h,_,_=>by cases h
 | .slc _,h,_,_=>by cases h
 | .arr _ _,h,_,_=>by cases h
 | .map _ _,h,_,_=>by cases h
 | .pair a b,h,x,y=>by
  simp only [Ty.keyT,Bool.and_eq_true] at h
  show (eQ a x.1 y.1 && eQ b x.2 y.2)=true ↔ _
  rw [Bool.and_eq_true,qM a h.1,qM b h.2]
  exact ⟨fun e=>Prod.ext e.1 e.2,fun e=>by rw [e];exact ⟨rfl,rfl⟩⟩
theorem tP {K:Ty} (hk:K.keyT=true) {x:K.D} {a b:Value} (ha:eV I K x a) (hb:eV I K x b):Instr.sameBits 10000 a b=true:=by
 obtain ⟨ca,h1,h2⟩:=ha
 obtain ⟨cb,h3,h4⟩:=hb
 have:=eV.det K hk x ca cb h1 h3
 subst this
 cases hag:K.agg with
 | true =>
  rw [hag] at h2 h4
  simp only [if_true] at h2 h4
  subst h2;subst h4
  show (ca.toArray.size == ca.toArray.size && (ca.toArray.toList.zip ca.toArray.toList).all fun p=>Instr.sameBits 9999 p.1 p.2)=true
  rw [Bool.and_eq_true]
  refine ⟨by simp,List.all_eq_true.2 fun p hp=>?_⟩
  have e:ca.toArray.toList=ca:=by simp
  rw [e] at hp
  obtain ⟨i,hi,hpi⟩:=List.mem_iff_getElem.1 hp
  rw [List.getElem_zip] at hpi
  subst hpi
  exact kY K hk x ca h1 _ (List.getElem_mem _) 9999
 | false =>
  rw [hag] at h2 h4
  simp only [Bool.false_eq_true,if_false] at h2 h4
  rw [h2] at h4
  simp only [List.cons.injEq,and_true] at h4
  subst h4
  exact kY K hk x ca h1 a (by rw [h2];simp) 10000
theorem wd {α:Type} (a:Array α) (j:Nat) (f:α→α) (m:α) (h:a.toList[j]? = some m):(a.modify j f).toList=a.toList.set j (f m):=by
 apply List.ext_getElem?
 intro i
 rw [List.getElem?_set]
 have hj:j<a.toList.length:=(List.getElem?_eq_some_iff.1 h).1
 by_cases e:j=i
 ·subst e
  rw [if_pos rfl,if_pos hj]
  simp only [Array.getElem?_toList] at h ⊢
  simp [Array.getElem?_modify,h]
 ·rw [if_neg e]
  simp only [Array.getElem?_toList]
  simp [Array.getElem?_modify,e]
theorem xi {T:TypeId} {K E:Ty} (hm:Ds P T (K,E)=true) {g clock:Nat} {ents:Array MapEntry} {es:List (K.D × E.D)} (hg:w.heap[g]? = some (.map ents clock)) (hes:cX I K E es ents.toList) {x:K.D} {v:Value} (hv:eV I K x v) {y:E.D} {u:Value} (hy:eV I E y u) :
  ∃ ents' clock',(Instr.mapUpdate T (.map (some g)) v u).run P w = .ok () { w with heap:=w.heap.setIfInBounds g (.map ents' clock') }∧cX I K E (pQ K E es x y) ents'.toList:=by
 obtain ⟨KT,ET,hu,hK,hE,hk,hd,hp,hz⟩:=yS hm
 have hc:=(oU K hk).1 40 KT 10000 hK (by omega) I x v hv false w
 have hf:=od hK hk hd hp hes hv w
 rcases qF es ents.toList x 0 hes with ⟨h1,_,h2⟩ | ⟨j,m,p,h1,hj,_,h3,h4,h5⟩
 ·refine ⟨ents.push { key:=v,val:=u,born:=clock },clock+1,?_,?_⟩
  ·rw [h1] at hf
   simp only [Instr.mapUpdate,Sem.run_bind,run_underlying hu,Result.andThen_ok,mO hg,hc,hf,wC _ hg]
  ·rw [h2 y,Array.toList_push]
   exact ot es _ (x,y) _ hes ⟨hv.of,hy.of⟩
 ·refine ⟨ents.modify (0+j) fun e=>{ e with key:=v,val:=u },clock,?_,?_⟩
  ·rw [h1] at hf
   have hk1:eV I K p.1 m.key:=by obtain ⟨⟨ck,a1,a2⟩,_⟩:=h3;exact u5 a1 a2
   have hxp:x=p.1:=(qM K hk x p.1).1 h4
   have hs:Instr.sameBits 10000 m.key v=true:=tP hk (hxp ▸ hk1) hv
   have he:((ents[0+j]?).map (·.key)).getD v=m.key:=by rw [← Array.getElem?_toList,Nat.zero_add,hj];rfl
   have hst:(Instr.keyThatStays m.key v).run P w = .ok v w:=by unfold Instr.keyThatStays;rw [if_pos hs];rfl
   simp only [Instr.mapUpdate,Sem.run_bind,run_underlying hu,Result.andThen_ok,mO hg,hc,hf,he,hst,wC _ hg]
  ·rw [Nat.zero_add,wd ents j _ m hj]
   exact h5 y _ ⟨hv.of,hy.of⟩
end Go.Proofs.YtfhcammihohmjaaGreatDoor.Pal
end
noncomputable section
/- Memory goes on: draws, new blocks, stores, new lists, longer lists. -/
namespace Go.Proofs.YtfhcammihohmjaaGreatDoor.Pal
open Go
variable [MonoC]
variable {P:Program} {X Y:Nat→Nat→Prop} {G0 G G':Gh} {w0 w w':World} {s:St} {a:Act} {c:Cx}

theorem Ev.refl (Y:Nat→Nat→Prop) (G:Gh) (w:World):Ev Y G w G w:=⟨Evo.refl Y w,Im.le_refl _,fun _ _ _ h=>.inl h,fun _ _ _=>rfl⟩
theorem Ev.quiet {Y:Nat→Nat→Prop} (h:Evo Y w w'):Ev Y G w G w':=⟨h,Im.le_refl _,fun _ _ _ h=>.inl h,fun _ _ _=>rfl⟩
theorem Ev.trans {Y:Nat→Nat→Prop} (h:Ev X G0 w0 G w) (k:Ev Y G w G' w') (hY:∀ b o,b<w0.heap.size→Y b o→X b o):Ev X G0 w0 G' w':=by
 refine ⟨h.evo.trans k.evo (fun _ _ _ h=>h) hY,Im.le_trans h.le k.le,fun b o v hv=>?_,fun b o hb=>(k.own b o (Nat.lt_of_lt_of_le hb h.evo.size)).trans (h.own b o hb)⟩
 rcases k.grow b o v hv with h1 | h1 | h1
 ·exact h.grow b o v h1
 ·exact .inr (.inl (Nat.le_trans h.evo.size h1))
 ·rcases Nat.lt_or_ge b w0.heap.size with hb | hb
  ·exact .inr (.inr (hY b o hb h1))
  ·exact .inr (.inl hb)
theorem Base.step (hB:Base X G0 w0 G w) (hE:Ev Y G w G' w') (hW:Wf G' w') (hp:∀ j,G'.ρ (1000000+j)=G.ρ (1000000+j)) (hY:∀ b o,b<w0.heap.size→Y b o→X b o):Base X G0 w0 G' w' :=
 ⟨⟨hB.ev.evo.trans hE.evo (fun _ _ _ h=>h) hY,Im.le_trans hB.ev.le hE.le,fun b o v hv=>by
  rcases hE.grow b o v hv with h1 | h1 | h1
  ·exact hB.ev.grow b o v h1
  ·exact .inr (.inl (Nat.le_trans hB.ev.evo.size h1))
  ·rcases Nat.lt_or_ge b w0.heap.size with hb | hb
   ·exact .inr (.inr (hY b o hb h1))
   ·exact .inr (.inl hb),fun b o hb=>by rw [hE.own b o (Nat.lt_of_lt_of_le hb hB.ev.evo.size)];exact hB.ev.own b o hb⟩,hW,fun j=>(hp j).trans (hB.par j),fun b o k hb ho=>hB.xo b o k hb (by rw [← hE.own b o (Nat.lt_of_lt_of_le hb hB.ev.evo.size)];exact ho),hB.tab,hB.nm⟩
theorem cI.owned:∀ (τ:Ty) (x:τ.D) (cs:List Value) (ts:List Nat),cI G w τ x cs ts→∀ g,g ∈ ts→g<w.heap.size∧∀ o,G.O g o=none
 | .box τ,o,cs,ts,h,g,hg=>by
  cases o with
  | none=>obtain ⟨_,rfl⟩:=h;cases hg
  | some x =>
   obtain ⟨g',off,c,ts',_,rfl,h3,_,_,h6,h7,h8⟩:=h
   rcases List.mem_cons.1 hg with rfl | hg
   ·exact ⟨h3.lt (by rw [cI.length τ x c ts' h8];exact h7),h6⟩
   ·exact cI.owned τ x c ts' h8 g hg
 | .pair a b,x,cs,ts,⟨c1,c2,t1,t2,_,ht,h1,h2⟩,g,hg=>by
  subst ht
  rcases List.mem_append.1 hg with h | h
  ·exact cI.owned a _ _ _ h1 g h
  ·exact cI.owned b _ _ _ h2 g h
 | .int k,x,cs,ts,⟨_,e⟩,g,hg=>by subst e;cases hg
 | .bool,x,cs,ts,⟨_,e⟩,g,hg=>by subst e;cases hg
 | .str,x,cs,ts,⟨_,e⟩,g,hg=>by subst e;cases hg
 | .slc e,x,cs,ts,⟨_,e'⟩,g,hg=>by subst e';cases hg
 | .arr n e,x,cs,ts,⟨_,e'⟩,g,hg=>by subst e';cases hg
 | .map a b,x,cs,ts,⟨_,e⟩,g,hg=>by subst e;cases hg
theorem b8.owned:∀ (v:V) (cs:List Value) (ts:List Nat),b8 G w v cs ts→∀ g,g ∈ ts→g<w.heap.size∧∀ o,G.O g o=none
 | .dat τ x,cs,ts,⟨_,e⟩,g,hg=>by subst e;cases hg
 | .own e xs,cs,ts,⟨ad,len,cap,_,_,_,h⟩,g,hg=>by
  rcases h with ⟨_,rfl⟩ | ⟨g',_,rfl,_,⟨cells,t,hb,_⟩,_,hO⟩
  ·cases hg
  ·simp only [List.mem_singleton] at hg;subst hg
   exact ⟨(Array.getElem?_eq_some_iff.1 hb).1,hO⟩
 | .pr a b,cs,ts,⟨c1,c2,t1,t2,_,e,h1,h2⟩,g,hg=>by
  subst e
  rcases List.mem_append.1 hg with h | h
  ·exact b8.owned a c1 t1 h1 g h
  ·exact b8.owned b c2 t2 h2 g h
 | .ref k p,cs,ts,⟨_,_,e⟩,g,hg=>by subst e;cases hg
 | .nilp,cs,ts,⟨_,e⟩,g,hg=>by subst e;cases hg
 | .ip τ x,cs,ts,⟨_,_,_,_,_,_,e⟩,g,hg=>by subst e;cases hg
 | .fn f caps,cs,ts,⟨_,_,_,e⟩,g,hg=>by subst e;cases hg
 | .bnd f caps,cs,ts,⟨_,_,_,e⟩,g,hg=>by subst e;cases hg
 | .tup2 a b,cs,ts,⟨va,vb,ca,cb,t1,t2,_,e,h1,_,h2,_⟩,g,hg=>by
  subst e
  rcases List.mem_append.1 hg with h | h
  ·exact b8.owned a ca t1 h1 g h
  ·exact b8.owned b cb t2 h2 g h
 | .tup3 a b d,cs,ts,⟨va,vb,vd,ca,cb,cd,t1,t2,t3,_,e,h1,_,h2,_,h3,_⟩,g,hg=>by
  subst e
  rcases List.mem_append.1 hg with h | h
  ·exact b8.owned a ca t1 h1 g h
  ·rcases List.mem_append.1 h with h | h
   ·exact b8.owned b cb t2 h2 g h
   ·exact b8.owned d cd t3 h3 g h
 | .lent _,_,_,h,_,_=>h.elim
 | .unit,cs,ts,⟨_,e⟩,g,hg=>by subst e;cases hg
 | .raw e xs,cs,ts,⟨ad,len,cap,_,_,_,h⟩,g,hg=>by
  rcases h with ⟨_,rfl⟩ | ⟨g',_,rfl,⟨cells,t,cc,hb,_⟩,_,hO⟩
  ·cases hg
  ·simp only [List.mem_singleton] at hg;subst hg
   exact ⟨(Array.getElem?_eq_some_iff.1 hb).1,hO⟩
 | .any,cs,ts,⟨_,e⟩,g,hg=>by subst e;cases hg
 | .view _ _ _ _ _ _,cs,ts,⟨_,_,_,e⟩,g,hg=>by subst e;cases hg
 | .mref _,cs,ts,⟨_,e⟩,g,hg=>by subst e;cases hg
 | .vref _ _ _,cs,ts,⟨_,e⟩,g,hg=>by subst e;cases hg
 | .gone,cs,ts,⟨_,e⟩,g,hg=>by subst e;cases hg
 | .box τ o,cs,ts,h,g,hg=>cI.owned (.box τ) o cs ts h g hg
 | .vec k e xs,cs,ts,h,g,hg=>by
  obtain ⟨_,a,len,cap,⟨_,_,_,_,_,_,h⟩,_⟩:=h
  rcases h with ⟨_,rfl⟩ | ⟨g',_,rfl,⟨cells,t,cc,hb,_⟩,_,hO⟩
  ·cases hg
  ·simp only [List.mem_singleton] at hg;subst hg
   exact ⟨(Array.getElem?_eq_some_iff.1 hb).1,hO⟩
theorem aY.owned {v:V} {x:Value} {ts:List Nat} (h:aY G w v x ts) {g:Nat} (hg:0<bi g ts):g<w.heap.size∧∀ o,G.O g o=none:=by
 obtain ⟨cs,h,_⟩:=h
 exact h.owned v cs ts g (bb.2 hg)
theorem aL.owned {tmps:Array Value}:∀ (env:List (Nat × V)) (ts:List Nat),aL G w tmps env ts→∀ g,0<bi g ts→g<w.heap.size∧∀ o,G.O g o=none
 | [],ts,h,g,hg=>by simp only [aL] at h;subst h;simp at hg
 | (t,v)::r,ts,h,g,hg=>by
  cases v with
  | lent u=>exact aL.owned r ts h.2 g hg
  | _ =>
   obtain ⟨t1,t2,rfl,h1,h2⟩:=h
   simp only [bN] at hg
   rcases Nat.eq_zero_or_pos (bi g t1) with h0 | h0
   ·exact aL.owned r t2 h2 g (by omega)
   ·exact h1.owned h0
theorem aM.owned:∀ (mem:List (Nat × V)) (ts:List Nat),aM G w mem ts→∀ g,0<bi g ts→g<w.heap.size∧∀ o,G.O g o=none
 | [],ts,h,g,hg=>by simp only [aM] at h;subst h;simp at hg
 | (k,v)::r,ts,⟨t1,t2,cs,e,h1,_,_,h4⟩,g,hg=>by
  subst e
  simp only [bN] at hg
  rcases Nat.eq_zero_or_pos (bi g t1) with h0 | h0
  ·exact aM.owned r t2 h4 g (by omega)
  ·exact h1.owned v cs t1 g (bb.2 h0)
theorem gk.step {v:V} {x:Value} (hR:gk X G0 w0 G s a.tmps w v x) (hE:Ev Y G w G' w') (hW:Wf G' w') (hp:∀ j,G'.ρ (1000000+j)=G.ρ (1000000+j)) (hY:∀ b o,b<w0.heap.size→Y b o→X b o)
  (hr:∀ k,k ∈ bh s.env∨k ∈ bh s.mem∨k ∈ cR s.mem∨k ∈ v.refs→G'.ρ k=G.ρ k) (hO:∀ b o,Y b o→b<w.heap.size→∃ k,G.O b o=some k∧k ∉ cR s.mem):gk X G0 w0 G' s a.tmps w' v x:=by
 obtain ⟨hB,tE,tM,tV,h1,h2,h3,h4,h5⟩:=hR
 have hn:∀ g,g<w.heap.size→(∀ o,G.O g o=none)→∀ o,¬ Y g o:=fun g hg hn o hy=>by
  obtain ⟨k,hk,_⟩:=hO g o hy hg
  rw [hn o] at hk;cases hk
 refine ⟨hB.step hE hW hp hY,tE,tM,tV,h1.ev hE s.env tE (fun k h=>hr k (.inl h)) ?_,aM.ev hE s.mem tM (fun k h=>hr k (.inr (.inl h))) (fun k h=>hr k (.inr (.inr (.inl h)))) ?_ ?_ h2,h3.ev hE (fun k h=>hr k (.inr (.inr (.inr h)))) ?_,h4,h5⟩
 ·intro g hg;have:=aL.owned s.env tE h1 g (bb.1 hg);exact hn g this.1 this.2
 ·intro g hg;have:=aM.owned s.mem tM h2 g (bb.1 hg);exact hn g this.1 this.2
 ·intro k hk b o ho hy
  obtain ⟨k',hk',hne⟩:=hO b o hy (hB.wf.lt b o k ho)
  rw [ho] at hk';injection hk' with hk';subst hk'
  exact hne hk
 ·intro g hg;have:=h3.owned (bb.1 hg);exact hn g this.1 this.2
theorem Wf.alloc (h:Wf G w) (o:Obj):Wf G (w.alloc o) :=
 ⟨fun b q v hv=>by rw [World.cell?_alloc_lt _ _ _ (World.block_lt_of_cell? w _ (h.holds b q v hv))];exact h.holds b q v hv,h.io,fun b q k hk=>by have:=h.lt b q k hk;simp;omega,h.whole⟩
theorem Wf.drew (h:Wf G w):Wf G w.drew:=⟨h.holds,h.io,h.lt,h.whole⟩
theorem gk.alloc {v:V} {x:Value} (hR:gk X G0 w0 G s a.tmps w v x) (o:Obj):gk X G0 w0 G s a.tmps (w.alloc o) v x :=
 hR.step (Y:=fun _ _=>False) (.quiet (Evo.alloc _ w o)) (hR.1.wf.alloc o) (fun _=>rfl) (fun _ _ _ h=>h.elim) (fun _ _=>rfl) (fun _ _ h=>h.elim)
theorem gk.drew {v:V} {x:Value} (hR:gk X G0 w0 G s a.tmps w v x):gk X G0 w0 G s a.tmps w.drew v x :=
 hR.step (Y:=fun _ _=>False) (.quiet (Evo.drew _ w)) hR.1.wf.drew (fun _=>rfl) (fun _ _ _ h=>h.elim) (fun _ _=>rfl) (fun _ _ h=>h.elim)
theorem RS.v (hR:RS X G0 w0 G s a.tmps w):gk X G0 w0 G s a.tmps w .nilp (.pointer none):=hR.withV ⟨_,⟨rfl,rfl⟩,rfl⟩
theorem gk.rs {v:V} {x:Value} (hR:gk X G0 w0 G s a.tmps w v x):RS X G0 w0 G s a.tmps w:=by
 obtain ⟨hB,tE,tM,tV,h1,h2,_,h4,h5⟩:=hR
 exact ⟨hB,tE,tM,h1,h2,fun g=>by have:=h4 g;omega,fun g hg=>h5 g (by omega)⟩
theorem RS.drew (hR:RS X G0 w0 G s a.tmps w):RS X G0 w0 G s a.tmps w.drew:=(hR.v.drew).rs

def Gh.var (G:Gh) (w:World) (d n:Nat):Gh :=
 { G with O:=fun b o=>if b=w.heap.size then some d else G.O b o,ρ:=fun k=>if k=d then (w.heap.size,0) else G.ρ k }
theorem Wf.none_new (h:Wf G w) (o:Nat):G.I w.heap.size o=none∧G.O w.heap.size o=none:=by
 constructor
 ·cases hv:G.I w.heap.size o with
  | none=>rfl
  | some v=>have:=World.block_lt_of_cell? w _ (h.holds _ _ v hv);simp at this
 ·cases hv:G.O w.heap.size o with
  | none=>rfl
  | some k=>have:=h.lt _ _ k hv;omega
theorem Gh.var_ev (hW:Wf G w) (d n:Nat) (o:Obj):Ev (fun _ _=>False) G w (G.var w d n) (w.alloc o) :=
 ⟨Evo.alloc _ w o,fun _ _ _ h=>h,fun _ _ _ h=>.inl h,fun b q hb=>by simp only [Gh.var];rw [if_neg (by omega)]⟩
theorem Gh.var_wf (hW:Wf G w) (d n:Nat) (o:Obj):Wf (G.var w d n) (w.alloc o):=by
 refine ⟨(hW.alloc o).holds,fun b q v hv=>?_,fun b q k hk=>?_,?_⟩
 ·simp only [Gh.var] at hv ⊢
  by_cases e:b=w.heap.size
  ·subst e;rw [(hW.none_new q).1] at hv;cases hv
  ·rw [if_neg e];exact hW.io b q v hv
 ·simp only [Gh.var] at hk
  by_cases e:b=w.heap.size
  ·subst e;simp
  ·rw [if_neg e] at hk;have:=hW.lt b q k hk;simp;omega
 ·intro b q k hk hlt q'
  simp only [Gh.var] at hk ⊢
  by_cases e:b=w.heap.size
  ·rw [if_pos e] at hk ⊢;exact hk
  ·rw [if_neg e] at hk ⊢;exact hW.whole b q k hk hlt q'
theorem rQ:∀ (l:List Nat) (t:Nat),bn t l=false→t ∉ l
 | [],_,_=>by simp
 | k::r,t,h=>by
  simp only [bn,Bool.or_eq_false_iff] at h
  simp only [List.mem_cons,not_or]
  refine ⟨fun e=>?_,rQ r t h.2⟩
  subst e
  have:Nat.beq t t=true:=aS.2 rfl
  rw [this] at h;cases h.1
theorem cN:∀ (m:List (Nat × V)) (k:Nat),cz k m=true→k ∉ bh m
 | [],k,_=>by simp [bh]
 | (t,v)::r,k,h=>by
  simp only [cz,Bool.and_eq_true,Bool.not_eq_true'] at h
  have key:∀ l:List Nat,bn k l=false→k ∉ l:=by
   intro l
   induction l with
   | nil=>intro _;simp
   | cons q l ih =>
    intro hm
    simp only [bn,Bool.or_eq_false_iff] at hm
    simp only [List.mem_cons,not_or]
    refine ⟨fun e=>?_,ih hm.2⟩
    subst e
    have:Nat.beq k k=true:=aS.2 rfl
    rw [this] at hm;cases hm.1
  simp only [bh,List.mem_append,not_or]
  exact ⟨key _ h.1,cN r k h.2⟩
theorem iJ:∀ (m:List (Nat × V)) (k:Nat),lk m k=none→k ∉ cR m
 | [],k,_=>by simp [cR]
 | (q,v)::r,k,h=>by
  rw [bR] at h
  split at h
  ·cases h
  ·rename_i hne
   have:=iJ r k h
   simp only [cR,List.map_cons,List.mem_cons,not_or]
   exact ⟨fun e=>hne e.symm,this⟩
theorem iu {v:V} {x:Value} {cs:List Value} {ts:List Nat} (h:b8 G w v cs ts) (hx:if v.agg then x = .agg cs.toArray else cs=[x]):x.cells.toList=cs:=by
 cases hag:v.agg with
 | true=>simp [hag] at hx;subst hx;simp [Value.cells]
 | false =>
  simp [hag] at hx
  subst hx
  have key:x.cells=#[x]→x.cells.toList=[x]:=fun e=>by rw [e]
  apply key
  cases v with
  | dat τ y =>
   cases τ <;> simp [V.agg,Ty.agg] at hag
   ·obtain ⟨h,_⟩:=h;simp only [aR,List.cons.injEq,and_true] at h;subst h;rfl
   ·obtain ⟨h,_⟩:=h;simp only [aR,List.cons.injEq,and_true] at h;subst h;rfl
   ·obtain ⟨h,_⟩:=h;simp only [aR,List.cons.injEq,and_true] at h;subst h;rfl
   ·obtain ⟨⟨_,_,_,h,_⟩,_⟩:=h;simp only [List.cons.injEq,and_true] at h;subst h;rfl
   ·obtain ⟨h,_⟩:=h;simp only [aR] at h;cases h
   ·obtain ⟨h,_⟩:=h;simp only [aR,List.cons.injEq,and_true] at h;obtain ⟨_,h⟩:=h;subst h;rfl
  | own e xs=>obtain ⟨_,_,_,h,_⟩:=h;simp only [List.cons.injEq,and_true] at h;subst h;rfl
  | raw e xs=>obtain ⟨_,_,_,h,_⟩:=h;simp only [List.cons.injEq,and_true] at h;subst h;rfl
  | any=>obtain ⟨⟨y,h,hp⟩,_⟩:=h;simp only [List.cons.injEq,and_true] at h;subst h;cases x <;> first | rfl | (cases hp)
  | pr a b=>simp [V.agg] at hag
  | ref k p=>obtain ⟨h,_⟩:=h;simp only [List.cons.injEq,and_true] at h;subst h;rfl
  | nilp=>obtain ⟨h,_⟩:=h;simp only [List.cons.injEq,and_true] at h;subst h;rfl
  | view _ _ _ _ _ _=>obtain ⟨h,_⟩:=h;simp only [List.cons.injEq,and_true] at h;subst h;rfl
  | mref _=>obtain ⟨h,_⟩:=h;simp only [List.cons.injEq,and_true] at h;subst h;rfl
  | vref _ _ _=>obtain ⟨⟨_,_,h,_⟩,_⟩:=h;simp only [List.cons.injEq,and_true] at h;subst h;rfl
  | vec _ _ _=>obtain ⟨h,_⟩:=h;cases h
  | gone=>obtain ⟨h,_⟩:=h;cases h
  | box τ o =>
   cases o with
   | none=>obtain ⟨h,_⟩:=h;simp only [List.cons.injEq,and_true] at h;subst h;rfl
   | some y=>obtain ⟨_,_,_,_,h,_⟩:=h;simp only [List.cons.injEq,and_true] at h;subst h;rfl
  | ip τ y=>obtain ⟨_,_,_,h,_⟩:=h;simp only [List.cons.injEq,and_true] at h;subst h;rfl
  | fn f caps=>obtain ⟨_,h,_⟩:=h;simp only [List.cons.injEq,and_true] at h;subst h;rfl
  | bnd f caps=>obtain ⟨_,h,_⟩:=h;simp only [List.cons.injEq,and_true] at h;subst h;rfl
  | tup2 a b=>obtain ⟨_,_,_,_,_,_,h,_⟩:=h;simp only [List.cons.injEq,and_true] at h;subst h;rfl
  | tup3 a b d=>obtain ⟨_,_,_,_,_,_,_,_,_,h,_⟩:=h;simp only [List.cons.injEq,and_true] at h;subst h;rfl
  | lent t=>exact h.elim
  | unit=>obtain ⟨h,_⟩:=h;simp only [List.cons.injEq,and_true] at h;subst h;rfl
theorem b8.plain:∀ (v:V) (cs:List Value) (ts:List Nat),b8 G w v cs ts→cZ v=false→∀ u ∈ cs,lZ u=true
 | .dat τ x,cs,ts,⟨h,_⟩,_=>aR.plain τ x cs h
 | .own e xs,cs,ts,⟨_,_,_,h,_⟩,_=>by subst h;intro u hu;simp at hu;subst hu;rfl
 | .pr a b,cs,ts,⟨c1,c2,t1,t2,h,_,h1,h2⟩,ht=>by
  simp only [cZ,Bool.or_eq_false_iff] at ht
  subst h
  intro u hu
  rcases List.mem_append.1 hu with hu | hu
  ·exact b8.plain a c1 t1 h1 ht.1 u hu
  ·exact b8.plain b c2 t2 h2 ht.2 u hu
 | .ref k p,cs,ts,⟨h,_⟩,_=>by subst h;intro u hu;simp at hu;subst hu;rfl
 | .nilp,cs,ts,⟨h,_⟩,_=>by subst h;intro u hu;simp at hu;subst hu;rfl
 | .ip τ x,cs,ts,⟨_,_,_,h,_⟩,_=>by subst h;intro u hu;simp at hu;subst hu;rfl
 | .fn f caps,cs,ts,⟨_,h,_⟩,_=>by subst h;intro u hu;simp at hu;subst hu;rfl
 | .bnd f caps,cs,ts,⟨_,h,_⟩,_=>by subst h;intro u hu;simp at hu;subst hu;rfl
 | .tup2 a b,_,_,_,ht=>by cases ht
 | .tup3 a b d,_,_,_,ht=>by cases ht
 | .lent _,_,_,h,_=>h.elim
 | .unit,_,_,_,ht=>by cases ht
 | .raw _ _,_,_,_,ht=>by cases ht
 | .any,_,_,_,ht=>by cases ht
 | .view _ _ _ _ _ _,cs,ts,⟨h,_⟩,_=>by subst h;intro u hu;simp at hu;subst hu;rfl
 | .mref _,cs,ts,⟨h,_⟩,_=>by subst h;intro u hu;simp at hu;subst hu;rfl
 | .vref _ _ _,cs,ts,h,_=>by
  obtain ⟨⟨_,_,h,_⟩,_⟩:=h
  subst h;intro u hu;simp at hu;subst hu;rfl
 | .vec _ _ _,_,_,_,ht=>by cases ht
 | .gone,_,_,_,ht=>by cases ht
 | .box τ o,cs,ts,h,_=>by
  cases o with
  | none=>obtain ⟨h,_⟩:=h;subst h;intro u hu;simp at hu;subst hu;rfl
  | some y=>obtain ⟨_,_,_,_,h,_⟩:=h;subst h;intro u hu;simp at hu;subst hu;rfl
theorem gk.box {v:V} {x:Value} {d T:Nat} (hR:gk X G0 w0 G s a.tmps w v x) (hd:d<1000000) (h1:lk s.mem d=none) (h2:cz d s.env=true) (h3:cz d s.mem=true) (h4:bn d v.refs=false) (hm:d7 v=false) :
  gk X G0 w0 (G.var w d v.cells) { s with mem:=(d,v)::s.mem } a.tmps (w.alloc (.cells x.cells T)) (.ref d []) (.pointer (some ⟨w.heap.size,0,none⟩)):=by
 have hne:∀ k,k ∈ bh s.env∨k ∈ bh s.mem∨k ∈ cR s.mem∨k ∈ v.refs→(G.var w d v.cells).ρ k=G.ρ k:=by
  intro k hk
  have:k ≠ d:=by
   intro e;subst e
   rcases hk with hk | hk | hk | hk
   ·exact cN _ _ h2 hk
   ·exact cN _ _ h3 hk
   ·exact iJ _ _ h1 hk
   ·exact rQ _ _ h4 hk
  simp only [Gh.var];rw [if_neg this]
 have hR':=hR.step (Gh.var_ev hR.1.wf d v.cells (.cells x.cells T)) (Gh.var_wf hR.1.wf d v.cells _) (fun j=>by simp only [Gh.var];rw [if_neg (by omega)]) (fun _ _ _ h=>h.elim) hne (fun _ _ h=>h.elim)
 obtain ⟨hB,tE,tM,tV,e1,e2,⟨cs,e3,e4⟩,e5,e6⟩:=hR'
 have hcs:x.cells.toList=cs:=iu e3 e4
 have hl:=b8.length v cs tV e3
 have hρ:(G.var w d v.cells).ρ d=(w.heap.size,0):=by simp [Gh.var]
 refine ⟨hB,tE,tV++tM,[],e1,⟨tV,tM,cs,rfl,e3,?_,?_,e2⟩,⟨_,⟨?_,trivial,rfl⟩,rfl⟩,fun g=>by have:=e5 g;simp;omega,fun g hg=>e6 g (by simp at hg;omega)⟩
 ·intro j u hu
  rw [hρ]
  simp only [Nat.zero_add]
  rw [World.cell?_alloc_new,← hu,← hcs,Array.getElem?_toList]
 ·refine ⟨fun j hj=>?_,bH.no hm⟩
  rw [hρ]
  refine ⟨by simp [Gh.var,hj],by simp⟩
 ·simp [Gh.addr,hρ,cn]
theorem gk.mkMap {d:Nat} {ka kb:Ty} (hR:RS X G0 w0 G s a.tmps w) (hd:d<1000000) (h1:lk s.mem d=none) (h2:cz d s.env=true) (h3:cz d s.mem=true) :
  gk X G0 w0 (G.var w d 1) { s with mem:=(d,.dat (.map ka kb) [])::s.mem } a.tmps (w.alloc (.map #[] 0)) (.mref d) (.map (some w.heap.size)):=by
 have hne:∀ k,k ∈ bh s.env∨k ∈ bh s.mem∨k ∈ cR s.mem∨k ∈ (V.nilp).refs→(G.var w d 1).ρ k=G.ρ k:=by
  intro k hk
  have:k ≠ d:=by
   intro e;subst e
   rcases hk with hk | hk | hk | hk
   ·exact cN _ _ h2 hk
   ·exact cN _ _ h3 hk
   ·exact iJ _ _ h1 hk
   ·cases hk
  simp only [Gh.var];rw [if_neg this]
 have hR':=hR.v.step (Gh.var_ev hR.1.wf d 1 (.map #[] 0)) (Gh.var_wf hR.1.wf d 1 _) (fun j=>by simp only [Gh.var];rw [if_neg (by omega)]) (fun _ _ _ h=>h.elim) hne (fun _ _ h=>h.elim)
 obtain ⟨hB,tE,tM,tV,e1,e2,_,e5,e6⟩:=hR'
 have hρ:(G.var w d 1).ρ d=(w.heap.size,0):=by simp [Gh.var]
 refine ⟨hB,tE,tM,[],e1,⟨[],tM,[],rfl,⟨rfl,rfl⟩,fun j u hu=>by simp at hu,⟨fun j hj=>by simp [V.cells,Ty.cells] at hj,?_⟩,e2⟩,⟨_,⟨rfl,rfl⟩,?_⟩,fun g=>by have:=e5 g;simp;omega,fun g hg=>e6 g (by simp at hg;omega)⟩
 ·show ((G.var w d 1).ρ d).2=0∧(G.var w d 1).O ((G.var w d 1).ρ d).1 0=some d∧_
  rw [hρ]
  refine ⟨rfl,by simp [Gh.var],#[],0,?_,rfl⟩
  show (w.heap.push (.map #[] 0))[w.heap.size]? = _
  simp
 ·simp [hρ,V.agg]
end Go.Proofs.YtfhcammihohmjaaGreatDoor.Pal
end
noncomputable section
/- Stores, loads, new lists. -/
namespace Go.Proofs.YtfhcammihohmjaaGreatDoor.Pal
open Go
variable [MonoC]
variable {P:Program} {X Y:Nat→Nat→Prop} {G0 G G':Gh} {w0 w w':World} {s:St} {a:Act} {c:Cx}

theorem dO {v:Value} (h:lZ v=true):v.oneCell'=true:=by cases v <;> first | rfl | (simp [lZ] at h)
theorem Evo.setCells {X:Nat→Nat→Prop} (b:Nat):∀ (vs:List Value) (o:Nat) (w:World),(∀ j,j<vs.length→X b (o+j))→Evo X w (w.setCells b o vs)
 | [],_,w,_=>Evo.refl X w
 | v::r,o,w,h=>by
  have h1:=Evo.setCell (X:=X) w b o v (by simpa using h 0 (by simp))
  have h2:=Evo.setCells b r (o+1) (w.setCell ⟨b,o,none⟩ v) (fun j hj=>by have:=h (j+1) (by simpa using hj);rwa [show o+1+j=o+(j+1) by omega])
  exact h1.trans h2 (fun _ _ _ h=>h) (fun _ _ _ h=>h)
theorem World.size_setCells (b:Nat):∀ (vs:List Value) (o:Nat) (w:World),(w.setCells b o vs).heap.size=w.heap.size
 | [],_,_=>rfl
 | v::r,o,w=>by rw [World.setCells,World.size_setCells b r];simp
theorem gk.storeC {v u0 u1:V} {x:Value} {k:Nat} {p:List Step} (hR:gk X G0 w0 G s a.tmps w v x) (hl:lk s.mem k=some u0) (hp:V.put p u0 v=some u1) (hpo:cM p) (ht:cZ v=false) :
  ∃ w',(storeCells (G.addr k p) x.cells.toList).run P w = .ok () w'∧RS X G0 w0 G { s with mem:=eX s.mem k u1 } a.tmps w':=by
 obtain ⟨hB,tE,tM,tV,h1,h2,⟨cx,h3,h3'⟩,h4,h5⟩:=hR
 obtain ⟨t1,t2,cs,hcnt,hv0,hcells,howns,hrest⟩:=aM.find k s.mem tM u0 h2 hl
 obtain ⟨hc1,hag,d1,d0,d2,t',e1,hl1,hl0,hcn,hv1⟩:=gW p u0 v u1 cs cx t1 tV hv0 h3 hp hpo
 have hlx:=b8.length v cx tV h3
 have hls:=b8.length u0 cs t1 hv0
 have hxc:=iu h3 h3'
 have hpl:=b8.plain v cx tV h3 ht
 have hlen:cs.length=d1.length+(d0.length+d2.length):=by rw [e1];simp
 have hex:∀ j,j<cx.length→(w.cell? ⟨(G.ρ k).1,(G.ρ k).2+cn p+j,none⟩).isSome=true:=by
  intro j hj
  have hj':cn p+j<cs.length:=by rw [hlen];omega
  have:=hcells (cn p+j) _ (List.getElem?_eq_getElem hj')
  rw [Nat.add_assoc,this];rfl
 have hfr:∀ j,j<cx.length→w.frozen? ⟨(G.ρ k).1,(G.ρ k).2+cn p+j,none⟩=false:=by
  intro j hj
  have hj':cn p+j<cs.length:=by rw [hlen];omega
  have:=(howns.1 (cn p+j) (by rw [← hls];exact hj')).2
  rw [Nat.add_assoc];exact this
 have hown:∀ j,j<cx.length→G.O (G.ρ k).1 ((G.ρ k).2+cn p+j)=some k:=by
  intro j hj
  have hj':cn p+j<cs.length:=by rw [hlen];omega
  have:=(howns.1 (cn p+j) (by rw [← hls];exact hj')).1
  rw [Nat.add_assoc];exact this
 have hst:=run_storeCells_cells (P:=P) (G.ρ k).1 ((G.ρ k).2+cn p) cx 0 w (by simpa using hex) (by simpa using hfr) (fun v hv=>dO (hpl v hv))
 refine ⟨w.setCells (G.ρ k).1 ((G.ρ k).2+cn p) cx,?_,?_⟩
 ·rw [hxc];simpa [Gh.addr] using hst
 ·let Y:Nat→Nat→Prop:=fun b o=>G.O b o=some k
  have hE:Ev Y G w G (w.setCells (G.ρ k).1 ((G.ρ k).2+cn p) cx):=.quiet (Evo.setCells _ cx _ w hown)
  have hW:Wf G (w.setCells (G.ρ k).1 ((G.ρ k).2+cn p) cx):=by
   refine ⟨fun b o v hv=>?_,hB.wf.io,fun b o q hq=>by rw [World.size_setCells];exact hB.wf.lt b o q hq,hB.wf.whole⟩
   have hb:=World.block_lt_of_cell? w _ (hB.wf.holds b o v hv)
   rw [hE.evo.cell hb (fun hy=>by have:=hB.wf.io b o v hv;rw [show G.O b o=some k from hy] at this;cases this)]
   exact hB.wf.holds b o v hv
  have hn:∀ g,(∀ o,G.O g o=none)→∀ o,¬ Y g o:=fun g hg o (hy:G.O g o=some k)=>by rw [hg o] at hy;cases hy
  refine ⟨hB.step hE hW (fun _=>rfl) (fun b o hb hy=>hB.xo b o k hb hy),tE,t'++t2,h1.ev hE s.env tE (fun _ _=>rfl) (fun g hg=>hn g (aL.owned s.env tE h1 g (bb.1 hg)).2),⟨t',t2,d1++(cx++d2),rfl,hv1.ev hE u1 _ t' (fun _ _=>rfl) (fun g hg=>hn g (hv1.owned u1 _ t' g hg).2),?_,?_,
   aM.ev hE _ t2 (fun _ _=>rfl) (fun _ _=>rfl) (fun g hg=>hn g (aM.owned _ t2 hrest g (bb.1 hg)).2) (fun q hq b o ho hy=>?_) hrest⟩,fun g=>?_,fun g hg=>?_⟩
  ·intro j u hj
   by_cases hin:cn p≤j∧j<cn p+cx.length
   ·have:=World.cell?_setCells_in (G.ρ k).1 cx ((G.ρ k).2+cn p) w hex (j - cn p) (by omega)
    rw [show (G.ρ k).2+cn p+(j - cn p)=(G.ρ k).2+j by omega] at this
    rw [this,← hj,List.getElem?_append_right (by omega),List.getElem?_append_left (by omega),hl1,List.getElem?_eq_getElem (by omega)]
   ·rw [World.cell?_setCells_out (G.ρ k).1 cx _ w _ (fun _ _=>by simp only;omega)]
    refine hcells j u ?_
    rw [← hj,e1]
    by_cases hlt:j<cn p
    ·rw [List.getElem?_append_left (by omega),List.getElem?_append_left (by omega)]
    ·rw [List.getElem?_append_right (by omega),List.getElem?_append_right (by omega),List.getElem?_append_right (by omega),List.getElem?_append_right (by omega),hl0]
  ·refine ⟨fun j hj=>?_,bH.no (ju hp)⟩
   rw [hc1] at hj
   refine ⟨(howns.1 j hj).1,?_⟩
   have hb:=World.block_lt_of_cell? w _ (hcells j _ (List.getElem?_eq_getElem (by rw [hls];exact hj)))
   rw [hE.evo.frozen hb];exact (howns.1 j hj).2
  ·have hy':G.O b o=some k:=hy
   rw [ho] at hy';injection hy' with hy'
   exact (fj k s.mem q hq).2 hy'
  ·have:=h4 g;have:=hcnt g;have:=hcn g;simp;omega
  ·exact h5 g (by have:=hcnt g;have:=hcn g;simp at hg;omega)
theorem gk.store {v u0 u1:V} {x:Value} {k T:Nat} {p:List Step} (hR:gk X G0 w0 G s a.tmps w v x) (hl:lk s.mem k=some u0) (hp:V.put p u0 v=some u1) (hpo:cM p) (ht:cZ v=false)
  (hT:(sizeOf T).run P w = .ok v.cells w) :
  ∃ w',(Instr.storeAt T (.pointer (some (G.addr k p))) x).run P w = .ok () w'∧RS X G0 w0 G { s with mem:=eX s.mem k u1 } a.tmps w':=by
 obtain ⟨w',g1,g2⟩:=gk.storeC (P:=P) hR hl hp hpo ht
 refine ⟨w',?_,g2⟩
 obtain ⟨_,_,_,_,_,_,⟨cx,h3,h3'⟩,_⟩:=hR
 have hsz:x.cells.size=v.cells:=by rw [← Array.length_toList,iu h3 h3',b8.length v cx _ h3]
 simp only [Instr.storeAt,Instr.sureAddr,Sem.run_bind,Sem.run_pure,Result.andThen_ok,storeVar,hT,hsz,ne_eq,not_true,if_false]
 simpa [Gh.addr] using g1
theorem RS.mapPut {k T:Nat} {ka kb:Ty} {es:List (ka.D × kb.D)} (hm:Ds P T (ka,kb)=true) (hR:RS X G0 w0 G s a.tmps w) (hl:lk s.mem k=some (.dat (.map ka kb) es)) {x:ka.D} {xv:Value} (hx:eV G.I ka x xv) {y:kb.D} {yv:Value} (hy:eV G.I kb y yv) :
  ∃ w',(Instr.mapUpdate T (.map (some (G.ρ k).1)) xv yv).run P w = .ok () w'∧RS X G0 w0 G { s with mem:=eX s.mem k (.dat (.map ka kb) (pQ ka kb es x y)) } a.tmps w':=by
 obtain ⟨hB,tE,tM,h1,h2,h4,h5⟩:=hR
 obtain ⟨t1,t2,cs,hcnt,⟨hv0,ht1⟩,hcells,⟨_,hat⟩,hrest⟩:=aM.find k s.mem tM _ h2 hl
 subst ht1
 obtain ⟨m1,m2,ents,clock,m3,m4⟩:=hat
 obtain ⟨ents',clock',r1,r2⟩:=xi (P:=P) hm m3 m4 hx hy
 obtain ⟨w',hw'⟩:∃ w',w'={ w with heap:=w.heap.setIfInBounds (G.ρ k).1 (.map ents' clock') }:=⟨_,rfl⟩
 rw [← hw'] at r1
 have hlt:(G.ρ k).1<w.heap.size:=(Array.getElem?_eq_some_iff.1 m3).1
 have hother:∀ b,b ≠ (G.ρ k).1→w'.heap[b]? = w.heap[b]?:=fun b hb=>by rw [hw'];simp [Ne.symm hb]
 have hsame:w'.heap[(G.ρ k).1]? = some (.map ents' clock'):=by rw [hw'];simp [hlt]
 have hsz:w'.heap.size=w.heap.size:=by rw [hw'];simp
 let Y:Nat→Nat→Prop:=fun b o=>G.O b o=some k
 have hEvo:Evo Y w w':=⟨by rw [hw'],by rw [hw'],by rw [hw'],by rw [hsz];exact Nat.le_refl _,fun b hb=>by
  by_cases e:b=(G.ρ k).1
  ·subst e;exact .inr (.inr ⟨ents,clock,ents',clock',m3,hsame,m2⟩)
  ·exact .inl (hother b e),fun _=>by rw [hw'];exact Nat.le_refl _⟩
 have hE:Ev Y G w G w':=.quiet hEvo
 have hW:Wf G w':=by
  refine ⟨fun b o v hv=>?_,hB.wf.io,fun b o q hq=>by rw [hsz];exact hB.wf.lt b o q hq,hB.wf.whole⟩
  have hb:=World.block_lt_of_cell? w _ (hB.wf.holds b o v hv)
  rw [hE.evo.cell hb (fun hy=>by have:=hB.wf.io b o v hv;rw [show G.O b o=some k from hy] at this;cases this)]
  exact hB.wf.holds b o v hv
 have hn:∀ g,(∀ o,G.O g o=none)→∀ o,¬ Y g o:=fun g hg o (hy:G.O g o=some k)=>by rw [hg o] at hy;cases hy
 refine ⟨w',r1,hB.step hE hW (fun _=>rfl) (fun b o hb hy=>hB.xo b o k hb hy),tE,t2,h1.ev hE s.env tE (fun _ _=>rfl) (fun g hg=>hn g (aL.owned s.env tE h1 g (bb.1 hg)).2),⟨[],t2,[],rfl,⟨rfl,rfl⟩,fun j u hu=>by simp at hu,⟨fun j hj=>by simp [V.cells,Ty.cells] at hj,m1,m2,ents',clock',hsame,r2⟩,
  aM.ev hE _ t2 (fun _ _=>rfl) (fun _ _=>rfl) (fun g hg=>hn g (aM.owned _ t2 hrest g (bb.1 hg)).2) (fun q hq b o ho hy=>?_) hrest⟩,fun g=>?_,fun g hg=>?_⟩
 ·have hy':G.O b o=some k:=hy
  rw [ho] at hy';injection hy' with hy'
  exact (fj k s.mem q hq).2 hy'
 ·have:=h4 g;have:=hcnt g;omega
 ·exact h5 g (by have:=hcnt g;omega)
theorem ql {T:Nat} {b o:Nat} {cs:List Value} {agg:Bool} {x:Value} (hagg:(isAgg T).run P w = .ok agg w) (hsz:(sizeOf T).run P w = .ok cs.length w) (hc:fm w b o cs) (hx:if agg then x = .agg cs.toArray else cs=[x]) :
  (Instr.loadAt T (.pointer (some ⟨b,o,none⟩))).run P w = .ok x w:=by
 simp only [Instr.loadAt,Instr.sureAddr,Sem.run_bind,Sem.run_pure,Result.andThen_ok,loadVar,hagg]
 cases agg with
 | true =>
  simp only [if_true] at hx ⊢
  subst hx
  have:=run_loadCells_list (P:=P) w ⟨b,o,none⟩ cs (fun j v hv=>by rw [dR];exact hc j v hv)
  simp only [Sem.run_bind,hsz,Result.andThen_ok,this,Sem.run_pure]
 | false =>
  simp only [Bool.false_eq_true,if_false] at hx ⊢
  subst hx
  have:=hc 0 x rfl
  simp only [Nat.add_zero] at this
  rw [run_load,this]
end Go.Proofs.YtfhcammihohmjaaGreatDoor.Pal
end
noncomputable section
/- What is built of parts; lists that are made, and grow. -/
namespace Go.Proofs.YtfhcammihohmjaaGreatDoor.Pal
open Go
variable [MonoC]
variable {P:Program} {X Y:Nat→Nat→Prop} {G0 G G':Gh} {w0 w w':World} {s:St} {a:Act} {c:Cx}

theorem Bt:∀ (l:List Value) (k off:Nat) (A B:List Value) (C:List Value),off+k=A.length→l.length=B.length →
  ((l.zipIdx k).foldl (fun (cs:Array Value) (p:Value × Nat)=>cs.setIfInBounds (off+p.2) p.1) (A++(B++C)).toArray)=(A++(l++C)).toArray
 | [],_,_,A,[],C,_,_=>rfl
 | [],_,_,_,_::_,_,_,h=>by simp at h
 | x::l,k,off,A,[],C,_,h=>by simp at h
 | x::l,k,off,A,b::B,C,h,hl=>by
  simp only [List.zipIdx_cons,List.foldl_cons]
  have e:((A++(b::B++C)).toArray).setIfInBounds (off+k) x=((A++[x])++(B++C)).toArray:=by
   apply Array.ext'
   simp only [Array.toList_setIfInBounds,h]
   simp
  rw [e,Bt l (k+1) off (A++[x]) B C (by simp;omega) (by simpa using hl)]
  simp
theorem y5 (v:Value) (off:Nat) (cells:Array Value):v.cells.zipIdx.foldl (fun cs (p:Value × Nat)=>cs.setIfInBounds (off+p.2) p.1) cells=(v.cells.toList.zipIdx 0).foldl (fun (cs:Array Value) (p:Value × Nat)=>cs.setIfInBounds (off+p.2) p.1) cells:=by
 rw [← Array.foldl_toList,Array.toList_zipIdx]
theorem rJ {place:Nat→Option (Nat × Nat)} {i off size:Nat} {v:Value} {r:List (Nat × Value)} {A B C l:List Value} (hp:place i=some (off,size)) (hv:v.cells.toList=l) (hs:l.length=size) (hA:off=A.length) (hB:l.length=B.length) :
  Instr.fill place (A++(B++C)).toArray ((i,v)::r)=Instr.fill place (A++(l++C)).toArray r:=by
 have hsz:v.cells.size=l.length:=by rw [← hv,Array.length_toList]
 rw [Instr.fill]
 simp only [hp]
 rw [if_neg]
 ·congr 1
  have h1:=y5 v off (A++(B++C)).toArray
  have h2:=Bt l 0 off A B C (by simpa using hA) hB
  rw [hv] at h1
  exact h1.trans h2
 ·simp only [hsz,hs,ne_eq,not_true,decide_false,Bool.false_or,decide_eq_true_eq,Bool.or_eq_true,not_or,gt_iff_lt,Nat.not_lt]
  simp [hA]
  omega
inductive Parts (G:Gh) (w:World):List (Nat × V)→List (Nat × Value)→Prop where
 | nil:Parts G w [] []
 | cons {i:Nat} {v:V} {x:Value} {ps:List (Nat × V)} {xs:List (Nat × Value)}:aY G w v x []→Parts G w ps xs→Parts G w ((i,v)::ps) ((i,x)::xs)
theorem lW {ρ:Option Ty→Operand→Option V} (hρ:∀ e x v,ρ e x=some v→aY G w v (a.eval x) []):∀ (l:List (Nat × Operand)) (ps:List (Nat × V)),rc ρ l=some ps→Parts G w ps (l.map fun p=>(p.1,a.eval p.2))
 | [],ps,h=>by simp only [rc,Option.some.injEq] at h;subst h;exact .nil
 | (i,x)::r,ps,h=>by
  simp only [rc,Option.bind_eq_some_iff,Option.some.injEq] at h
  obtain ⟨v,hv,vs,hvs,rfl⟩:=h
  exact .cons (hρ _ _ _ hv) (lW hρ r vs hvs)
theorem nK {τ : Ty} {nf : Nat} {place : Nat → Option (Nat × Nat)}
    (hpl : match τ with
      | .arr n e=>∀ i,i<n→place i=some (i * e.cells,e.cells)
      | .pair _ _=>∀ i,i<nf→place i=some (cn (ff τ nf i),(fI τ nf i).cells)∧cM (ff τ nf i)
      | _=>True) :
    ∀ (ps : List (Nat × V)) (xs : List (Nat × Value)) (v v' : V) (cs : List Value), Parts G w ps xs → b8 G w v cs [] → lE τ nf v ps = some v' →
      ∃ cs',Instr.fill place cs.toArray xs=some cs'.toArray∧b8 G w v' cs' []∧v'.agg=v.agg∧v'.cells=v.cells
  | [], _, v, v', cs, .nil, hv, h => by
    simp only [lE,Option.some.injEq] at h;subst h
    exact ⟨cs,rfl,hv,rfl,rfl⟩
  | (i, u) :: r, _, v, v', cs, .cons (x := x) (xs := xs) hu hps, hv, h => by
    obtain ⟨cu,hu1,hu2⟩:=hu
    have hcu:=iu hu1 hu2
    have hlu:=b8.length u cu [] hu1
    have go : ∀ (p : List Step) (off size : Nat) (v1 : V), place i = some (off, size) → cn p = off → cM p → u.cells = size → V.put p v u = some v1 → lE τ nf v1 r = some v' →
        ∃ cs',Instr.fill place cs.toArray ((i,x)::xs)=some cs'.toArray∧b8 G w v' cs' []∧v'.agg=v.agg∧v'.cells=v.cells:=by
      intro p off size v1 hp ho hpo hs hput hrest
      obtain ⟨hc1,hag,d1,d0,d2,t',e1,hl1,hl0,hcn,hv1⟩:=gW p v u v1 cs cu [] [] hv hu1 hput hpo
      have ht' : t' = [] := by
        cases t' with
        | nil=>rfl
        | cons g t=>have:=hcn g;simp [bi] at this
      subst ht'
      obtain ⟨cs',g1,g2,g3,g4⟩:=nK hpl r xs v1 v' (d1++(cu++d2)) hps hv1 hrest
      refine ⟨cs',?_,g2,g3.trans hag,g4.trans hc1⟩
      rw [e1,rJ (A:=d1) (B:=d0) (C:=d2) hp hcu (by rw [hlu,hs]) (by rw [hl1,ho]) hl0.symm]
      exact g1
    cases τ with
    | arr n e =>
      simp only [lE] at h
      cases hb:Nat.blt i n && Nat.beq u.cells e.cells && !(cZ u) with
      | false=>simp [hb] at h
      | true =>
        simp only [hb,cond_true,Option.bind_eq_some_iff] at h
        simp only [Bool.and_eq_true] at hb
        have hlt:=Nat.le_of_ble_eq_true hb.1.1
        obtain ⟨v1,hput,hrest⟩:=h
        exact go [.ix n e.cells i] _ _ v1 (hpl i (by omega)) (by simp [cn]) (by refine ⟨?_,trivial⟩;omega) (aS.1 hb.1.2) hput hrest
    | pair a b =>
      simp only [lE] at h
      cases hb:Nat.blt i nf && Nat.beq u.cells (fI (.pair a b) nf i).cells && !(cZ u) with
      | false=>simp [hb] at h
      | true =>
        simp only [hb,cond_true,Option.bind_eq_some_iff] at h
        simp only [Bool.and_eq_true] at hb
        have hlt:=Nat.le_of_ble_eq_true hb.1.1
        obtain ⟨v1,hput,hrest⟩:=h
        exact go _ _ _ v1 (hpl i (by omega)).1 rfl (hpl i (by omega)).2 (aS.1 hb.1.2) hput hrest
    | _=>simp [lE] at h
end Go.Proofs.YtfhcammihohmjaaGreatDoor.Pal
end
noncomputable section
/- Lists that are made, and grow. -/
namespace Go.Proofs.YtfhcammihohmjaaGreatDoor.Pal
open Go
variable [MonoC]
variable {P:Program} {X Y:Nat→Nat→Prop} {G0 G G':Gh} {w0 w w':World} {s:St} {a:Act} {c:Cx}

theorem xm {ti:TInfo} {x y:Ty} {i:Nat} (h:ti.ty = .pair x y) (hi:i<ti.nf):mV ti i=true:=by
 simp only [mV,h,Bool.true_and];exact Nat.ble_eq_true_of_le hi
theorem sj {m:Nat}:∀ (fs:List Field) (o:Nat) (τ:Ty),fQ (gf P m) fs o τ=true →
  ∃ pl,fs.mapM (fun f=>(P.info? f.type).map fun i=>(f.offset,i.size))=some pl∧pl.length=fs.length∧∀ i,i<fs.length→pl[i]? = some (o+cn (ff τ fs.length i),(fI τ fs.length i).cells)
 | [],_,_,h=>by simp [fQ] at h
 | [g],o,τ,h=>by
  simp only [fQ,Bool.and_eq_true] at h
  obtain ⟨i,hi,hs,_⟩:=(dI h.1.2).info
  refine ⟨[(g.offset,i.size)],by simp [hi],rfl,fun j hj=>?_⟩
  obtain rfl:j=0:=by simp at hj;omega
  have e:ff τ 1 0=[]:=by cases τ <;> rfl
  have e':fI τ 1 0=τ:=by cases τ <;> rfl
  show some (g.offset,i.size)=some (o+cn (ff τ 1 0),(fI τ 1 0).cells)
  rw [e,e',aS.1 h.1.1,hs];rfl
 | g::g'::r,o,τ,h=>by
  cases τ with
  | pair a b =>
   simp only [fQ,Bool.and_eq_true] at h
   obtain ⟨⟨⟨h1,h2⟩,h3⟩,h4⟩:=h
   obtain ⟨pl,e1,e2,e3⟩:=sj (g'::r) (o+a.cells) b h4
   obtain ⟨i,hi,hs,_⟩:=(dI h2).info
   refine ⟨(g.offset,i.size)::pl,?_,by simp [e2],fun j hj=>?_⟩
   ·rw [List.mapM_cons,e1];simp [hi]
   ·cases j with
    | zero =>
     show some (g.offset,i.size)=some (o+cn [.l],a.cells)
     rw [aS.1 h1,hs];rfl
    | succ j =>
     have:=e3 j (by simpa using hj)
     simp only [List.getElem?_cons_succ]
     rw [this]
     show some _=some (o+cn (.r a.cells::ff b (g'::r).length j),(fI b (g'::r).length j).cells)
     simp only [cn,Nat.add_assoc]
  | _=>simp [fQ] at h
theorem A7 (hT:TT P c) {t:Nat} {ti:TInfo} {ps:List (Nat × V)} {parts:Array (Nat × Value)} {v:V} (hl:lkN c.types t=some ti) (hag:ti.ty.agg=true) (hps:Parts G w ps parts.toList) (hf:lE ti.ty ti.nf (jO ti.ty) ps=some v) :
  ∃ x,(Instr.build t parts).run P w = .ok x w∧aY G w v x []:=by
 obtain ⟨h1,_,_,h4⟩:=hT.ti hl
 obtain ⟨it,hit,hsz,_,z,hz,hzc⟩:=(dI h1).info
 have hzc':z.cells=(dj ti.ty).toArray:=by apply Array.ext';simpa using hzc
 have hagz:(jO ti.ty).agg=true:=by
  cases hty:ti.ty <;> simp [hty,Ty.agg] at hag
  ·rfl
  ·exact iD _ _
 have fin:∀ (place:Nat→Option (Nat × Nat)) cs',Instr.fill place z.cells parts.toList=some cs'.toArray→P.built t parts.toList=Instr.fill place z.cells parts.toList→b8 G w v cs' []→v.agg=(jO ti.ty).agg→∃ x,(Instr.build t parts).run P w = .ok x w∧aY G w v x []:=by
  intro place cs' hfill hb hv ha
  exact ⟨_,run_build w t parts cs'.toArray (hb.trans hfill),cs',hv,by rw [ha,hagz];rfl⟩
 cases hty:ti.ty with
 | arr n e =>
  rw [hty] at h1
  obtain ⟨E,m,hu,hE⟩:=gY h1
  obtain ⟨ie,hie,hse,_⟩:=(dI hE).info
  rw [hty] at hf fin hzc'
  obtain ⟨cs',g1,g2,g3,_⟩:=nK (τ:=.arr n e) (nf:=ti.nf) (place:=fun i=>some (i * ie.size,ie.size)) (fun i _=>by rw [hse]) ps _ _ v (dj (.arr n e)) hps (ij G w (.arr n e)) hf
  rw [← hzc'] at g1
  exact fin _ cs' g1 (by simp [Program.built,hit,hu,hz,hie]) g2 g3
 | pair x y =>
  rw [hty] at h1
  obtain ⟨fs,m,hfs,_,hfl,_⟩:=gF h1
  have hn:fs.toList.length=ti.nf:=by simpa using h4 fs hfs
  obtain ⟨pl,e1,e2,e3⟩:=sj fs.toList 0 _ hfl
  rw [hty] at hf fin hzc'
  obtain ⟨cs',g1,g2,g3,_⟩:=nK (τ:=.pair x y) (nf:=ti.nf) (place:=fun i=>pl.toArray[i]?) (fun i hi=>by
   refine ⟨?_,?_⟩
   ·have:=e3 i (by omega)
    rw [hn] at this
    simpa using this
   ·obtain ⟨_,_,_,_,_,h,_⟩:=vl hT hl (xm hty hi)
    rw [hty] at h;exact h) ps _ _ v (dj (.pair x y)) hps (ij G w (.pair x y)) hf
  rw [← hzc'] at g1
  exact fin _ cs' g1 (by simp [Program.built,hit,hfs,hz,e1]) g2 g3
 | _=>simp [hty,Ty.agg] at hag

def Gh.row (G:Gh) (g:Nat) (cs:List Value):Gh:={ G with I:=fun b o=>if b=g then cs[o]? else G.I b o }
theorem Gh.row_ev (hW:Wf G w) (cs:List Value) (o:Obj):Ev (fun _ _=>False) G w (G.row w.heap.size cs) (w.alloc o):=by
 refine ⟨Evo.alloc _ w o,fun b q v h=>?_,fun b q v h=>?_,fun b q hb=>rfl⟩
 ·simp only [Gh.row]
  split
  ·rename_i e;subst e;rw [(hW.none_new q).1] at h;cases h
  ·exact h
 ·simp only [Gh.row] at h
  split at h
  ·rename_i e;subst e;exact .inr (.inl (Nat.le_refl _))
  ·exact .inl h
theorem Gh.row_wf (hW:Wf G w) {cs:List Value} {arr:Array Value} (T:Nat) (hp:∀ (j:Nat) (v:Value),cs[j]? = some v→arr[j]? = some v):Wf (G.row w.heap.size cs) (w.alloc (.cells arr T)):=by
 refine ⟨fun b q v h=>?_,fun b q v h=>?_,(hW.alloc _).lt,hW.whole⟩
 ·simp only [Gh.row] at h
  split at h
  ·rename_i e;subst e;rw [World.cell?_alloc_new];exact hp q v h
  ·exact (hW.alloc _).holds b q v h
 ·simp only [Gh.row] at h
  split at h
  ·rename_i e;subst e;exact (hW.none_new q).2
  ·exact hW.io b q v h
theorem bC.elems {α:Type} {I:Im} {R:α→List Value→Prop} {sz:Nat} (hl:∀ x c,R x c→c.length=sz):∀ (xs:List α) (cs:List Value) (b o:Nat),bC R xs cs→ym I b o cs→d8 I sz R b o xs
 | [],_,_,_,_,_=>fun i x h=>by simp at h
 | x::xs,cs,b,o,⟨c1,c2,e,h1,h2⟩,hA=>by
  subst e
  intro i y hy
  cases i with
  | zero =>
   simp only [List.getElem?_cons_zero,Option.some.injEq] at hy;subst hy
   refine ⟨c1,h1,?_⟩
   intro j v hj
   have hlt:j<c1.length:=(List.getElem?_eq_some_iff.1 hj).1
   have:=hA j v (by rw [List.getElem?_append_left hlt];exact hj)
   simpa using this
  | succ i =>
   have hl1:=hl x c1 h1
   obtain ⟨cc,a1,a2⟩:=bC.elems (I:=I) hl xs c2 b (o+sz) h2 (fun j v hj=>by
    have:=hA (c1.length+j) v (by rw [List.getElem?_append_right (by omega)];simpa using hj)
    rwa [hl1,← Nat.add_assoc] at this) i y (by simpa using hy)
   exact ⟨cc,a1,by rw [show o+(i+1) * sz=o+sz+i * sz by rw [Nat.add_mul];omega];exact a2⟩
theorem d8.all2 {α:Type} {I:Im} {R:α→List Value→Prop} {sz:Nat} (hl:∀ x c,R x c→c.length=sz):∀ (xs:List α) (b o:Nat),d8 I sz R b o xs→∃ cs,bC R xs cs∧ym I b o cs
 | [],_,_,_=>⟨[],rfl,fun j v h=>by simp at h⟩
 | x::xs,b,o,h=>by
  obtain ⟨c1,h1,hA⟩:=h 0 x rfl
  obtain ⟨c2,h2,hB⟩:=d8.all2 (I:=I) hl xs b (o+sz) (fun i y hy=>by
   obtain ⟨cc,a1,a2⟩:=h (i+1) y (by simpa using hy)
   exact ⟨cc,a1,by rwa [show o+sz+i * sz=o+(i+1) * sz by rw [Nat.add_mul];omega]⟩)
  refine ⟨c1++c2,⟨c1,c2,rfl,h1,h2⟩,fun j v hj=>?_⟩
  have hl1:=hl x c1 h1
  rcases Nat.lt_or_ge j c1.length with hlt | hge
  ·rw [List.getElem?_append_left hlt] at hj
   simpa using hA j v hj
  ·rw [List.getElem?_append_right hge] at hj
   have:=hB (j - c1.length) v hj
   rwa [show o+sz+(j - c1.length)=o+j by omega] at this
theorem bC.append {α:Type} {R:α→List Value→Prop}:∀ (xs ys:List α) (cs ds:List Value),bC R xs cs→bC R ys ds→bC R (xs++ys) (cs++ds)
 | [],ys,cs,ds,h,k=>by simp only [bC] at h;subst h;exact k
 | x::xs,ys,_,ds,⟨c1,c2,e,h1,h2⟩,k=>by subst e;exact ⟨c1,c2++ds,by simp,h1,bC.append xs ys c2 ds h2 k⟩
theorem RS.fresh (hR:RS X G0 w0 G s a.tmps w) {e:Ty} {xs:List e.D} {cs:List Value} {arr:Array Value} {T cap:Nat} (hA:bC (aR G.I e) xs cs) (hlen:xs.length≤cap∧cap≤9223372036854775807) (hs:arr.size=cap * e.cells) (hp:∀ (j:Nat) (v:Value),cs[j]? = some v→arr[j]? = some v) :
  gk X G0 w0 (G.row w.heap.size cs) s a.tmps (w.alloc (.cells arr T)) (.own e xs) (.slice (some ⟨w.heap.size,0,none⟩) xs.length cap):=by
 have hW:=hR.1.wf
 have hev:=Gh.row_ev hW cs (.cells arr T)
 have hR':=(hR.v.step hev (Gh.row_wf hW T hp) (fun _=>rfl) (fun _ _ _ h=>h.elim) (fun _ _=>rfl) (fun _ _ h=>h.elim)).rs
 have hold:=hR.v
 obtain ⟨hB,tE,tM,h1,h2,h3,h4⟩:=hR
 have k1:=h1.ev hev s.env tE (fun _ _=>rfl) (fun _ _ _ h=>h)
 have k2:=aM.ev hev s.mem tM (fun _ _=>rfl) (fun _ _=>rfl) (fun _ _ _ h=>h) (fun _ _ _ _ _ h=>h.elim) h2
 have hcl:=bC.length (fun x c=>aR.length e x c) xs cs hA
 have hAI:ym (G.row w.heap.size cs).I w.heap.size 0 cs:=by
  intro j v hj
  simp only [Gh.row,if_true,Nat.zero_add]
  exact hj
 refine ⟨hR'.1,tE,tM,[w.heap.size],k1,k2,⟨_,⟨_,_,cap,rfl,rfl,hlen,.inr ⟨w.heap.size,rfl,rfl,?_,⟨arr,T,heap_alloc_new w _,hs⟩,fun o ho=>?_,fun o=>(hW.none_new o).2⟩⟩,rfl⟩,fun g=>?_,fun g hg=>?_⟩
 ·exact bC.elems (fun x c=>aR.length e x c) xs cs _ 0 (bC.mono (fun x c=>aR.mono hev.le e x c) _ _ hA) hAI
 ·simp only [Gh.row,if_true]
  exact List.getElem?_eq_none (by rw [hcl];exact ho)
 ·have h0:∀ t,0<bi g t→(∀ g,0<bi g t→g<w.heap.size∧∀ o,G.O g o=none)→g<w.heap.size:=fun t ht k=>(k g ht).1
  rcases Nat.lt_or_ge g w.heap.size with hlt | hge
  ·have:bi g [w.heap.size]=0:=List.count_eq_zero.2 (by simp;omega)
   have:=h3 g;omega
  ·have z1:bi g tE=0:=by
    rcases Nat.eq_zero_or_pos (bi g tE) with h | h
    ·exact h
    ·have:=(aL.owned s.env tE h1 g h).1;omega
   have z2:bi g tM=0:=by
    rcases Nat.eq_zero_or_pos (bi g tM) with h | h
    ·exact h
    ·have:=(aM.owned s.mem tM h2 g h).1;omega
   have:bi g [w.heap.size]≤1:=by simp only [bi];exact List.count_le_length (l:=[w.heap.size])
   omega
 ·by_cases hlt:0<bi g tE+bi g tM
  ·exact h4 g hlt
  ·have:0<bi g [w.heap.size]:=by omega
   have:g=w.heap.size:=by simpa using bb.2 this
   subst this
   exact .inl hB.ev.evo.size

theorem qx (ad:Addr):(loadCells ad 0).run P w = .ok #[] w:=run_loadCells_list w ad [] (fun j v h=>by simp at h)
theorem ku (hW:Wf G w) {e:Ty} {xs:List e.D} {ad:Option Addr} {len cap:Nat} (h1:xs.length=len) (h:xs=[]∨∃ b o,ad=some ⟨b,o,none⟩∧d8 G.I e.cells (aR G.I e) b o xs) :
  ∃ cs,bC (aR G.I e) xs cs∧cs.length=len * e.cells∧(∀ b o,ad=some ⟨b,o,none⟩→xs ≠ []→ym G.I b o cs)∧∀ w':World,(∀ b o v,G.I b o=some v→w'.cell? ⟨b,o,none⟩=some v)→(Builtin.firstCells e.cells len (.slice ad len cap)).run P w' = .ok cs.toArray w':=by
 rcases h with h | ⟨b,o,ha,hE⟩
 ·subst h
  simp only [List.length_nil] at h1;subst h1
  refine ⟨[],rfl,by simp,fun _ _ _ h=>absurd rfl h,fun w' _=>?_⟩
  cases ad with
  | none=>rfl
  | some ad=>simp only [Builtin.firstCells,Nat.zero_mul];exact qx ad
 ·obtain ⟨cs,hA,hAI⟩:=d8.all2 (fun x c=>aR.length e x c) xs b o hE
  have hl:=bC.length (fun x c=>aR.length e x c) xs cs hA
  rw [h1] at hl
  refine ⟨cs,hA,hl,fun b' o' e1 _=>?_,fun w' hw'=>?_⟩
  ·rw [ha] at e1;injection e1 with e1;injection e1 with e1 e2;subst e1;subst e2;exact hAI
  ·subst ha
   simp only [Builtin.firstCells]
   rw [← hl]
   exact run_loadCells_list w' ⟨b,o,none⟩ cs (fun j v hj=>by rw [dR];exact hw' b (o+j) v (hAI j v hj))
def Gh.more (G:Gh) (g n:Nat) (news:List Value):Gh:={ G with I:=fun b o=>if b=g∧n≤o∧o<n+news.length then news[o - n]? else G.I b o }
theorem gk.grow {e:Ty} {xs ys:List e.D} {g cap:Nat} {news:List Value} (hR:gk X G0 w0 G s a.tmps w (.own e xs) (.slice (some ⟨g,0,none⟩) xs.length cap)) (hA:bC (aR G.I e) ys news) (hcap:xs.length+ys.length≤cap) (h0:0<cap) :
  (∀ P,(storeCells ⟨g,xs.length * e.cells,none⟩ news).run P w = .ok () (w.setCells g (xs.length * e.cells) news)) ∧
  ∃ G',gk X G0 w0 G' s a.tmps (w.setCells g (xs.length * e.cells) news) (.own e (xs++ys)) (.slice (some ⟨g,0,none⟩) (xs.length+ys.length) cap):=by
 obtain ⟨hB,tE,tM,tV,h1,h2,⟨_,h3,h3'⟩,h4,h5⟩:=hR
 obtain ⟨ad,len,cap',e1,e2,e3,e4⟩:=h3
 simp only [V.agg,Bool.false_eq_true,if_false] at h3'
 subst e1
 simp only [List.cons.injEq,Value.slice.injEq,and_true] at h3'
 obtain ⟨rfl,hlen,rfl⟩:=h3'
 subst hlen
 rcases e4 with ⟨hc,_⟩ | ⟨g',ha,rfl,hel,⟨cells,T,hg,hsz⟩,hI,hO⟩
 ·omega
 injection ha with ha;injection ha with ha;subst ha
 have hnl:=bC.length (fun x c=>aR.length e x c) ys news hA
 have hfit:xs.length * e.cells+news.length≤cells.size:=by
  rw [hnl,hsz,← Nat.add_mul];exact Nat.mul_le_mul_right _ hcap
 have hplain:∀ v ∈ news,lZ v=true:=bC.all (fun x c=>aR.plain e x c) ys news hA
 have hex:∀ j,j<news.length→(w.cell? ⟨g,xs.length * e.cells+j,none⟩).isSome=true:=by
  intro j hj
  have:xs.length * e.cells+j<cells.size:=by omega
  simp [World.cell?,hg,this]
 have hst:=fun P:Program=>run_storeCells_cells (P:=P) g (xs.length * e.cells) news 0 w (by simpa using hex) (fun j _=>by simp [World.frozen?,hg]) (fun v hv=>dO (hplain v hv))
 refine ⟨fun P=>by simpa using hst P,G.more g (xs.length * e.cells) news,?_⟩
 let Y:Nat→Nat→Prop:=fun b o=>b=g∧xs.length * e.cells≤o
 have hgl:g<w.heap.size:=(Array.getElem?_eq_some_iff.1 hg).1
 have hle:G.I.le (G.more g (xs.length * e.cells) news).I:=by
  intro b o v h
  simp only [Gh.more]
  split
  ·rename_i hc;rw [hc.1,hI o hc.2.1] at h;cases h
  ·exact h
 have hE:Ev Y G w (G.more g (xs.length * e.cells) news) (w.setCells g (xs.length * e.cells) news):=by
  refine ⟨Evo.setCells _ news _ w (fun j _=>⟨rfl,by omega⟩),hle,fun b o v h=>?_,fun _ _ _=>rfl⟩
  simp only [Gh.more] at h
  split at h
  ·rename_i hc;exact .inr (.inr ⟨hc.1,hc.2.1⟩)
  ·exact .inl h
 have hW:Wf (G.more g (xs.length * e.cells) news) (w.setCells g (xs.length * e.cells) news):=by
  refine ⟨fun b o v h=>?_,fun b o v h=>?_,fun b o q hq=>by rw [World.size_setCells];exact hB.wf.lt b o q hq,hB.wf.whole⟩
  ·simp only [Gh.more] at h
   split at h
   ·rename_i hc
    obtain ⟨rfl,h6,h7⟩:=hc
    have:=World.cell?_setCells_in b news (xs.length * e.cells) w hex (o - xs.length * e.cells) (by omega)
    rw [show xs.length * e.cells+(o - xs.length * e.cells)=o by omega] at this
    rw [this,← h,List.getElem?_eq_getElem (by omega)]
   ·rename_i hc
    rw [World.cell?_setCells_out g news _ w _ (fun hb _=>?_)]
    ·exact hB.wf.holds b o v h
    ·have hbg:b=g:=hb
     have:¬ (xs.length * e.cells≤o∧o<xs.length * e.cells+news.length):=fun hh=>hc ⟨hbg,hh.1,hh.2⟩
     show o<_∨_≤o
     omega
  ·simp only [Gh.more] at h
   split at h
   ·rename_i hc;rw [hc.1];exact hO o
   ·exact hB.wf.io b o v h
 have hng:∀ t:List Nat,(∀ q,bi q t+bi q [g]≤1)→∀ q ∈ t,∀ o,¬ Y q o:=by
  intro t ht q hq o hy
  have hy1:q=g:=hy.1
  have:=ht q;have h6:=bb.1 hq
  have h7:bi q [g]=1:=by subst hy1;simp [bi]
  omega
 have hall:bC (aR (G.more g (xs.length * e.cells) news).I e) ys news:=bC.mono (fun x c=>aR.mono hle e x c) _ _ hA
 have hel':d8 (G.more g (xs.length * e.cells) news).I e.cells (aR (G.more g (xs.length * e.cells) news).I e) g 0 (xs++ys):=by
  intro i x hx
  rcases Nat.lt_or_ge i xs.length with hlt | hge
  ·rw [List.getElem?_append_left hlt] at hx
   exact (hel.mono hle (fun x c=>aR.mono hle e x c)) i x hx
  ·rw [List.getElem?_append_right hge] at hx
   have hAI:ym (G.more g (xs.length * e.cells) news).I g (xs.length * e.cells) news:=by
    intro j v hj
    have hj':=(List.getElem?_eq_some_iff.1 hj).1
    simp only [Gh.more]
    rw [if_pos ⟨trivial,by omega,by omega⟩,show xs.length * e.cells+j - xs.length * e.cells=j by omega]
    exact hj
   obtain ⟨cc,a1,a2⟩:=bC.elems (fun x c=>aR.length e x c) ys news g _ hall hAI (i - xs.length) x hx
   refine ⟨cc,a1,?_⟩
   have he:0+i * e.cells=xs.length * e.cells+(i - xs.length) * e.cells:=by rw [← Nat.add_mul,Nat.add_sub_cancel' hge,Nat.zero_add]
   rw [he];exact a2
 refine ⟨hB.step hE hW (fun _=>rfl) (fun b o hb hy=>?_),tE,tM,[g],h1.ev hE s.env tE (fun _ _=>rfl) (hng tE (fun q=>by have:=h4 q;omega)),
  aM.ev hE s.mem tM (fun _ _=>rfl) (fun _ _=>rfl) (hng tM (fun q=>by have:=h4 q;omega)) (fun k hk b o ho hy=>?_) h2,⟨_,⟨_,_,cap',rfl,rfl,by rw [List.length_append];exact ⟨hcap,e3.2⟩,.inr ⟨g,rfl,rfl,hel',⟨?_,fun o ho=>?_,fun o=>hO o⟩⟩⟩,by simp [V.agg]⟩,h4,h5⟩
 ·have hy1:b=g:=hy.1
  subst hy1
  rcases h5 b (by have:bi b [b]=1:=(by simp [bi]);omega) with h6 | h6
  ·omega
  ·exact h6 o
 ·have hy1:b=g:=hy.1
  subst hy1
  rw [hO o] at ho;cases ho
 ·rcases hE.evo.block g hgl with h6 | ⟨c1,c2,t',fr,h6,h7,h8,_⟩ | ⟨_,_,_,_,h6,_⟩
  ·exact ⟨cells,T,h6.trans hg,hsz⟩
  ·rw [hg] at h6
   injection h6 with h6;injection h6 with a1 a2 a3;subst a1;subst a2;subst a3
   exact ⟨c2,T,h7,h8.trans hsz⟩
  ·rw [hg] at h6;injection h6 with h6;cases h6
 ·simp only [List.length_append,Nat.add_mul] at ho
  simp only [Gh.more]
  rw [if_neg (by rw [hnl];omega)]
  exact hI o (by omega)
end Go.Proofs.YtfhcammihohmjaaGreatDoor.Pal
end
noncomputable section
/- Lists that are made, and grow: the machine's operations. -/
namespace Go.Proofs.YtfhcammihohmjaaGreatDoor.Pal
open Go
variable [MonoC]
variable {P:Program} {X Y:Nat→Nat→Prop} {G0 G G':Gh} {w0 w w':World} {s:St} {a:Act} {c:Cx}

theorem zC {e:Ty} {sz:Nat} (hsz:sz=e.cells):∀ (ps:List (Nat × V)) (vs:List (Nat × Value)) (xs:List e.D) (k:Nat) (A B:List Value),Parts G w ps vs→lC e k ps=some xs→A.length=k * sz→B.length=ps.length * sz →
  ∃ cs,Instr.fill (fun i=>some (i * sz,sz)) (A++B).toArray vs=some (A++cs).toArray∧bC (aR G.I e) xs cs
 | [],_,xs,k,A,B,.nil,h,_,hB=>by
  simp only [lC,Option.some.injEq] at h;subst h
  have:B=[]:=List.eq_nil_of_length_eq_zero (by simpa using hB)
  subst this
  exact ⟨[],rfl,rfl⟩
 | (i,u)::ps,_,xs,k,A,B,.cons (x:=x) (xs:=vs) hu hps,h,hA,hB=>by
  simp only [lC] at h
  cases hi:Nat.beq i k with
  | false=>simp [hi] at h
  | true =>
   simp only [hi,cond_true,Option.bind_eq_some_iff,Option.some.injEq] at h
   obtain ⟨y,hy,ys,hys,rfl⟩:=h
   obtain rfl:=aS.1 hi
   obtain ⟨cu,hu1,hu2⟩:=hu
   have hcu:=iu hu1 hu2
   have hlu:cu.length=sz:=by rw [b8.length u cu [] hu1,(iw e u y hy).1,hsz]
   have hd:=j4 e u y cu [] hy hu1
   have hBl:B.length=sz+ps.length * sz:=by rw [hB,List.length_cons,Nat.add_mul];omega
   obtain ⟨cs,h1,h2⟩:=zC hsz ps vs ys (i+1) (A++cu) (B.drop sz) hps hys (by rw [List.length_append,hA,hlu,Nat.add_mul];omega) (by rw [List.length_drop];omega)
   refine ⟨cu++cs,?_,cu,cs,rfl,hd,h2⟩
   have hB2:B=B.take sz++B.drop sz:=(List.take_append_drop sz B).symm
   rw [hB2,rJ (A:=A) (B:=B.take sz) (C:=B.drop sz) rfl hcu hlu hA.symm (by rw [List.length_take,hlu];omega)]
   rw [← List.append_assoc,h1,List.append_assoc]
theorem qH {t E n m:Nat} {e:Ty} (hR:RS X G0 w0 G s a.tmps w) (hu:P.underlying t=some (.slice E)) (hE:gf P m E e=true) {ps:List (Nat × V)} {parts:Array (Nat × Value)} {xs:List e.D}
  (hps:Parts G w ps parts.toList) (hn:ps.length=n) (hb:n * e.cells≤16777216) (hx:lC e 0 ps=some xs) :
  ∃ v w' G',(Instr.buildSlice t n parts).run P w = .ok v w'∧gk X G0 w0 G' s a.tmps w' (.own e xs) v:=by
 obtain ⟨z,hz,hzc⟩:=(dI hE).zero w
 have hzl:z.cells.size=e.cells:=by rw [← Array.length_toList,hzc,aR.length e _ _ (dL G.I e)]
 have hsz:=(dI hE).sizeOf w
 have key:∀ zc:Array Value,zc.size=n * e.cells→∃ cs,Instr.fill (fun i=>some (i * e.cells,e.cells)) zc parts.toList=some cs.toArray∧bC (aR G.I e) xs cs:=by
  intro zc hzc
  obtain ⟨cs,h1,h2⟩:=zC (G:=G) (w:=w) rfl ps parts.toList xs 0 [] zc.toList hps hx (by simp) (by simp [hn,hzc])
  exact ⟨cs,by simpa using h1,h2⟩
 have hxl:xs.length=n:=by
  have:∀ (ps:List (Nat × V)) (k:Nat) (xs:List e.D),lC e k ps=some xs→xs.length=ps.length:=by
   intro ps
   induction ps with
   | nil=>intro k xs h;simp only [lC,Option.some.injEq] at h;subst h;rfl
   | cons p r ih =>
    intro k xs h
    obtain ⟨i,u⟩:=p
    simp only [lC] at h
    cases hi:Nat.beq i k with
    | false=>simp [hi] at h
    | true =>
     simp only [hi,cond_true,Option.bind_eq_some_iff,Option.some.injEq] at h
     obtain ⟨y,_,ys,hys,rfl⟩:=h
     simp [ih _ _ hys]
  rw [this ps 0 xs hx,hn]
 obtain ⟨cs,hf,hA⟩:=key ((Array.range (n * e.cells)).map ((if n * e.cells=0 then (#[]:Array Value) else z.cells)[· % (if n * e.cells=0 then (#[]:Array Value) else z.cells).size]!)) (by simp)
 have hcl:=bC.length (fun x c=>aR.length e x c) xs cs hA
 refine ⟨.slice (some ⟨w.heap.size,0,none⟩) n n,w.alloc (.cells cs.toArray E),_,?_,by
  have:=RS.fresh hR (T:=E) (cap:=n) (arr:=cs.toArray) hA (by have:=(dI hE).pos;have:n≤n * e.cells:=Nat.le_mul_of_pos_right n (by omega);omega) (by simp [hcl,hxl]) (fun j v h=>by simpa using h)
  rw [hxl] at this;exact this⟩
 have hlim:¬ (n * e.cells > 2 ^ 24):=by omega
 simp only [Instr.buildSlice,Sem.run_bind,run_underlying hu,Result.andThen_ok,hsz]
 rw [if_neg hlim]
 by_cases h0:n * e.cells=0
 ·simp only [h0,if_true] at hf ⊢
  simp only [Sem.run_bind,Sem.run_pure,Result.andThen_ok,hf,newRow,run_newObj_alloc]
 ·simp only [h0,if_false] at hf ⊢
  simp only [Sem.run_bind,Sem.run_pure,Result.andThen_ok,hz,hf,newRow,run_newObj_alloc]
theorem nL {α:Type} {xs ys:List α} (h:bm xs ys=true):xs.length+ys.length≤4294967296:=by simpa [bm] using h
theorem xF {t t2 ty E E2 m:Nat} {e e':Ty} {xs ys:List e.D} {x y:Value} (hR:gk X G0 w0 G s a.tmps w (.own e xs) x) (hy:eV G.I (.slc e) ys y) (hu:P.underlying t=some (.slice E)) (hu2:P.underlying t2=some (.slice E2)) (hE:gf P m E e'=true) (hce:e'.cells=e.cells)
  (hroom:bm xs ys=true):∃ v w' G',(Builtin.append_ #[t,t2] ty #[x,y]).run P w = .ok v w'∧gk X G0 w0 G' s a.tmps w' (.own e (app xs ys)) v:=by
 obtain ⟨ie,hie,his,hib,z,hz,hzc⟩:=(dI hE).info
 rw [hce] at his
 have hzl:z.cells.size=e.cells:=by rw [← Array.length_toList,hzc,aR.length e' _ _ (dL G.I e'),hce]
 have hroom':=nL hroom
 obtain ⟨ay,m',cy,rfl,hyl,hyc,hyE⟩:=hy.slc
 obtain ⟨news,hnA,hnl,_,hnr⟩:=ku (P:=P) hR.1.wf (ad:=ay) (cap:=cy) hyl hyE
 have hR0:=hR
 obtain ⟨hB,tE,tM,tV,h1,h2,⟨_,⟨ax,len,cap,rfl,hxl,hxc,hxO⟩,hx'⟩,h4,h5⟩:=hR
 simp only [V.agg,Bool.false_eq_true,if_false,List.cons.injEq,and_true] at hx'
 subst hx'
 by_cases hfit:len+m'≤cap
 ·-- it stays where it is
  by_cases hy0:ys=[]
  ·subst hy0
   simp only [List.length_nil] at hyl;subst hyl
   have hn0:news=[]:=List.eq_nil_of_length_eq_zero (by simpa using hnl)
   subst hn0
   have hb:(Builtin.append_ #[t,t2] ty #[.slice ax len cap,.slice ay 0 cy]).run P w = .ok (.slice ax len cap) w:=by
    have hf:=hnr w hB.wf.holds
    cases ax with
    | none=>simp [Builtin.append_,run_underlying hu,run_underlying hu2,sizeOf,typeInfo,hie,his,Builtin.lenOf,hxc,hf]
    | some ad=>simp [Builtin.append_,run_underlying hu,run_underlying hu2,sizeOf,typeInfo,hie,his,Builtin.lenOf,hxc,hf,storeCells]
   refine ⟨_,_,G,hb,?_⟩
   have:app xs ([]:List e.D)=xs:=by simp [app]
   rw [this];exact hR0
  ·have hm:0<m':=by rw [← hyl];exact List.length_pos_iff.2 hy0
   rcases hxO with ⟨hc,_⟩ | ⟨g,rfl,_,_⟩
   ·omega
   obtain ⟨hst,G',hR'⟩:=gk.grow (xs:=xs) (ys:=ys) (by rw [hxl];exact hR0) hnA (by omega) (by omega)
   refine ⟨.slice (some ⟨g,0,none⟩) (len+m') cap,_,G',?_,by rw [hxl,hyl] at hR';exact hR'⟩
   have hf:=hnr w hB.wf.holds
   have hs:=hst P
   rw [hxl] at hs
   simp [Builtin.append_,run_underlying hu,run_underlying hu2,sizeOf,typeInfo,hie,his,Builtin.lenOf,hfit,hf,Addr.add_lit,hs]
 ·-- it is laid anew
  have hx2:xs=[]∨∃ b o,ax=some ⟨b,o,none⟩∧d8 G.I e.cells (aR G.I e) b o xs:=by
   rcases hxO with ⟨hc,_⟩ | ⟨g,ha,_,hel,_⟩
   ·exact .inl (List.length_eq_zero_iff.1 (by omega))
   ·exact .inr ⟨g,0,ha,hel⟩
  obtain ⟨olds,hoA,hol,_,hor⟩:=ku (P:=P) hB.wf (ad:=ax) (cap:=cap) hxl hx2
  have hA:=bC.append xs ys olds news hoA hnA
  have hcl:=bC.length (fun x c=>aR.length e x c) _ _ hA
  have hge:=grownCap_ge w (len+m') cap E
  have hRd:RS X G0 w0 G s a.tmps w.drew:=hR0.rs.drew
  have hfr:=RS.fresh hRd (T:=E) (cap:=grownCap w (len+m') cap E) (arr:=olds.toArray++news.toArray++Builtin.zeroCells z.cells (grownCap w (len+m') cap E - (len+m'))) hA (by rw [List.length_append];have:=grownCap_le_maxLen w (len+m') cap E (by unfold maxLen;omega);unfold maxLen at this;omega)
   (by simp only [Array.size_append,List.size_toArray,size_zeroCells,hzl,hol,hnl,← Nat.add_mul];congr 1;omega)
   (fun j v h=>by
    have hj:=(List.getElem?_eq_some_iff.1 h).1
    rw [← Array.getElem?_toList]
    simp only [Array.toList_append,List.append_assoc]
    rw [← List.append_assoc,List.getElem?_append_left hj];exact h)
  refine ⟨.slice (some ⟨w.heap.size,0,none⟩) (len+m') (grownCap w (len+m') cap E),_,_,?_,by rw [List.length_append,hxl,hyl] at hfr;exact hfr⟩
  have h63':¬ (9223372036854775807<((len:Int)+(m':Int))):=by omega
  have h48:Builtin.nextslicecap (len+m') cap * ie.bytes≤281474976710656:=growslice_fits (by omega) (by
   have h6:(len+m') * ie.bytes≤4294967296 * 32768:=Nat.mul_le_mul (by omega) hib
   omega)
  have h48':¬ (281474976710656<Builtin.nextslicecap (len+m') cap * ie.bytes):=by omega
  have hf:=hnr w.drew hRd.1.wf.holds
  have hfo:=hor w.drew hRd.1.wf.holds
  simp [Builtin.append_,run_underlying hu,run_underlying hu2,sizeOf,typeInfo,zeroValue,hie,hz,his,Builtin.lenOf,hfit,h63',h48',Question.forced,hf,hfo,newRow,grownCap]
  rw [← Array.append_assoc];congr 3
  simp
end Go.Proofs.YtfhcammihohmjaaGreatDoor.Pal
end
