/- The abstract run: Go code over typed data. Plain definitions; nothing here speaks of a program's memory. -/
import GoSem.Step

namespace Go.Proofs.Ytennedlpmacicaa.Pal


/-! ### 1. Types of data -/
inductive Ty where
  | int (k : IntKind) | bool | str | slc (e : Ty) | arr (n : Nat) (e : Ty) | pair (a b : Ty)
  deriving DecidableEq

@[reducible] def Ty.D : Ty → Type
  | .int _ => Int
  | .bool => Bool
  | .str => List UInt8
  | .slc e => List e.D
  | .arr _ e => List e.D
  | .pair a b => a.D × b.D

def Ty.cells : Ty → Nat
  | .int _ | .bool | .str | .slc _ => 1
  | .arr n e => n * e.cells
  | .pair a b => a.cells + b.cells

def Ty.agg : Ty → Bool
  | .arr .. | .pair .. => true
  | _ => false

/-- No slices in it. -/
def flat : Ty → Bool
  | .slc _ => false
  | .arr _ e => flat e
  | .pair a b => flat a && flat b
  | _ => true
def zarr {α : Type} (n : Nat) (x : α) : List α := List.replicate n x
def Ty.zero : (τ : Ty) → τ.D
  | .int _ => (0 : Int)
  | .bool => false
  | .str => []
  | .slc _ => []
  | .arr n e => zarr n e.zero
  | .pair a b => (a.zero, b.zero)

/-! ### 2. What is reckoned with data -/
def rd (e : Ty) (xs : List e.D) (i : Nat) : e.D := xs.getD i e.zero
def iadd (k : IntKind) (a b : Int) : Int := k.wrap (a + b)
def isub (k : IntKind) (a b : Int) : Int := k.wrap (a - b)
def imul (k : IntKind) (a b : Int) : Int := k.wrap (a * b)
def iquo (k : IntKind) (a b : Int) : Int := k.wrap (a.tdiv b)
def irem (a b : Int) : Int := a.tmod b
def iand (k : IntKind) (x y : Int) : Int := k.wrap (BitVec.ofInt k.bits x &&& BitVec.ofInt k.bits y).toNat
def ior (k : IntKind) (x y : Int) : Int := k.wrap (BitVec.ofInt k.bits x ||| BitVec.ofInt k.bits y).toNat
def ixor (k : IntKind) (x y : Int) : Int := k.wrap (BitVec.ofInt k.bits x ^^^ BitVec.ofInt k.bits y).toNat
def ishl (k : IntKind) (x y : Int) : Int := k.wrap (x * 2 ^ (min y.toNat k.bits))
def ishr (k : IntKind) (x y : Int) : Int := x.fdiv (2 ^ (min y.toNat k.bits))
def iwrap (k : IntKind) (x : Int) : Int := k.wrap x
def ieq (a b : Int) : Bool := a == b
def ilt (a b : Int) : Bool := decide (a < b)
def ile (a b : Int) : Bool := decide (a ≤ b)
def imax (a b : Int) : Int := if b > a then b else a
def imin (a b : Int) : Int := if b < a then b else a
def ilen {α : Type} (xs : List α) : Int := (xs.length : Int)
def bnot (a : Bool) : Bool := !a
def beqB (a b : Bool) : Bool := a == b
def bor (a b : Bool) : Bool := a || b
def app {α : Type} (xs ys : List α) : List α := xs ++ ys
def upd {α : Type} (xs : List α) (i : Nat) (x : α) : List α := xs.set i x
def natOf (a : Int) : Nat := a.toNat
/-- An index of a list: within. -/
def inB (i : Int) (n : Nat) : Bool := decide (0 ≤ i) && decide (i < (n : Int))
def inL {α : Type} (i : Int) (xs : List α) : Bool := decide (0 ≤ i) && decide (i < (xs.length : Int))
/-- The bounds of a piece. -/
def inS (lo hi n : Int) : Bool := decide (0 ≤ lo) && decide (lo ≤ hi) && decide (hi ≤ n)
def piece {α : Type} (xs : List α) (lo hi : Int) : List α := (xs.take hi.toNat).drop lo.toNat
def byteAt (s : List UInt8) (i : Int) : Int := ((s.getD i.toNat 0).toNat : Int)
/-- There is room for so many. -/
def room {α β : Type} (xs : List α) (ys : List β) : Bool := decide (xs.length + ys.length ≤ 4294967296)
def roomS (xs ys : List UInt8) : Bool := decide (xs.length + ys.length ≤ 4611686018427387904)
def sless : List UInt8 → List UInt8 → Bool
  | _, [] => false
  | [], _ :: _ => true
  | a :: x, b :: y => a < b || (a == b && sless x y)
def seq (x y : List UInt8) : Bool := x == y
/-- Go's '=='. -/
def Ty.eq : (τ : Ty) → Option (τ.D → τ.D → Bool)
  | .int _ => some ieq
  | .bool => some beqB
  | .str => some seq
  | .slc _ => none
  | .arr _ e => (Ty.eq e).map fun f (xs ys : List e.D) => xs.length == ys.length && (xs.zip ys).all fun p => f p.1 p.2
  | .pair a b => (Ty.eq a).bind fun f => (Ty.eq b).map fun g (x y : a.D × b.D) => f x.1 y.1 && g x.2 y.2
def Ty.hasEq0 : Ty → Bool
  | .slc _ => false
  | .arr _ e => e.hasEq0
  | .pair a b => a.hasEq0 && b.hasEq0
  | _ => true
/-- Those whose '==' goes part by part, and bools. -/
def Ty.hasEq : Ty → Bool
  | .arr _ e => e.hasEq0
  | .pair a b => a.hasEq0 && b.hasEq0
  | .bool => true
  | _ => false
def arrEq {α : Type} (f : α → α → Bool) (xs ys : List α) : Bool := xs.length == ys.length && (xs.zip ys).all fun p => f p.1 p.2
def deq : (τ : Ty) → τ.D → τ.D → Bool
  | .int _ => ieq
  | .bool => beqB
  | .str => seq
  | .slc _ => fun _ _ => false
  | .arr _ e => arrEq (deq e)
  | .pair a b => fun x y => deq a x.1 y.1 && deq b x.2 y.2

/-- A test whose answer hangs on the data; a call's answer. -/
def br {α : Type} (b : Bool) (x y : Option α) : Option α := match b with
  | true => x
  | false => y
def bnd {α β : Type} (x : Option α) (f : α → Option β) : Option β := match x with
  | some a => f a
  | none => none

/-! ### 3. Values -/
inductive Step where
  | l
  | r (o : Nat)
  | ix (n sz i : Nat)

inductive V where
  | dat (τ : Ty) (x : τ.D)
  | own (e : Ty) (xs : List e.D)
  | pr (a b : V)
  | ref (k : Nat) (p : List Step)
  | nilp
  | ip (τ : Ty) (x : τ.D)
  | fn (f : Nat) (caps : List (Nat × List Step))
  | tup2 (a b : V)
  | tup3 (a b c : V)
  | lent (t : Nat)
  | unit
  | raw (e : Ty) (xs : List e.D)
  | any

def mkPr : V → V → V
  | .dat a x, .dat b y => .dat (.pair a b) (x, y)
  | v, u => .pr v u

def V.cells : V → Nat
  | .dat τ _ => τ.cells
  | .pr a b => a.cells + b.cells
  | _ => 1
def V.agg : V → Bool
  | .dat τ _ => τ.agg
  | .pr _ _ => true
  | _ => false

def isTup : V → Bool
  | .tup2 .. | .tup3 .. | .unit | .raw .. | .any => true
  | .pr a b => isTup a || isTup b
  | _ => false
/-- What a copy is. -/
def V.copy : V → V
  | .own e xs => .dat (.slc e) xs
  | .pr a b => mkPr a.copy b.copy
  | .tup2 a b => .tup2 a.copy b.copy
  | .tup3 a b c => .tup3 a.copy b.copy c.copy
  | .raw _ _ => .any
  | v => v
/-- What was lent can't be read. -/
def V.copyO : V → Option V
  | .lent _ => none
  | v => some v.copy

def V.as (τ : Ty) : V → Option τ.D
  | .dat τ' x => if h : τ' = τ then some (h ▸ x) else none
  | .own e xs => if h : Ty.slc e = τ then some (h ▸ (show (Ty.slc e).D from xs)) else none
  | .pr a b => match τ with
    | .pair ta tb => (V.as ta a).bind fun x => (V.as tb b).bind fun y => some (x, y)
    | _ => none
  | _ => none

def zeroV : Ty → V
  | .slc e => .own e []
  | .pair a b => mkPr (zeroV a) (zeroV b)
  | τ => .dat τ τ.zero

def V.get : V → List Step → Option V
  | v, [] => some v
  | .pr a _, .l :: p => a.get p
  | .pr a b, .r o :: p => bif Nat.beq a.cells o then b.get p else none
  | .dat (.pair a _) x, .l :: p => (V.dat a x.1).get p
  | .dat (.pair a b) x, .r o :: p => bif Nat.beq a.cells o then (V.dat b x.2).get p else none
  | .dat (.arr m e) xs, .ix n sz i :: p => bif Nat.beq m n && Nat.beq e.cells sz then (V.dat e (rd e xs i)).get p else none
  | _, _ => none
termination_by structural _ p => p

def V.put : List Step → V → V → Option V
  | [], v, u => bif Nat.beq v.cells u.cells && (v.agg == u.agg) then some u else none
  | .l :: p, .pr a b, u => (V.put p a u).map fun a' => mkPr a' b
  | .r o :: p, .pr a b, u => bif Nat.beq a.cells o then (V.put p b u).map fun b' => mkPr a b' else none
  | .l :: p, .dat (.pair a b) x, u => (V.put p (.dat a x.1) u).map fun a' => mkPr a' (.dat b x.2)
  | .r o :: p, .dat (.pair a b) x, u => bif Nat.beq a.cells o then (V.put p (.dat b x.2) u).map fun b' => mkPr (.dat a x.1) b' else none
  | .ix n sz i :: p, .dat (.arr m e) xs, u => bif Nat.beq m n && Nat.beq e.cells sz then
      (V.put p (.dat e (rd e xs i)) u).bind fun v' => (V.as e v').bind fun y => some (.dat (.arr m e) (upd xs i y)) else none
  | _, _, _ => none

/-! ### 4. States -/
structure St where
  env : List (Nat × V)
  mem : List (Nat × V)

def lk : List (Nat × V) → Nat → Option V
  | [], _ => none
  | (k, v) :: r, t => bif Nat.beq k t then some v else lk r t
def rm : List (Nat × V) → Nat → List (Nat × V)
  | [], _ => []
  | (k, v) :: r, t => bif Nat.beq k t then rm r t else (k, v) :: rm r t
/-- The same, and what was lent to it. -/
def rmW : List (Nat × V) → Nat → List (Nat × V)
  | [], _ => []
  | (k, v) :: r, t => bif Nat.beq k t || (match v with | .lent u => Nat.beq u t | _ => false) then rmW r t else (k, v) :: rmW r t
abbrev St.set (s : St) (t : Nat) (v : V) : St := { s with env := (t, v) :: rmW s.env t }
abbrev St.dst (s : St) : Option Nat → V → St
  | some t, v => s.set t v
  | none, _ => s
def setM (m : List (Nat × V)) (k : Nat) (u : V) : List (Nat × V) := (k, u) :: rm m k
def pick (m : List (Nat × V)) : List Nat → List (Nat × V)
  | [] => []
  | t :: r => bif Nat.ble 10000000 t then (match lk m (t - 10000000) with
      | some v => (t - 10000000, v.copy) :: pick (rm m (t - 10000000)) r
      | none => pick m r)
    else match lk m t with
    | some v => (t, v) :: pick (rm m t) r
    | none => pick m r
def V.refs : V → List Nat
  | .pr a b => a.refs ++ b.refs
  | .ref k _ => [k]
  | .fn _ caps => caps.map (·.1)
  | .tup2 a b => a.refs ++ b.refs
  | .tup3 a b c => a.refs ++ b.refs ++ c.refs
  | _ => []
def memN (t : Nat) : List Nat → Bool
  | [] => false
  | k :: r => Nat.beq k t || memN t r
def noRef (k : Nat) : List (Nat × V) → Bool
  | [] => true
  | (_, v) :: r => !(memN k v.refs) && noRef k r

/-! ### 5. What is known of a function, and of the types -/
structure Entry where
  run : (α : Type) → List V → List V → (V → List V → Option α) → Option α

structure TInfo where
  ty : Ty
  nf : Nat

structure RInfo where
  live : List Nat
  mem : List Nat
  moves : List Nat := []
  lends : List Nat := []
  quiet : Nat := 0
  head : List Nat := []
  headM : List Nat := []
  frz : List Nat := []

def lkN.{u} {β : Type u} : List (Nat × β) → Nat → Option β
  | [], _ => none
  | (k, v) :: r, t => bif Nat.beq k t then some v else lkN r t

structure Cx where
  types : List (Nat × TInfo)
  ptrs : List Nat
  fns : List (Nat × Entry)
  regs : List (Nat × RInfo)
  fuel : Nat

def fpath : Ty → Nat → Nat → List Step
  | .pair a b, n + 2, i => match i with
    | 0 => [.l]
    | i + 1 => .r a.cells :: fpath b (n + 1) i
  | _, _, _ => []

/-! ### 6. Operands, operations -/
def cV (e : Option Ty) : Value → Option V
  | .int k n => some (.dat (.int k) n)
  | .bool b => some (.dat .bool b)
  | .string s => some (.dat .str s.data.toList)
  | .pointer none => some .nilp
  | .slice none 0 0 => match e with
    | some (.slc t) => some (.own t [])
    | _ => none
  | _ => none

def opd (e : Option Ty) (s : St) : Operand → Option V
  | .tmp t => (lk s.env t).bind V.copyO
  | .const v => cV e v
  | .func f => some (.fn f [])
  | .global _ => none

/-- An operand, moved or copied. -/
def tak (mv : Bool) (e : Option Ty) (s : St) : Operand → Option (V × St)
  | .tmp t => bif mv then (lk s.env t).bind fun v => v.copyO.map fun _ => (v, { s with env := rm s.env t }) else ((lk s.env t).bind V.copyO).map fun v => (v, s)
  | .const v => (cV e v).map fun v => (v, s)
  | .func f => some (.fn f [], s)
  | .global _ => none

def Cx.ty (c : Cx) (t : Nat) : Option Ty := (lkN c.types t).map (·.ty)
/-- How many cells, and whether an aggregate. -/
def Cx.lay (c : Cx) (t : Nat) : Option (Nat × Bool) := match lkN c.types t with
  | some ti => some (ti.ty.cells, ti.ty.agg)
  | none => bif memN t c.ptrs then some (1, false) else none
def Cx.zero (c : Cx) (t : Nat) : Option V := match lkN c.types t with
  | some ti => some (zeroV ti.ty)
  | none => bif memN t c.ptrs then some .nilp else none

def binV {α : Type} (pt : Bool) (ty : Option Ty) (op : BinOp) (x y : V) (K : V → Option α) : Option α :=
  match x, y with
  | .dat (.int k) a, .dat (.int _) b => match op with
    | .add => K (.dat (.int k) (iadd k a b))
    | .sub => K (.dat (.int k) (isub k a b))
    | .mul => K (.dat (.int k) (imul k a b))
    | .quo => br (ieq b 0) none <| K (.dat (.int k) (iquo k a b))
    | .rem => br (ieq b 0) none <| K (.dat (.int k) (irem a b))
    | .and => K (.dat (.int k) (iand k a b))
    | .or => K (.dat (.int k) (ior k a b))
    | .xor => K (.dat (.int k) (ixor k a b))
    | .shl => br (ilt b 0) none <| K (.dat (.int k) (ishl k a b))
    | .shr => br (ilt b 0) none <| K (.dat (.int k) (ishr k a b))
    | .andNot => none
    | .eql => K (.dat .bool (ieq a b))
    | .neq => K (.dat .bool (bnot (ieq a b)))
    | .lss => K (.dat .bool (ilt a b))
    | .leq => K (.dat .bool (ile a b))
    | .gtr => K (.dat .bool (ilt b a))
    | .geq => K (.dat .bool (ile b a))
  | .dat .str a, .dat .str b => match op with
    | .add => br (roomS a b) (K (.dat .str (app a b))) none
    | .eql => K (.dat .bool (seq a b))
    | .neq => K (.dat .bool (bnot (seq a b)))
    | .lss => K (.dat .bool (sless a b))
    | .leq => K (.dat .bool (bor (sless a b) (seq a b)))
    | .gtr => K (.dat .bool (bnot (bor (sless a b) (seq a b))))
    | .geq => K (.dat .bool (bnot (sless a b)))
    | _ => none
  | .nilp, .nilp => bif pt then match op with
    | .eql => K (.dat .bool true)
    | .neq => K (.dat .bool false)
    | _ => none
    else none
  | .ref .., .nilp | .nilp, .ref .. => bif pt then match op with
    | .eql => K (.dat .bool false)
    | .neq => K (.dat .bool true)
    | _ => none
    else none
  | x, y => match ty with
    | some τ => bif τ.hasEq then (V.as τ x).bind fun a => (V.as τ y).bind fun b => match op with
      | .eql => K (.dat .bool (deq τ a b))
      | .neq => K (.dat .bool (bnot (deq τ a b)))
      | _ => none
      else none
    | none => none

def kn : IntKind → Nat
  | .i8 => 0 | .i16 => 1 | .i32 => 2 | .i64 => 3 | .u8 => 4 | .u16 => 5 | .u32 => 6 | .u64 => 7
/-- Two numbers of one kind, but for a shift. -/
def binOK (op : BinOp) : V → V → Bool
  | .dat (.int k) _, .dat (.int k') _ => match op with
    | .shl | .shr => true
    | _ => Nat.beq (kn k) (kn k')
  | _, _ => true

def lenV : V → Option Int
  | .dat (.slc _) xs => some (ilen xs)
  | .dat .str s => some (ilen s)
  | .dat (.arr n _) _ => some (n : Int)
  | _ => none

/-- The length's type is the value's. -/
def lenOK : Ty → V → Bool
  | .slc _, .dat (.slc _) _ => true
  | .str, .dat .str _ => true
  | .arr n _, .dat (.arr m _) _ => Nat.beq n m
  | _, _ => false
def fieldOK (ti : TInfo) (f : Nat) : Bool := (match ti.ty with | .pair .. => true | _ => false) && Nat.blt f ti.nf
def fieldTy : Ty → Nat → Nat → Ty
  | .pair a b, n + 2, i => match i with
    | 0 => a
    | i + 1 => fieldTy b (n + 1) i
  | τ, _, _ => τ
/-- Parts laid into a struct or an array. -/
def fillV (τ : Ty) (nf : Nat) : V → List (Nat × V) → Option V
  | v, [] => some v
  | v, (i, u) :: r => match τ with
    | .arr n e => bif Nat.blt i n && Nat.beq u.cells e.cells && !(isTup u) then (V.put [.ix n e.cells i] v u).bind fun v' => fillV τ nf v' r else none
    | .pair _ _ => bif Nat.blt i nf && Nat.beq u.cells (fieldTy τ nf i).cells && !(isTup u) then (V.put (fpath τ nf i) v u).bind fun v' => fillV τ nf v' r else none
    | _ => none
def opds (ρ : Option Ty → Operand → Option V) : List (Nat × Operand) → Option (List (Nat × V))
  | [] => some []
  | (i, x) :: r => (ρ none x).bind fun v => (opds ρ r).bind fun vs => some ((i, v) :: vs)
def opdL (ρ : Option Ty → Operand → Option V) : List Operand → Option (List V)
  | [] => some []
  | x :: r => (ρ none x).bind fun v => (opdL ρ r).bind fun vs => some (v :: vs)
def opdT (ρ : Option Ty → Operand → Option V) : List (Option Ty) → List Operand → Option (List V)
  | _, [] => some []
  | tys, x :: r => (ρ (tys.headD none) x).bind fun v => (opdT ρ tys.tail r).bind fun vs => some (v :: vs)
/-- Arguments; with 'mv' the first one is moved. -/
def takL (mv : Bool) (tys : List (Option Ty)) (s : St) : List Operand → Option (List V × St)
  | [] => some ([], s)
  | x :: r => (tak mv (tys.headD none) s x).bind fun vs => (opdT (fun e x => opd e vs.2 x) tys.tail r).bind fun us => some (vs.1 :: us, vs.2)
def asAll (e : Ty) : Nat → List (Nat × V) → Option (List e.D)
  | _, [] => some []
  | k, (i, v) :: r => bif Nat.beq i k then (V.as e v).bind fun x => (asAll e (k + 1) r).bind fun xs => some (x :: xs) else none

/-- Pointers that are handed over: by place. -/
def canon1 (n : Nat) : V → Option (V × List (Nat × List Step))
  | .ref k p => some (.ref (1000000 + n) [], [(k, p)])
  | .fn f caps => some (.fn f ((List.range caps.length).map fun i => (1000000 + n + i, [])), caps)
  | v => bif v.refs.isEmpty then some (v, []) else none
def canon : Nat → List V → Option (List V × List (Nat × List Step))
  | _, [] => some ([], [])
  | n, v :: r => (canon1 n v).bind fun x => (canon (n + x.2.length) r).bind fun y => some (x.1 :: y.1, x.2 ++ y.2)
def distinct : List (Nat × List Step) → Bool
  | [] => true
  | (k, _) :: r => !(memN k (r.map (·.1))) && distinct r
def contents (m : List (Nat × V)) : List (Nat × List Step) → Option (List V)
  | [] => some []
  | (k, []) :: r => (lk m k).bind fun v => (contents m r).bind fun us => some (v :: us)
  | _ => none
/-- What is handed back is laid in its place. -/
def giveBack (m : List (Nat × V)) : List (Nat × List Step) → List V → Option (List (Nat × V) × List V)
  | [], us => some (m, us)
  | (k, []) :: r, u :: us => (lk m k).bind fun v => bif Nat.beq v.cells u.cells then giveBack (setM m k u) r us else none
  | _, _ => none
/-- A result that leads to something new. -/
def fresh (n : Nat) (t : Nat) : V → Option V
  | .ref k [] => bif Nat.beq k (1000000 + n) then some (.ref t []) else none
  | .tup2 (.ref k []) b => bif Nat.beq k (1000000 + n) && b.refs.isEmpty then some (.tup2 (.ref t []) b) else none
  | _ => none
def noRefs : List V → Bool
  | [] => true
  | v :: r => v.refs.isEmpty && noRefs r
def callV {α : Type} (c : Cx) (f : Nat) (args : List V) (d : Option Nat) (a0 : Option Nat) (s : St) (K : St → Option α) : Option α :=
  (lkN c.fns f).bind fun e => (canon 0 args).bind fun ar => bif distinct ar.2 then
      (contents s.mem ar.2).bind fun objs => bif noRefs objs then e.run α ar.1 objs fun v objs' =>
        (giveBack s.mem ar.2 objs').bind fun m => bif noRefs objs' then match m.2 with
        | [] => bif v.refs.isEmpty then K (({ env := s.env, mem := m.1 } : St).dst d v) else none
        | [.raw e xs] => match a0 with
          | some t => bif v.refs.isEmpty then K (({ env := (t, .raw e xs) :: rm s.env t, mem := m.1 } : St).dst d v) else none
          | none => none
        | [u] => match d with
          | some d => bif Nat.blt d 1000000 && (lk m.1 d).isNone && noRef d s.env && noRef d m.1 then (fresh ar.2.length d v).bind fun v' => K (({ env := s.env, mem := (d, u) :: m.1 } : St).set d v') else none
          | none => none
        | _ => none
        else none else none
    else none

/-- What is moved to be handed over, and comes back: it stays the other one's. -/
def lend (mv : Bool) (x : Operand) (o : Oper) (s : St) : St :=
  match mv, x, o.dst with
  | true, .tmp t, some d => { s with env := (t, .lent d) :: rm s.env t }
  | _, _, _ => s
/-- What an operation gives, if it turns no memory. -/
def valO {α : Type} (c : Cx) (o : Oper) (ρ : Option Ty → Operand → Option V) (m : List (Nat × V)) (K : V → Option α) : Option α :=
  match o.op with
  | .move x | .assign x => (ρ (c.ty o.type) x).bind K
  | .pick p x y => (ρ none p).bind fun pv => match pv with
    | .dat .bool b => br b ((ρ none x).bind K) ((ρ none y).bind K)
    | _ => none
  | .build t parts => (lkN c.types t).bind fun ti => bif ti.ty.agg then (opds ρ parts.toList).bind fun ps => (fillV ti.ty ti.nf (zeroV ti.ty) ps).bind K else none
  | .load t a => (c.lay t).bind fun ly => (ρ none a).bind fun av => match av with
    | .ref k p => (lk m k).bind fun v => (v.get p).bind fun u => bif Nat.beq ly.1 u.cells && (ly.2 == u.agg) then K u.copy else none
    | .ip τ x => bif Nat.beq ly.1 τ.cells && (ly.2 == τ.agg) then K (.dat τ x) else none
    | _ => none
  | .nilCheck x => (ρ none x).bind fun v => match v with
    | .ref .. | .fn .. | .ip .. => K v
    | _ => none
  | .binOp op t x y _ => (ρ (c.ty t) x).bind fun v => (ρ (c.ty t) y).bind fun u => bif binOK op v u then binV (memN t c.ptrs) (c.ty t) op v u K else none
  | .unOp op _ x => (ρ none x).bind fun v => match op, v with
    | .not, .dat .bool b => K (.dat .bool (bnot b))
    | .neg, .dat (.int k) n => K (.dat (.int k) (isub k 0 n))
    | _, _ => none
  | .convert q t x => (c.ty q).bind fun σ => (ρ none x).bind fun v => (c.ty t).bind fun τ => match σ, τ, v with
    | .int _, .int k, .dat (.int _) n => K (.dat (.int k) (iwrap k n))
    | .str, .str, .dat .str b => K (.dat .str b)
    | _, _, _ => none
  | .slice t x lo hi mx => (c.ty t).bind fun τ => (ρ none x).bind fun v =>
      (match lo with | some y => ρ none y | none => some (.dat (.int .i64) (0 : Int))).bind fun lov =>
      (match hi with | some y => ρ none y | none => (lenV v).map fun n => .dat (.int .i64) n).bind fun hiv =>
      match τ, lov, hiv, mx with
      | .slc e, .dat (.int _) l, .dat (.int _) h, none => (V.as (.slc e) v).bind fun xs => br (inS l h (ilen xs)) (K (.dat (.slc e) (piece xs l h))) none
      | .str, .dat (.int _) l, .dat (.int _) h, none => (V.as .str v).bind fun xs => br (inS l h (ilen xs)) (K (.dat .str (piece xs l h))) none
      | _, _, _, _ => none
  | .fieldAddr t x f => (lkN c.types t).bind fun ti => bif fieldOK ti f then (ρ none x).bind fun v => match v with
    | .ref k p => K (.ref k (p ++ fpath ti.ty ti.nf f))
    | .ip τ x => ((V.dat τ x).get (fpath ti.ty ti.nf f)).bind fun u => match u with
      | .dat τ' y => K (.ip τ' y)
      | _ => none
    | _ => none
    else none
  | .indexAddr t x i => (c.ty t).bind fun τ => (ρ none x).bind fun v => (ρ none i).bind fun iv => match τ, iv with
    | .slc e, .dat (.int _) n => (V.as (.slc e) v).bind fun xs => br (inL n xs) (K (.ip e (rd e xs (natOf n)))) none
    | .arr m e, .dat (.int _) n => match v with
      | .ref k p => br (inB n m) (K (.ref k (p ++ [.ix m e.cells (natOf n)]))) none
      | .ip τ' y => (V.as (.arr m e) (.dat τ' y)).bind fun xs => br (inB n m) (K (.ip e (rd e xs (natOf n)))) none
      | _ => none
    | _, _ => none
  | .index t x i => (c.ty t).bind fun τ => (ρ none x).bind fun v => (ρ none i).bind fun iv => match τ, iv with
    | .str, .dat (.int _) n => (V.as .str v).bind fun b => br (inL n b) (K (.dat (.int .u8) (byteAt b n))) none
    | .arr m e, .dat (.int _) n => (V.as (.arr m e) v).bind fun xs => br (inB n m) (K (.dat e (rd e xs (natOf n)))) none
    | _, _ => none
  | .extract x i => (ρ none x).bind fun v => match v, i with
    | .tup2 a _, 0 => K a
    | .tup2 _ b, 1 => K b
    | .tup3 a _ _, 0 => K a
    | .tup3 _ b _, 1 => K b
    | .tup3 _ _ d, 2 => K d
    | _, _ => none
  | .makeFunc (.func f) first caps => bif first.isEmpty then (opdL ρ caps.toList).bind fun vs =>
      ((vs.foldr (fun v acc => acc.bind fun l => match v with | .ref k p => some ((k, p) :: l) | _ => none) (some [])) : Option (List (Nat × List Step))).bind fun l => K (.fn f l) else none
  | .call { callee := .builtin b, args, argTypes, .. } => match b, args.toList, argTypes.toList with
    | .len, [x], t :: _ => (c.ty t).bind fun τ => (ρ none x).bind fun v => bif lenOK τ v then (lenV v).bind fun n => K (.dat (.int .i64) n) else none
    | .max, [x, y], _ => (ρ none x).bind fun v => (ρ none y).bind fun u => match v, u with
      | .dat (.int k) a, .dat (.int k') b => bif Nat.beq (kn k) (kn k') then K (.dat (.int k) (imax a b)) else none
      | _, _ => none
    | .min, [x, y], _ => (ρ none x).bind fun v => (ρ none y).bind fun u => match v, u with
      | .dat (.int k) a, .dat (.int k') b => bif Nat.beq (kn k) (kn k') then K (.dat (.int k) (imin a b)) else none
      | _, _ => none
    | _, _, _ => none
  | _ => none
/-- An operand, told by look-ups. -/
def rdL (L : Nat → Option V) (e : Option Ty) : Operand → Option V
  | .tmp t => (L t).bind V.copyO
  | .const v => cV e v
  | .func f => some (.fn f [])
  | .global _ => none
/-- An operand, moved or copied. -/
def takM (mv : Bool) (e : Option Ty) (L : Nat → Option V) : Operand → Option V
  | .tmp t => bif mv then (L t).bind fun v => v.copyO.map fun _ => v else (L t).bind V.copyO
  | .const v => cV e v
  | .func f => some (.fn f [])
  | .global _ => none
/-- What is known behind a taking. -/
def cutL (L : Nat → Option V) : Option Nat → Nat → Option V
  | none => L
  | some t => fun u => bif Nat.beq t u then none else L u
def tmpOf (mv : Bool) : Operand → Option Nat
  | .tmp t => bif mv then some t else none
  | _ => none
def takLM (mv : Bool) (tys : List (Option Ty)) (L : Nat → Option V) : List Operand → Option (List V)
  | [] => some []
  | x :: r => (takM mv (tys.headD none) L x).bind fun v => (opdT (rdL (cutL L (tmpOf mv x))) tys.tail r).bind fun us => some (v :: us)
def headT (mv : Bool) : List Operand → Option Nat
  | x :: _ => tmpOf mv x
  | [] => none
/-- What an operation takes. -/
def consO (mv : Bool) (o : Oper) : Option Nat :=
  match o.op with
  | .call { callee := .value _, args, .. } | .call { callee := .builtin .append, args, .. } => headT mv args.toList
  | _ => none
def rmO (env : List (Nat × V)) : Option Nat → List (Nat × V)
  | none => env
  | some t => rm env t
/-- A step that turns no memory that others know: it may come early or late. -/
def stepF {α : Type} (c : Cx) (mv : Bool) (o : Oper) (L : Nat → Option V) (m : List (Nat × V)) (K : V → Option α) : Option α :=
  match o.op with
  | .call { callee := .value f, args, argTypes } => (rdL L none f).bind fun fv => match fv with
    | .fn g [] => (takLM mv (argTypes.toList.map c.ty) L args.toList).bind fun vs => bif vs.all (fun v => v.refs.isEmpty) then
      (lkN c.fns g).bind fun e => e.run α vs [] fun v os => bif os.isEmpty && v.refs.isEmpty then K v else none else none
    | _ => none
  | .call { callee := .builtin .append, args, argTypes } => match args.toList, argTypes.toList with
    | [x, y], [t, t2] => (takM mv (c.ty t) L x).bind fun v => (rdL (cutL L (tmpOf mv x)) (c.ty t) y).bind fun u => match c.ty t, c.ty t2, v with
      | some (.slc e'), some (.slc _), .own e xs => bif Nat.beq e'.cells e.cells then (V.as (.slc e) u).bind fun ys => br (room xs ys) (K (.own e (app xs ys))) none else none
      | _, _, _ => none
    | _, _ => none
  | .buildSlice t n parts => (c.ty t).bind fun τ => match τ with
    | .slc e => (opds (rdL L) parts.toList).bind fun ps => bif Nat.beq ps.length n && Nat.ble (n * e.cells) 16777216 then (asAll e 0 ps).bind fun xs => K (.own e xs) else none
    | _ => none
  | _ => valO c o (rdL L) m K
def stepV {α : Type} (c : Cx) (o : Oper) (s : St) (K : St → Option α) : Option α := valO c o (fun e x => opd e s x) s.mem fun v => K (s.dst o.dst v)
def stepO {α : Type} (c : Cx) (mv ln : Bool) (o : Oper) (s : St) (K : St → Option α) : Option α :=
  match o.op with
  | .move x | .assign x => bif mv then (tak mv (c.ty o.type) s x).bind fun vs => K (lend ln x o (vs.2.dst o.dst vs.1)) else stepV c o s K
  | .alloc t => (c.zero t).bind fun z => match o.dst with
    | some d => bif Nat.blt d 1000000 && (lk s.mem d).isNone && noRef d s.env && noRef d s.mem then K ({ s with mem := (d, z) :: s.mem }.set d (.ref d [])) else none
    | none => none
  | .box t x => (tak mv (c.ty t) s x).bind fun vs => match o.dst with
    | some d => bif Nat.blt d 1000000 && (lk vs.2.mem d).isNone && noRef d vs.2.env && noRef d vs.2.mem && vs.1.refs.isEmpty && !(isTup vs.1) then K ({ vs.2 with mem := (d, vs.1) :: vs.2.mem }.set d (.ref d [])) else none
    | none => none
  | .buildSlice t n parts => (c.ty t).bind fun τ => match τ with
    | .slc e => (opds (fun e x => opd e s x) parts.toList).bind fun ps => bif Nat.beq ps.length n && Nat.ble (n * e.cells) 16777216 then (asAll e 0 ps).bind fun xs => K (s.dst o.dst (.own e xs)) else none
    | _ => none
  | .load t a => bif mv then (c.lay t).bind fun ly => (opd none s a).bind fun av => match av with
    | .ref k p => (lk s.mem k).bind fun v => (v.get p).bind fun u => bif Nat.beq ly.1 u.cells && (ly.2 == u.agg) then
      (V.put p v u.copy).bind fun v' => K (({ s with mem := setM s.mem k v' } : St).dst o.dst u) else none
    | _ => none
    else stepV c o s K
  | .store t a x => (c.lay t).bind fun ly => (opd none s a).bind fun av => (tak mv (c.ty t) s x).bind fun vs => match av with
    | .ref k p => bif Nat.beq ly.1 vs.1.cells && !(isTup vs.1) && o.dst.isNone then (lk vs.2.mem k).bind fun v => (V.put p v vs.1).bind fun v' => K ({ vs.2 with mem := setM vs.2.mem k v' }) else none
    | _ => none
  | .call { callee := .value f, args, argTypes } => (opd none s f).bind fun fv => match fv with
    | .fn g caps => (takL mv (argTypes.toList.map c.ty) s args.toList).bind fun vs => callV c g (vs.1 ++ caps.map fun x => .ref x.1 x.2) o.dst (match args.toList with | .tmp t :: _ => some t | _ => none) vs.2 K
    | _ => none
  | .call { callee := .builtin .append, args, argTypes } => match args.toList, argTypes.toList with
    | [x, y], [t, t2] => (tak mv (c.ty t) s x).bind fun vs => (opd (c.ty t) vs.2 y).bind fun u => match c.ty t, c.ty t2, vs.1 with
      | some (.slc e'), some (.slc _), .own e xs => bif Nat.beq e'.cells e.cells then (V.as (.slc e) u).bind fun ys => br (room xs ys) (K (vs.2.dst o.dst (.own e (app xs ys)))) none else none
      | _, _, _ => none
    | _, _ => none
  | _ => stepV c o s K

/-! ### 7. Regions, code -/
def runOps {α : Type} (c : Cx) (ops : Array Oper) (moves lends : List Nat) : Nat → List Oper → St → (St → Option α) → Option α
  | _, [], s, K => K s
  | i, o :: r, s, K => match o.guard with
    | none => stepO c (memN i moves) (memN i lends) o s fun s' => runOps c ops moves lends (i + 1) r s' K
    | some (j, want) => ((ops[j]?).bind (·.dst)).bind fun g => (lk s.env g).bind fun gv => match gv with
      | .dat .bool b =>
        br b
          (bif want then stepO c (memN i moves) (memN i lends) o (s.set g (.dat .bool true)) fun s' => runOps c ops moves lends (i + 1) r s' K
           else runOps c ops moves lends (i + 1) r ((s.set g (.dat .bool true)).dst o.dst .unit) K)
          (bif want then runOps c ops moves lends (i + 1) r ((s.set g (.dat .bool false)).dst o.dst .unit) K
           else stepO c (memN i moves) (memN i lends) o (s.set g (.dat .bool false)) fun s' => runOps c ops moves lends (i + 1) r s' K)
      | .unit => runOps c ops moves lends (i + 1) r (s.dst o.dst .unit) K
      | _ => none

def noLent : List (Nat × V) → Bool
  | [] => true
  | (_, v) :: r => (match v with | .lent _ => false | _ => true) && noLent r
def notL : V → Bool
  | .lent _ => false
  | _ => true
/-- No variable stands twice. -/
def noDup : List (Nat × V) → Bool
  | [] => true
  | (k, _) :: r => !(memN k (r.map (·.1))) && noDup r
/-- Operations whose order is free. -/
def runQ {α : Type} (c : Cx) (ops : Array Oper) (moves : List Nat) : Nat → Nat → List Oper → St → (List Oper → St → Option α) → Option α
  | _, 0, r, s, K => K r s
  | _, _ + 1, [], s, K => K [] s
  | i, n + 1, o :: r, s, K => match o.guard with
    | none => stepF c (memN i moves) o (lk s.env) s.mem fun v => bif notL v then runQ c ops moves (i + 1) n r (({ s with env := rmO s.env (consO (memN i moves) o) } : St).dst o.dst v) K else none
    | some (j, want) => ((ops[j]?).bind (·.dst)).bind fun g => (lk s.env g).bind fun gv => match gv with
      | .dat .bool b =>
        br b
          (bif want then stepF c (memN i moves) o (lk (s.set g (.dat .bool true)).env) s.mem fun v => bif notL v then runQ c ops moves (i + 1) n r (({ s with env := rmO (s.set g (.dat .bool true)).env (consO (memN i moves) o) } : St).dst o.dst v) K else none
           else runQ c ops moves (i + 1) n r ((s.set g (.dat .bool true)).dst o.dst .unit) K)
          (bif want then runQ c ops moves (i + 1) n r ((s.set g (.dat .bool false)).dst o.dst .unit) K
           else stepF c (memN i moves) o (lk (s.set g (.dat .bool false)).env) s.mem fun v => bif notL v then runQ c ops moves (i + 1) n r (({ s with env := rmO (s.set g (.dat .bool false)).env (consO (memN i moves) o) } : St).dst o.dst v) K else none)
      | .unit => runQ c ops moves (i + 1) n r (s.dst o.dst .unit) K
      | _ => none

/-- Nobody leads to the variable that is made behind the free ones. -/
def alNo (ops : Array Oper) (n : Nat) (env : List (Nat × V)) : Bool := match ops[n]? with
  | some { op := .alloc _, dst := some d, .. } => noRef d env
  | _ => true

inductive Ex where
  | normal
  | exit (id : Nat)
  | ret

/-- What was the call's own is data from here on. -/
def frz (env : List (Nat × V)) : List Nat → List (Nat × V)
  | [] => env
  | t :: l => match lk env t with
    | some (.raw e xs) => frz ((t, .own e xs) :: rm env t) l
    | _ => frz env l
abbrev St.frz (s : St) (l : List Nat) : St := { s with env := Pal.frz s.env l }
/-- What was lent is there again. -/
def lentOf : List (Nat × V) → Option (Nat × Nat)
  | [] => none
  | (t, .lent x) :: _ => some (t, x)
  | _ :: r => lentOf r
abbrev settle (env : List (Nat × V)) : List (Nat × V) :=
  match lentOf env with
  | none => env
  | some (t, x) => match lk env x with
    | some v => (t, v) :: rm (rm env t) x
    | none => rm env t
abbrev prune (live mem : List Nat) (s : St) : St := { env := pick s.env live, mem := pick s.mem mem }

def firstReg : Code → Nat
  | .region id _ _ => id
  | .seq a _ => firstReg a
  | .block _ b => firstReg b
  | .loop b => firstReg b
  | .scope b => firstReg b
  | _ => 1000000

abbrev thenK {α : Type} (g : St → Option α) (K : Ex → St → Option α) : Ex → St → Option α
  | .normal, s => g s
  | e, s => K e s
abbrev blockK {α : Type} (id : Nat) (K : Ex → St → Option α) : Ex → St → Option α
  | .exit i, s => bif Nat.beq i id then K .normal s else K (.exit i) s
  | e, s => K e s

/-- The rounds of a loop, so many at the most. -/
def rounds {α : Type} (id : Nat) (body : St → (Ex → St → Option α) → Option α) (head : St → St) (K : Ex → St → Option α) : Nat → St → Option α
  | 0, _ => none
  | n + 1, s => body s (thenK (fun s' => rounds id body head K n (head s')) K)

noncomputable def run {α : Type} (c : Cx) (code : Code) : St → (Ex → St → Option α) → Option α :=
  Code.rec (motive := fun _ => St → (Ex → St → Option α) → Option α)
    (fun s K => K .normal s)
    (fun id ops dr s K => (lkN c.regs id).bind fun ri =>
      bif dr then bif noLent (s.frz ri.frz).env && alNo ops ri.quiet (s.frz ri.frz).env then runQ c ops ri.moves 0 ri.quiet ops.toList (s.frz ri.frz) fun r s1 => bif noDup s1.env then runOps c ops ri.moves ri.lends ri.quiet r s1 fun s' => K .normal (prune ri.live ri.mem { s' with env := settle s'.env }) else none else none
      else runOps c ops ri.moves ri.lends 0 ops.toList (s.frz ri.frz) fun s' => K .normal (prune ri.live ri.mem { s' with env := settle s'.env }))
    (fun _ _ iha ihb s K => iha s (thenK (fun s' => ihb s' K) K))
    (fun x _ _ iha ihb s K => (opd none s x).bind fun v => match v with
      | .dat .bool t => br t (iha s K) (ihb s K)
      | _ => none)
    (fun id _ ih s K => ih s (blockK id K))
    (fun b ih s K => (lkN c.regs (firstReg b)).bind fun ri => rounds (firstReg b) ih (prune ri.head ri.headM) K c.fuel (prune ri.head ri.headM s))
    (fun _ _ _ _ _ _ _ _ => none)
    (fun id s K => K (.exit id) s)
    (fun _ _ _ _ => none)
    (fun _ _ _ => none)
    (fun _ _ _ => none)
    (fun s K => K .ret s)
    (fun _ _ _ => none)
    code

/-! ### 8. A function -/
def resV (c : Cx) (s : St) : ResultVar → Option V
  | .tmp t => lk s.env t
  | .cell a ty => (c.lay ty).bind fun ly => (lk s.env a).bind fun v => match v with
    | .ref k p => (lk s.mem k).bind fun u => (u.get p).bind fun x => bif Nat.beq ly.1 x.cells && (ly.2 == x.agg) then some x.copy else none
    | _ => none
def resAll (c : Cx) (s : St) : List ResultVar → Option V
  | [] => some .unit
  | [a] => resV c s a
  | [a, b] => (resV c s a).bind fun x => (resV c s b).bind fun y => bif isTup x || isTup y then none else some (.tup2 x y)
  | _ => none
def objsOf (m : List (Nat × V)) : Nat → Nat → Option (List V)
  | _, 0 => some []
  | k, n + 1 => (lk m k).bind fun v => (objsOf m (k + 1) n).bind fun vs => some (v :: vs)
/-- A result that leads to something that the call made. -/
def leads (m : List (Nat × V)) (n : Nat) : V → List V → Option (V × List V)
  | .ref k [], os => bif Nat.ble 1000000 k then none else (lk m k).bind fun u => bif u.refs.isEmpty then some (.ref (1000000 + n) [], os ++ [u]) else none
  | .tup2 (.ref k []) b, os => bif Nat.ble 1000000 k || !b.refs.isEmpty then none else (lk m k).bind fun u => bif u.refs.isEmpty then some (.tup2 (.ref (1000000 + n) []) b, os ++ [u]) else none
  | v, os => bif v.refs.isEmpty then some (v, os) else none
/-! ### 9. Where a loop stands -/
def sub : Code → List Nat → Code
  | c, [] => c
  | .seq a b, i :: p => match i with | 0 => sub a p | _ => sub b p
  | .cond _ a b, i :: p => match i with | 0 => sub a p | _ => sub b p
  | .block _ b, _ :: p => sub b p
  | .loop b, _ :: p => sub b p
  | c, _ => c
noncomputable def kAt {α : Type} (c : Cx) : Code → List Nat → List Nat → (Ex → St → Option α) → Ex → St → Option α
  | .seq a b, i :: p, ns, K => match i with | 0 => kAt c a p ns (thenK (fun s' => run c b s' K) K) | _ => kAt c b p ns K
  | .cond _ a b, i :: p, ns, K => match i with | 0 => kAt c a p ns K | _ => kAt c b p ns K
  | .block id b, _ :: p, ns, K => kAt c b p ns (blockK id K)
  | .loop b, _ :: p, n :: ns, K => match lkN c.regs (firstReg b) with
    | some ri => kAt c b p ns (thenK (fun s' => rounds (firstReg b) (run c b) (prune ri.head ri.headM) K n (prune ri.head ri.headM s')) K)
    | none => K
  | _, _, _, K => K
noncomputable def loopAt {α : Type} (c : Cx) (body : Code) (p : List Nat) (id : Nat) (h hm : List Nat) (ns : List Nat) (K : Ex → St → Option α) (n : Nat) (s : St) : Option α :=
  rounds id (run c (sub body (p ++ [0]))) (prune h hm) (kAt c body p ns K) n s
abbrev finish {α : Type} (c : Cx) (rs : List ResultVar) (n : Nat) (K : V → List V → Option α) : Ex → St → Option α
  | .exit _, _ => none
  | _, s => (resAll c s rs).bind fun v => (objsOf s.mem 1000000 n).bind fun os => (leads s.mem n v os).bind fun r => K r.1 r.2
def number {β : Type} : Nat → List β → List (Nat × β)
  | _, [] => []
  | k, v :: r => (k, v) :: number (k + 1) r
def st0 (args objs : List V) : St := { env := number 0 args, mem := number 1000000 objs }

/-! ### 10. What a function takes and gives -/
inductive Ar where
  | dat (τ : Ty)
  | ref
  | fn (g n : Nat)
inductive Rs where
  | dat (τ : Ty)
  | own (e : Ty)
  | raw (e : Ty)
  | t2 (a b : Rs)
  | new
  | unit
@[reducible] def Rs.D : Rs → Type
  | .dat τ => τ.D
  | .own e => List e.D
  | .raw e => List e.D
  | .t2 .new b => b.D
  | .t2 a b => a.D × b.D
  | .new => Unit
  | .unit => Unit
def Rs.dec (n : Nat) : (ρ : Rs) → V → Option ρ.D
  | .dat τ, v => V.as τ v
  | .own e, .own e' xs => if h : e' = e then some (h ▸ xs) else none
  | .own _, _ => none
  | .raw e, .own e' xs => if h : e' = e then (bif flat e then some (h ▸ xs) else none) else none
  | .raw e, .raw e' xs => if h : e' = e then some (h ▸ xs) else none
  | .raw _, _ => none
  | .t2 .new b, v => match v with
    | .tup2 (.ref k []) y => bif Nat.beq k (1000000 + n) then b.dec n y else none
    | _ => none
  | .t2 (.dat τ) b, v => match v with
    | .tup2 x y => (V.as τ x).bind fun x' => (b.dec n y).bind fun y' => some (x', y')
    | _ => none
  | .t2 _ _, _ => none
  | .new, v => match v with
    | .ref k [] => bif Nat.beq k (1000000 + n) then some () else none
    | _ => none
  | .unit, v => match v with
    | .unit => some ()
    | _ => none
def Rs.enc (n : Nat) : (ρ : Rs) → ρ.D → V
  | .dat τ, x => .dat τ x
  | .own e, xs => .own e xs
  | .raw e, xs => .raw e xs
  | .t2 .new b, y => .tup2 (.ref (1000000 + n) []) (b.enc n y)
  | .t2 (.dat τ) b, x => .tup2 (.dat τ x.1) (b.enc n x.2)
  | .t2 _ _, _ => .unit
  | .new, _ => .ref (1000000 + n) []
  | .unit, _ => .unit
@[reducible] def Dl : List Ty → Type
  | [] => Unit
  | [τ] => τ.D
  | τ :: r => τ.D × Dl r
def Dl.dec : (ts : List Ty) → List V → Option (Dl ts)
  | [], [] => some ()
  | [τ], [v] => V.as τ v
  | τ :: τ' :: r, v :: vs => (V.as τ v).bind fun x => (Dl.dec (τ' :: r) vs).bind fun y => some (x, y)
  | _, _ => none
def Dl.enc : (ts : List Ty) → Dl ts → List V
  | [], _ => []
  | [τ], x => [.dat τ x]
  | τ :: τ' :: r, x => .dat τ x.1 :: Dl.enc (τ' :: r) x.2
def arTys : List Ar → List Ty
  | [] => []
  | .dat τ :: r => τ :: arTys r
  | _ :: r => arTys r
/-- The values that are handed over: data as they stand, pointers by their places. -/
def Ar.lay : List Ar → Nat → List V → List V
  | [], _, _ => []
  | .dat _ :: r, n, v :: vs => v :: Ar.lay r n vs
  | .dat _ :: r, n, [] => Ar.lay r n []
  | .ref :: r, n, vs => .ref (1000000 + n) [] :: Ar.lay r (n + 1) vs
  | .fn g m :: r, n, vs => .fn g ((List.range m).map fun i => (1000000 + n + i, [])) :: Ar.lay r (n + m) vs
def capsAt (n m : Nat) (caps : List (Nat × List Step)) : Bool :=
  Nat.beq caps.length m && (caps.zip (List.range m)).all fun x => Nat.beq x.1.1 (1000000 + n + x.2) && x.1.2.isEmpty
/-- The data among what is handed over, if all else is as it must be. -/
def Ar.pull : List Ar → Nat → List V → Option (List V)
  | [], _, [] => some []
  | .dat _ :: r, n, v :: vs => (Ar.pull r n vs).map fun us => v :: us
  | .ref :: r, n, .ref k [] :: vs => bif Nat.beq k (1000000 + n) then Ar.pull r (n + 1) vs else none
  | .fn g m :: r, n, .fn g' caps :: vs => bif Nat.beq g g' && capsAt n m caps then Ar.pull r (n + m) vs else none
  | _, _, _ => none
structure Sg where
  args : List Ar
  objs : List Ty
  res : Rs
  outs : List Ty
@[reducible] def Sg.In (σ : Sg) : Type := Dl (arTys σ.args ++ σ.objs)
@[reducible] def outD (ρ : Rs) : List Ty → Type
  | [] => ρ.D
  | ts => ρ.D × Dl ts
@[reducible] def Sg.Out (σ : Sg) : Type := outD σ.res σ.outs
def decOut (ρ : Rs) (n : Nat) : (ts : List Ty) → V → List V → Option (outD ρ ts)
  | [], v, [] => ρ.dec n v
  | [], _, _ => none
  | τ :: r, v, os => (ρ.dec n v).bind fun x => (Dl.dec (τ :: r) os).bind fun y => some (x, y)
def encOutV (ρ : Rs) (n : Nat) : (ts : List Ty) → outD ρ ts → V
  | [], x => ρ.enc n x
  | _ :: _, x => ρ.enc n x.1
def encOutO (ρ : Rs) : (ts : List Ty) → outD ρ ts → List V
  | [], _ => []
  | τ :: r, x => Dl.enc (τ :: r) x.2
abbrev Sg.K (σ : Sg) (c : Cx) (rs : List ResultVar) : Ex → St → Option σ.Out := finish c rs σ.objs.length (decOut σ.res σ.objs.length σ.outs)
noncomputable def Sg.fn (σ : Sg) (c : Cx) (body : Code) (rs : List ResultVar) (x : σ.In) : Option σ.Out :=
  run c body (st0 (Ar.lay σ.args 0 ((Dl.enc (arTys σ.args ++ σ.objs) x).take (arTys σ.args).length)) ((Dl.enc (arTys σ.args ++ σ.objs) x).drop (arTys σ.args).length)) (σ.K c rs)
def Sg.entry (σ : Sg) (f : σ.In → Option σ.Out) : Entry :=
  ⟨fun _ args objs K => (Ar.pull σ.args 0 args).bind fun ds => (Dl.dec (arTys σ.args ++ σ.objs) (ds ++ objs)).bind fun x =>
    bnd (f x) fun r => K (encOutV σ.res σ.objs.length σ.outs r) (encOutO σ.res σ.outs r)⟩
/-- One of two, by what is handed over. -/
def Entry.alt (σ : Sg) (a b : Entry) : Entry :=
  ⟨fun α args objs K => bif (Ar.pull σ.args 0 args).isSome then a.run α args objs K else b.run α args objs K⟩
/-! ### 11. The library's functions that turn a row in place -/
def ins {α : Type} (lt : α → α → Bool) (x : α) : List α → List α
  | [] => [x]
  | y :: r => bif lt y x then y :: ins lt x r else x :: y :: r
def isort {α : Type} (lt : α → α → Bool) : List α → List α
  | [] => []
  | x :: r => ins lt x (isort lt r)
def kept {α : Type} (p : α → Bool) (xs : List α) : List α := xs.filter p
def sortE (e : Ty) (g : Nat) (lt : e.D → e.D → Bool) : Entry :=
  ⟨fun _ args objs K => match args, objs with
    | [.raw e' xs, .fn g' []], [] => if h : e' = e then (bif Nat.beq g' g then br (room ([] : List Int) (h ▸ xs : List e.D)) (K .unit [.raw e (isort lt (h ▸ xs : List e.D))]) none else none) else none
    | _, _ => none⟩
def cloneE (e : Ty) : Entry :=
  ⟨fun _ args objs K => match args, objs with
    | [v], [] => (V.as (.slc e) v).bind fun xs => br (room ([] : List Int) (show List e.D from xs)) (K (.raw e xs) []) none
    | _, _ => none⟩
def delE (e : Ty) (g : Nat) (p : e.D → Bool) : Entry :=
  ⟨fun _ args objs K => match args, objs with
    | [.raw e' xs, .fn g' []], [] => if h : e' = e then (bif Nat.beq g' g then br (room ([] : List Int) (h ▸ xs : List e.D)) (K (.raw e (kept p (h ▸ xs : List e.D))) []) none else none) else none
    | _, _ => none⟩
/-- Some, laid in at a place. -/
def insAt {α : Type} (xs : List α) (i : Int) (ys : List α) : List α := xs.take i.toNat ++ (ys ++ xs.drop i.toNat)
def insE (e : Ty) : Entry :=
  ⟨fun _ args objs K => match args, objs with
    | [.raw e' xs, .dat (.int .i64) i, v], [] => if h : e' = e then (V.as (.slc e) v).bind fun ys =>
        br (inS 0 i (ilen (h ▸ xs : List e.D))) (br (room (h ▸ xs : List e.D) (show List e.D from ys)) (K (.own e (insAt (h ▸ xs : List e.D) i ys)) []) none) none else none
    | _, _ => none⟩
def growE (e : Ty) : Entry :=
  ⟨fun _ args objs K => match args, objs with
    | [.own e' xs, .dat (.int .i64) n], [] => if h : e' = e then br (ilt n 0) none (br (ilt 4294967296 n) none (br (room ([] : List Int) (h ▸ xs : List e.D)) (K (.own e (h ▸ xs : List e.D)) []) none)) else none
    | _, _ => none⟩
end Go.Proofs.Ytennedlpmacicaa.Pal
