/- What data are in a memory: the relation between the abstract run's values and the machine's. -/
import Derived.Test.YtennedlpmacicaaCore
import Derived.Orders
import Derived.Below
namespace Go.Proofs.Ytennedlpmacicaa.Pal
open Go

/-! ### 1. Memory that never changes, and data in it -/
abbrev Im := Nat → Nat → Option Value
def Im.le (I J : Im) : Prop := ∀ b o v, I b o = some v → J b o = some v
def AtI (I : Im) (b o : Nat) (cs : List Value) : Prop := ∀ j v, cs[j]? = some v → I b (o + j) = some v
def All2 {α : Type} (R : α → List Value → Prop) : List α → List Value → Prop
  | [], cs => cs = []
  | x :: xs, cs => ∃ c1 c2, cs = c1 ++ c2 ∧ R x c1 ∧ All2 R xs c2
/-- The elements of a slice, one behind the other. -/
def Elems {α : Type} (I : Im) (sz : Nat) (R : α → List Value → Prop) (b o : Nat) (xs : List α) : Prop :=
  ∀ i x, xs[i]? = some x → ∃ c, R x c ∧ AtI I b (o + i * sz) c
def DRep (I : Im) : (τ : Ty) → τ.D → List Value → Prop
  | .int k, n, cs => cs = [.int k n]
  | .bool, b, cs => cs = [.bool b]
  | .str, s, cs => cs = [.string ⟨s.toArray⟩]
  | .slc e, xs, cs => ∃ a len cap, cs = [.slice a len cap] ∧ List.length xs = len ∧ len ≤ cap ∧ (xs = [] ∨ ∃ b o, a = some ⟨b, o, none⟩ ∧ Elems I e.cells (DRep I e) b o xs)
  | .arr n e, xs, cs => List.length xs = n ∧ All2 (DRep I e) xs cs
  | .pair a b, x, cs => ∃ c1 c2, cs = c1 ++ c2 ∧ DRep I a x.1 c1 ∧ DRep I b x.2 c2

theorem Im.le_refl (I : Im) : I.le I := fun _ _ _ h => h
theorem Im.le_trans {I J K : Im} (h : I.le J) (k : J.le K) : I.le K := fun b o v x => k b o v (h b o v x)
theorem AtI.mono {I J : Im} {b o : Nat} {cs : List Value} (hl : I.le J) (h : AtI I b o cs) : AtI J b o cs := fun j v x => hl _ _ _ (h j v x)
theorem All2.mono {α : Type} {R R' : α → List Value → Prop} (h : ∀ x c, R x c → R' x c) : ∀ (xs : List α) (cs : List Value), All2 R xs cs → All2 R' xs cs
  | [], _, hh => hh
  | _ :: xs, _, ⟨c1, c2, e, a, b⟩ => ⟨c1, c2, e, h _ _ a, All2.mono h xs c2 b⟩
theorem DRep.mono {I J : Im} (hl : I.le J) : ∀ (τ : Ty) (x : τ.D) (cs : List Value), DRep I τ x cs → DRep J τ x cs
  | .int _, _, _, h => h
  | .bool, _, _, h => h
  | .str, _, _, h => h
  | .slc e, xs, cs, ⟨a, len, cap, h1, h2, h3, h4⟩ => by
    refine ⟨a, len, cap, h1, h2, h3, h4.imp id ?_⟩
    rintro ⟨b, o, ha, hE⟩
    refine ⟨b, o, ha, fun i x hx => ?_⟩
    obtain ⟨c, hc, hat⟩ := hE i x hx
    exact ⟨c, DRep.mono hl e x c hc, hat.mono hl⟩
  | .arr n e, xs, cs, ⟨h1, h2⟩ => ⟨h1, All2.mono (fun x c => DRep.mono hl e x c) _ _ h2⟩
  | .pair a b, x, cs, ⟨c1, c2, h, h1, h2⟩ => ⟨c1, c2, h, DRep.mono hl a _ _ h1, DRep.mono hl b _ _ h2⟩

theorem All2.length {α : Type} {R : α → List Value → Prop} {n : Nat} (h : ∀ x c, R x c → c.length = n) : ∀ (xs : List α) (cs : List Value), All2 R xs cs → cs.length = xs.length * n
  | [], cs, hh => by simp [All2] at hh; simp [hh]
  | x :: xs, cs, ⟨c1, c2, e, a, b⟩ => by
    rw [e, List.length_append, h _ _ a, All2.length h xs c2 b, List.length_cons, Nat.add_mul]
    omega
theorem DRep.length {I : Im} : ∀ (τ : Ty) (x : τ.D) (cs : List Value), DRep I τ x cs → cs.length = τ.cells
  | .int _, _, _, h => by simp [DRep] at h; simp [h, Ty.cells]
  | .bool, _, _, h => by simp [DRep] at h; simp [h, Ty.cells]
  | .str, _, _, h => by simp [DRep] at h; simp [h, Ty.cells]
  | .slc e, xs, cs, ⟨a, len, cap, h1, _⟩ => by simp [h1, Ty.cells]
  | .arr n e, xs, cs, ⟨h1, h2⟩ => by rw [All2.length (fun x c => DRep.length e x c) _ _ h2, h1]; rfl
  | .pair a b, x, cs, ⟨c1, c2, h, h1, h2⟩ => by rw [h, List.length_append, DRep.length a _ _ h1, DRep.length b _ _ h2]; rfl

/-- No cell of data is an aggregate. -/
def plainV : Value → Bool
  | .agg _ => false
  | .tuple _ => false
  | _ => true
theorem All2.all {α : Type} {R : α → List Value → Prop} {p : Value → Prop} (h : ∀ x c, R x c → ∀ v ∈ c, p v) : ∀ (xs : List α) (cs : List Value), All2 R xs cs → ∀ v ∈ cs, p v
  | [], cs, hh => by simp [All2] at hh; simp [hh]
  | x :: xs, cs, ⟨c1, c2, e, a, b⟩ => by
    intro v hv
    rw [e, List.mem_append] at hv
    rcases hv with hv | hv
    · exact h _ _ a v hv
    · exact All2.all h xs c2 b v hv
theorem DRep.plain {I : Im} : ∀ (τ : Ty) (x : τ.D) (cs : List Value), DRep I τ x cs → ∀ v ∈ cs, plainV v = true
  | .int _, _, _, h => by simp only [DRep] at h; subst h; intro v hv; simp at hv; subst hv; rfl
  | .bool, _, _, h => by simp only [DRep] at h; subst h; intro v hv; simp at hv; subst hv; rfl
  | .str, _, _, h => by simp only [DRep] at h; subst h; intro v hv; simp at hv; subst hv; rfl
  | .slc e, xs, cs, ⟨a, len, cap, h1, _⟩ => by subst h1; intro v hv; simp at hv; subst hv; rfl
  | .arr n e, xs, cs, ⟨h1, h2⟩ => All2.all (fun x c => DRep.plain e x c) _ _ h2
  | .pair a b, x, cs, ⟨c1, c2, h, h1, h2⟩ => by
    intro v hv
    rw [h, List.mem_append] at hv
    rcases hv with hv | hv
    · exact DRep.plain a _ _ h1 v hv
    · exact DRep.plain b _ _ h2 v hv

/-! ### 2. What is known beside: places of variables, whose a cell is -/
structure Gh where
  I : Im
  O : Nat → Nat → Option Nat
  ρ : Nat → Nat × Nat

def offs : List Step → Nat
  | [] => 0
  | .l :: p => offs p
  | .r o :: p => o + offs p
  | .ix _ sz i :: p => i * sz + offs p
def pathOk : List Step → Prop
  | [] => True
  | .ix n _ i :: p => i < n ∧ pathOk p
  | _ :: p => pathOk p
def Gh.addr (G : Gh) (k : Nat) (p : List Step) : Addr := ⟨(G.ρ k).1, (G.ρ k).2 + offs p, none⟩
/-- A block of a slice that is the call's own: behind the elements nobody else looks. -/
def OwnB (G : Gh) (w : World) (g n m : Nat) : Prop :=
  (∃ cells t, w.heap[g]? = some (.cells cells t (0, 0)) ∧ cells.size = m) ∧ (∀ o, n ≤ o → G.I g o = none) ∧ ∀ o, G.O g o = none
def OwnRep (G : Gh) (w : World) (e : Ty) (xs : List e.D) (cs : List Value) (ts : List Nat) : Prop :=
  ∃ a len cap, cs = [.slice a len cap] ∧ xs.length = len ∧ (len ≤ cap ∧ cap ≤ 9223372036854775807) ∧
    ((cap = 0 ∧ ts = []) ∨ ∃ g, a = some ⟨g, 0, none⟩ ∧ ts = [g] ∧ Elems G.I e.cells (DRep G.I e) g 0 xs ∧ OwnB G w g (len * e.cells) (cap * e.cells))
/-- A value as it lies in a temporary: an aggregate's cells, or the one cell. -/
def ofCells (agg : Bool) (cs : List Value) (v : Value) : Prop := if agg then v = .agg cs.toArray else cs = [v] ∧ plainV v = true
def capsRep (G : Gh) : List (Nat × List Step) → List Value → Prop
  | [], vs => vs = []
  | (k, p) :: r, vs => ∃ u us, vs = u :: us ∧ u = .pointer (some (G.addr k p)) ∧ pathOk p ∧ capsRep G r us
/-- A row that nobody else looks at. -/
def RawB (w : World) (g : Nat) (e : Ty) (xs : List e.D) (m : Nat) : Prop :=
  ∃ cells t cc, w.heap[g]? = some (.cells cells t (0, 0)) ∧ cells.size = m ∧ All2 (DRep (fun _ _ => none) e) xs cc ∧ ∀ (j : Nat) (v : Value), cc[j]? = some v → cells[j]? = some v
def RawRep (G : Gh) (w : World) (e : Ty) (xs : List e.D) (cs : List Value) (ts : List Nat) : Prop :=
  ∃ a len cap, cs = [.slice a len cap] ∧ xs.length = len ∧ (len ≤ cap ∧ cap ≤ 9223372036854775807) ∧ flat e = true ∧
    ((cap = 0 ∧ ts = []) ∨ ∃ g, a = some ⟨g, 0, none⟩ ∧ ts = [g] ∧ RawB w g e xs (cap * e.cells) ∧ (∀ o, G.I g o = none) ∧ ∀ o, G.O g o = none)
def VRep (G : Gh) (w : World) : V → List Value → List Nat → Prop
  | .dat τ x, cs, ts => DRep G.I τ x cs ∧ ts = []
  | .own e xs, cs, ts => OwnRep G w e xs cs ts
  | .pr a b, cs, ts => ∃ c1 c2 t1 t2, cs = c1 ++ c2 ∧ ts = t1 ++ t2 ∧ VRep G w a c1 t1 ∧ VRep G w b c2 t2
  | .ref k p, cs, ts => cs = [.pointer (some (G.addr k p))] ∧ pathOk p ∧ ts = []
  | .nilp, cs, ts => cs = [.pointer none] ∧ ts = []
  | .ip τ x, cs, ts => ∃ b o c, cs = [.pointer (some ⟨b, o, none⟩)] ∧ DRep G.I τ x c ∧ AtI G.I b o c ∧ ts = []
  | .fn f caps, cs, ts => ∃ vs, cs = [.func (.func f) #[] vs] ∧ capsRep G caps vs.toList ∧ ts = []
  | .tup2 a b, cs, ts => ∃ va vb ca cb t1 t2, cs = [.tuple #[va, vb]] ∧ ts = t1 ++ t2 ∧ VRep G w a ca t1 ∧ ofCells a.agg ca va ∧ VRep G w b cb t2 ∧ ofCells b.agg cb vb
  | .tup3 a b d, cs, ts => ∃ va vb vd ca cb cd t1 t2 t3, cs = [.tuple #[va, vb, vd]] ∧ ts = t1 ++ (t2 ++ t3) ∧ VRep G w a ca t1 ∧ ofCells a.agg ca va ∧ VRep G w b cb t2 ∧ ofCells b.agg cb vb ∧ VRep G w d cd t3 ∧ ofCells d.agg cd vd
  | .lent _, _, _ => False
  | .unit, cs, ts => cs = [.tuple #[]] ∧ ts = []
  | .raw e xs, cs, ts => RawRep G w e xs cs ts
  | .any, cs, ts => (∃ x, cs = [x] ∧ plainV x = true) ∧ ts = []
/-- A value of the abstract run, and the machine's. -/
def TRep (G : Gh) (w : World) (v : V) (x : Value) (ts : List Nat) : Prop :=
  ∃ cs, VRep G w v cs ts ∧ (if v.agg then x = .agg cs.toArray else cs = [x])
def EnvRep (G : Gh) (w : World) (tmps : Array Value) : List (Nat × V) → List Nat → Prop
  | [], ts => ts = []
  | (t, v) :: r, ts => match v with
    | .lent u => tmps.getD t undef = tmps.getD u undef ∧ EnvRep G w tmps r ts
    | v => ∃ t1 t2, ts = t1 ++ t2 ∧ TRep G w v (tmps.getD t undef) t1 ∧ EnvRep G w tmps r t2
def CellsAt (w : World) (b o : Nat) (cs : List Value) : Prop := ∀ j v, cs[j]? = some v → w.cell? ⟨b, o + j, none⟩ = some v
def OwnsAt (G : Gh) (w : World) (k : Nat) (n : Nat) : Prop := ∀ j, j < n → G.O (G.ρ k).1 ((G.ρ k).2 + j) = some k ∧ w.frozen? ⟨(G.ρ k).1, (G.ρ k).2 + j, none⟩ = false
def MemRep (G : Gh) (w : World) : List (Nat × V) → List Nat → Prop
  | [], ts => ts = []
  | (k, v) :: r, ts => ∃ t1 t2 cs, ts = t1 ++ t2 ∧ VRep G w v cs t1 ∧ CellsAt w (G.ρ k).1 (G.ρ k).2 cs ∧ OwnsAt G w k v.cells ∧ MemRep G w r t2

/-! ### 3. How memory goes on -/
def BlkEvo (X : Nat → Prop) (o o' : Option Obj) : Prop :=
  o' = o ∨ ∃ c c' t fr, o = some (.cells c t fr) ∧ o' = some (.cells c' t fr) ∧ c'.size = c.size ∧ ∀ j, ¬ X j → c'[j]? = c[j]?
structure Evo (X : Nat → Nat → Prop) (w w' : World) : Prop where
  os : w'.os = w.os
  tape : w'.tape = w.tape
  output : w'.output = w.output
  size : w.heap.size ≤ w'.heap.size
  block : ∀ b, b < w.heap.size → BlkEvo (X b) w.heap[b]? w'.heap[b]?
  drawn : w.drawn ≤ w'.drawn
/-- From one state of things to a later one: cells in Y may have changed; what is new is new. -/
structure Ev (Y : Nat → Nat → Prop) (G : Gh) (w : World) (G' : Gh) (w' : World) : Prop where
  evo : Evo Y w w'
  le : G.I.le G'.I
  grow : ∀ b o v, G'.I b o = some v → G.I b o = some v ∨ w.heap.size ≤ b ∨ Y b o
  own : ∀ b o, b < w.heap.size → G'.O b o = G.O b o

theorem BlkEvo.refl (X : Nat → Prop) (o : Option Obj) : BlkEvo X o o := .inl rfl
theorem BlkEvo.mono {X Y : Nat → Prop} {o o' : Option Obj} (h : BlkEvo X o o') (k : ∀ j, X j → Y j) : BlkEvo Y o o' :=
  h.imp id fun ⟨c, c', t, fr, a, b, d, e⟩ => ⟨c, c', t, fr, a, b, d, fun j hj => e j fun hx => hj (k j hx)⟩
theorem BlkEvo.trans {X : Nat → Prop} {a b c : Option Obj} (h : BlkEvo X a b) (k : BlkEvo X b c) : BlkEvo X a c := by
  rcases h with rfl | ⟨c1, c2, t, fr, rfl, rfl, hs, hc⟩
  · exact k
  · rcases k with rfl | ⟨d1, d2, t', fr', hd, rfl, hs', hc'⟩
    · exact .inr ⟨c1, c2, t, fr, rfl, rfl, hs, hc⟩
    · injection hd with hd; injection hd with h1 h2 h3; subst h1; subst h2; subst h3
      exact .inr ⟨c1, d2, t, fr, rfl, rfl, hs'.trans hs, fun j hj => (hc' j hj).trans (hc j hj)⟩
theorem Evo.refl (X : Nat → Nat → Prop) (w : World) : Evo X w w := ⟨rfl, rfl, rfl, Nat.le_refl _, fun _ _ => .inl rfl, Nat.le_refl _⟩
theorem Evo.trans {X Y Z : Nat → Nat → Prop} {a b c : World} (h : Evo X a b) (k : Evo Y b c) (hx : ∀ i o, i < a.heap.size → X i o → Z i o) (hy : ∀ i o, i < a.heap.size → Y i o → Z i o) : Evo Z a c :=
  ⟨k.os.trans h.os, k.tape.trans h.tape, k.output.trans h.output, Nat.le_trans h.size k.size, fun i hi =>
    ((h.block i hi).mono fun j => hx i j hi).trans ((k.block i (Nat.lt_of_lt_of_le hi h.size)).mono fun j => hy i j hi), Nat.le_trans h.drawn k.drawn⟩
theorem Evo.alloc (X : Nat → Nat → Prop) (w : World) (o : Obj) : Evo X w (w.alloc o) :=
  ⟨rfl, rfl, rfl, by simp, fun b hb => .inl (RowKit.Below.heap_alloc w o b hb), Nat.le_refl _⟩
theorem Evo.drew (X : Nat → Nat → Prop) (w : World) : Evo X w w.drew := ⟨rfl, rfl, rfl, Nat.le_refl _, fun _ _ => .inl rfl, Nat.le_succ _⟩
theorem Evo.setCell {X : Nat → Nat → Prop} (w : World) (b o : Nat) (v : Value) (hX : X b o) : Evo X w (w.setCell ⟨b, o, none⟩ v) := by
  refine ⟨rfl, rfl, rfl, by simp, fun i hi => ?_, Nat.le_refl _⟩
  by_cases e : i = b
  · subst e
    simp only [World.setCell, Array.getElem?_modify, if_true]
    cases hh : w.heap[i]? with
    | none => exact .inl rfl
    | some ob =>
      cases ob with
      | cells c t fr =>
        refine .inr ⟨c, c.setIfInBounds o v, t, fr, rfl, by simp, by simp, fun j hj => ?_⟩
        have : o ≠ j := fun e => hj (e ▸ hX)
        simp [Array.getElem?_setIfInBounds, this]
      | _ => exact .inl rfl
  · exact .inl (RowKit.Below.heap_setCell w _ v i e)
theorem Evo.cell {X : Nat → Nat → Prop} {w w' : World} (h : Evo X w w') {b o : Nat} (hb : b < w.heap.size) (hX : ¬ X b o) : w'.cell? ⟨b, o, none⟩ = w.cell? ⟨b, o, none⟩ := by
  rcases h.block b hb with e | ⟨c, c', t, fr, e1, e2, _, hc⟩
  · simp only [World.cell?, e]
  · simp only [World.cell?, e1, e2]; simp [hc o hX]
theorem Evo.frozen {X : Nat → Nat → Prop} {w w' : World} (h : Evo X w w') {a : Addr} (hb : a.block < w.heap.size) : w'.frozen? a = w.frozen? a := by
  rcases h.block a.block hb with e | ⟨c, c', t, fr, e1, e2, _, hc⟩
  · simp only [World.frozen?, e]
  · simp only [World.frozen?, e1, e2]
theorem Evo.isCell {X : Nat → Nat → Prop} {w w' : World} (h : Evo X w w') {a : Addr} (hc : (w.cell? a).isSome = true) : (w'.cell? a).isSome = true := by
  obtain ⟨u, hu⟩ := Option.isSome_iff_exists.1 hc
  have hb := World.block_lt_of_cell? w a hu
  rcases h.block a.block hb with e | ⟨c, c', t, fr, e1, e2, hs, _⟩
  · simp only [World.cell?, e] at hc ⊢; exact hc
  · simp only [World.cell?, e1, e2] at hc ⊢
    split at hc
    · simp at hc
    · rename_i hsp
      simp only [if_neg hsp]
      have : a.off < c.size := by
        rcases Nat.lt_or_ge a.off c.size with x | x
        · exact x
        · simp [Array.getElem?_eq_none x] at hc
      rw [Array.getElem?_eq_getElem (by omega)]
      rfl

theorem OwnB.ev {Y : Nat → Nat → Prop} {G G' : Gh} {w w' : World} {g n m : Nat} (hE : Ev Y G w G' w') (hY : ∀ o, ¬ Y g o) (h : OwnB G w g n m) : OwnB G' w' g n m := by
  obtain ⟨⟨cells, t, hg, hs⟩, hI, hO⟩ := h
  have hlt : g < w.heap.size := (Array.getElem?_eq_some_iff.1 hg).1
  refine ⟨?_, fun o ho => ?_, fun o => (hE.own g o hlt).trans (hO o)⟩
  · rcases hE.evo.block g hlt with e | ⟨c, c', t', fr, e1, e2, hs', _⟩
    · exact ⟨cells, t, e.trans hg, hs⟩
    · rw [hg] at e1
      injection e1 with e1; injection e1 with h1 h2 h3; subst h1; subst h2; subst h3
      exact ⟨c', t, e2, hs'.trans hs⟩
  · cases hv : G'.I g o with
    | none => rfl
    | some v =>
      rcases hE.grow g o v hv with h1 | h1 | h1
      · rw [hI o ho] at h1; cases h1
      · omega
      · exact absurd h1 (hY o)
theorem Elems.mono {α : Type} {I J : Im} {sz : Nat} {R R' : α → List Value → Prop} {b o : Nat} {xs : List α} (hl : I.le J) (hR : ∀ x c, R x c → R' x c) (h : Elems I sz R b o xs) : Elems J sz R' b o xs := by
  intro i x hx
  obtain ⟨c, hc, hat⟩ := h i x hx
  exact ⟨c, hR x c hc, hat.mono hl⟩
theorem OwnRep.ev {Y : Nat → Nat → Prop} {G G' : Gh} {w w' : World} {e : Ty} {xs : List e.D} {cs : List Value} {ts : List Nat} (hE : Ev Y G w G' w') (hY : ∀ g ∈ ts, ∀ o, ¬ Y g o)
    (h : OwnRep G w e xs cs ts) : OwnRep G' w' e xs cs ts := by
  obtain ⟨a, len, cap, h1, h2, h3, h4⟩ := h
  refine ⟨a, len, cap, h1, h2, h3, h4.imp id ?_⟩
  rintro ⟨g, ha, rfl, hel, hob⟩
  exact ⟨g, ha, rfl, hel.mono hE.le (fun x c => DRep.mono hE.le e x c), hob.ev hE (hY g (by simp))⟩
theorem RawRep.ev {Y : Nat → Nat → Prop} {G G' : Gh} {w w' : World} {e : Ty} {xs : List e.D} {cs : List Value} {ts : List Nat} (hE : Ev Y G w G' w') (hY : ∀ g ∈ ts, ∀ o, ¬ Y g o) (h : RawRep G w e xs cs ts) : RawRep G' w' e xs cs ts := by
  obtain ⟨a, len, cap, h1, h2, h3, hf, h4⟩ := h
  refine ⟨a, len, cap, h1, h2, h3, hf, h4.imp id ?_⟩
  rintro ⟨g, ha, rfl, ⟨cells, t, cc, hg, hs, hA, hc⟩, hI, hO⟩
  have hlt : g < w.heap.size := (Array.getElem?_eq_some_iff.1 hg).1
  have hY' := hY g (by simp)
  refine ⟨g, ha, rfl, ?_, fun o => ?_, fun o => (hE.own g o hlt).trans (hO o)⟩
  · rcases hE.evo.block g hlt with e | ⟨c, c', t', fr, e1, e2, hs', hcc⟩
    · exact ⟨cells, t, cc, e.trans hg, hs, hA, hc⟩
    · rw [hg] at e1
      injection e1 with e1; injection e1 with h1 h2 h3; subst h1; subst h2; subst h3
      exact ⟨c', t, cc, e2, hs'.trans hs, hA, fun j v hj => by rw [hcc j (hY' j)]; exact hc j v hj⟩
  · cases hv : G'.I g o with
    | none => rfl
    | some v =>
      rcases hE.grow g o v hv with h1 | h1 | h1
      · rw [hI o] at h1; cases h1
      · omega
      · exact absurd h1 (hY' o)
theorem capsRep.ev {G G' : Gh} : ∀ (caps : List (Nat × List Step)) (vs : List Value), (∀ k ∈ caps.map (·.1), G'.ρ k = G.ρ k) → capsRep G caps vs → capsRep G' caps vs
  | [], _, _, h => h
  | (k, p) :: r, vs, hk, ⟨u, us, h1, h2, h3, h4⟩ => ⟨u, us, h1, by rw [h2, Gh.addr, Gh.addr, hk k (by simp)], h3, capsRep.ev r us (fun x hx => hk x (by simp at hx ⊢; exact .inr hx)) h4⟩
theorem VRep.ev {Y : Nat → Nat → Prop} {G G' : Gh} {w w' : World} (hE : Ev Y G w G' w') : ∀ (v : V) (cs : List Value) (ts : List Nat), (∀ k ∈ v.refs, G'.ρ k = G.ρ k) → (∀ g ∈ ts, ∀ o, ¬ Y g o) → VRep G w v cs ts → VRep G' w' v cs ts
  | .dat τ x, cs, ts, _, _, ⟨h, e⟩ => ⟨DRep.mono hE.le τ x cs h, e⟩
  | .own e xs, cs, ts, _, hY, h => OwnRep.ev hE hY h
  | .pr a b, cs, ts, hk, hY, ⟨c1, c2, t1, t2, h1, h2, h3, h4⟩ =>
    ⟨c1, c2, t1, t2, h1, h2, VRep.ev hE a c1 t1 (fun k h => hk k (by simp [V.refs, h])) (fun g h => hY g (by simp [h2, h])) h3, VRep.ev hE b c2 t2 (fun k h => hk k (by simp [V.refs, h])) (fun g h => hY g (by simp [h2, h])) h4⟩
  | .ref k p, cs, ts, hk, _, ⟨h1, h2, h3⟩ => ⟨by rw [h1, Gh.addr, Gh.addr, hk k (by simp [V.refs])], h2, h3⟩
  | .nilp, cs, ts, _, _, h => h
  | .ip τ x, cs, ts, _, _, ⟨b, o, c, h1, h2, h3, h4⟩ => ⟨b, o, c, h1, DRep.mono hE.le τ x c h2, h3.mono hE.le, h4⟩
  | .fn f caps, cs, ts, hk, _, ⟨vs, h1, h2, h3⟩ => ⟨vs, h1, capsRep.ev caps _ (fun k h => hk k (by simpa [V.refs] using h)) h2, h3⟩
  | .tup2 a b, cs, ts, hk, hY, ⟨va, vb, ca, cb, t1, t2, h1, h2, h3, h4, h5, h6⟩ =>
    ⟨va, vb, ca, cb, t1, t2, h1, h2, VRep.ev hE a ca t1 (fun k h => hk k (by simp [V.refs, h])) (fun g h => hY g (by simp [h2, h])) h3, h4, VRep.ev hE b cb t2 (fun k h => hk k (by simp [V.refs, h])) (fun g h => hY g (by simp [h2, h])) h5, h6⟩
  | .tup3 a b d, cs, ts, hk, hY, ⟨va, vb, vd, ca, cb, cd, t1, t2, t3, h1, h2, h3, h4, h5, h6, h7, h8⟩ =>
    ⟨va, vb, vd, ca, cb, cd, t1, t2, t3, h1, h2, VRep.ev hE a ca t1 (fun k h => hk k (by simp [V.refs, h])) (fun g h => hY g (by simp [h2, h])) h3, h4, VRep.ev hE b cb t2 (fun k h => hk k (by simp [V.refs, h])) (fun g h => hY g (by simp [h2, h])) h5, h6,
      VRep.ev hE d cd t3 (fun k h => hk k (by simp [V.refs, h])) (fun g h => hY g (by simp [h2, h])) h7, h8⟩
  | .lent _, _, _, _, _, h => h
  | .unit, cs, ts, _, _, h => h
  | .raw e xs, cs, ts, _, hY, h => RawRep.ev hE hY h
  | .any, cs, ts, _, _, h => h
theorem TRep.ev {Y : Nat → Nat → Prop} {G G' : Gh} {w w' : World} (hE : Ev Y G w G' w') {v : V} {x : Value} {ts : List Nat} (hk : ∀ k ∈ v.refs, G'.ρ k = G.ρ k) (hY : ∀ g ∈ ts, ∀ o, ¬ Y g o) (h : TRep G w v x ts) : TRep G' w' v x ts := by
  obtain ⟨cs, h1, h2⟩ := h
  exact ⟨cs, h1.ev hE v cs ts hk hY, h2⟩
def allRefs : List (Nat × V) → List Nat
  | [] => []
  | (_, v) :: r => v.refs ++ allRefs r
theorem EnvRep.ev {Y : Nat → Nat → Prop} {G G' : Gh} {w w' : World} {tmps : Array Value} (hE : Ev Y G w G' w') : ∀ (env : List (Nat × V)) (ts : List Nat), (∀ k ∈ allRefs env, G'.ρ k = G.ρ k) → (∀ g ∈ ts, ∀ o, ¬ Y g o) →
    EnvRep G w tmps env ts → EnvRep G' w' tmps env ts
  | [], _, _, _, h => h
  | (t, v) :: r, ts, hk, hY, h => by
    have hk1 : ∀ k ∈ v.refs, G'.ρ k = G.ρ k := fun k h => hk k (by simp [allRefs, h])
    have hk2 : ∀ k ∈ allRefs r, G'.ρ k = G.ρ k := fun k h => hk k (by simp [allRefs, h])
    have key : ∀ t1 t2, ts = t1 ++ t2 → TRep G w v (tmps.getD t undef) t1 → EnvRep G w tmps r t2 → ∃ t1 t2, ts = t1 ++ t2 ∧ TRep G' w' v (tmps.getD t undef) t1 ∧ EnvRep G' w' tmps r t2 := by
      rintro t1 t2 rfl h1 h2
      exact ⟨t1, t2, rfl, h1.ev hE hk1 (fun g h => hY g (by simp [h])), EnvRep.ev hE r t2 hk2 (fun g h => hY g (by simp [h])) h2⟩
    cases v with
    | lent u => exact ⟨h.1, EnvRep.ev hE r ts hk2 hY h.2⟩
    | _ => obtain ⟨t1, t2, e, h1, h2⟩ := h; exact key t1 t2 e h1 h2
theorem VRep.length {G : Gh} {w : World} : ∀ (v : V) (cs : List Value) (ts : List Nat), VRep G w v cs ts → cs.length = v.cells
  | .dat τ x, cs, ts, ⟨h, _⟩ => DRep.length τ x cs h
  | .own e xs, cs, ts, ⟨a, len, cap, h, _⟩ => by simp [h, V.cells]
  | .pr a b, cs, ts, ⟨c1, c2, t1, t2, h1, h2, h3, h4⟩ => by rw [h1, List.length_append, VRep.length a _ _ h3, VRep.length b _ _ h4]; rfl
  | .ref k p, cs, ts, ⟨h, _⟩ => by simp [h, V.cells]
  | .nilp, cs, ts, ⟨h, _⟩ => by simp [h, V.cells]
  | .ip τ x, cs, ts, ⟨b, o, c, h, _⟩ => by simp [h, V.cells]
  | .fn f caps, cs, ts, ⟨vs, h, _⟩ => by simp [h, V.cells]
  | .tup2 a b, cs, ts, ⟨va, vb, ca, cb, t1, t2, h, _⟩ => by simp [h, V.cells]
  | .tup3 a b d, cs, ts, ⟨va, vb, vd, ca, cb, cd, t1, t2, t3, h, _⟩ => by simp [h, V.cells]
  | .lent _, _, _, h => h.elim
  | .unit, cs, ts, ⟨h, _⟩ => by simp [h, V.cells]
  | .raw e xs, cs, ts, ⟨a, len, cap, h, _⟩ => by simp [h, V.cells]
  | .any, cs, ts, ⟨⟨x, h, _⟩, _⟩ => by simp [h, V.cells]
end Go.Proofs.Ytennedlpmacicaa.Pal
