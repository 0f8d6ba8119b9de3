/- Memory goes on: draws, new blocks, stores, new lists, longer lists. -/
import Derived.Test.YtennedlpmacicaaOps2
import Derived.Laws.AppendOwn
namespace Go.Proofs.Ytennedlpmacicaa.Pal
open Go
variable {P : Program} {X Y : Nat → Nat → Prop} {G0 G G' : Gh} {w0 w w' : World} {s : St} {a : Act} {c : Cx}

theorem Ev.refl (Y : Nat → Nat → Prop) (G : Gh) (w : World) : Ev Y G w G w := ⟨Evo.refl Y w, Im.le_refl _, fun _ _ _ h => .inl h, fun _ _ _ => rfl⟩
theorem Ev.quiet {Y : Nat → Nat → Prop} (h : Evo Y w w') : Ev Y G w G w' := ⟨h, Im.le_refl _, fun _ _ _ h => .inl h, fun _ _ _ => rfl⟩
theorem Ev.trans {Y : Nat → Nat → Prop} (h : Ev X G0 w0 G w) (k : Ev Y G w G' w') (hY : ∀ b o, b < w0.heap.size → Y b o → X b o) : Ev X G0 w0 G' w' := by
  refine ⟨h.evo.trans k.evo (fun _ _ _ h => h) hY, Im.le_trans h.le k.le, fun b o v hv => ?_, fun b o hb => (k.own b o (Nat.lt_of_lt_of_le hb h.evo.size)).trans (h.own b o hb)⟩
  rcases k.grow b o v hv with h1 | h1 | h1
  · exact h.grow b o v h1
  · exact .inr (.inl (Nat.le_trans h.evo.size h1))
  · rcases Nat.lt_or_ge b w0.heap.size with hb | hb
    · exact .inr (.inr (hY b o hb h1))
    · exact .inr (.inl hb)
theorem Base.step (hB : Base X G0 w0 G w) (hE : Ev Y G w G' w') (hW : Wf G' w') (hp : ∀ j, G'.ρ (1000000 + j) = G.ρ (1000000 + j)) (hY : ∀ b o, b < w0.heap.size → Y b o → X b o) : Base X G0 w0 G' w' :=
  ⟨hB.ev.trans hE hY, hW, fun j => (hp j).trans (hB.par j), fun b o k hb ho => hB.xo b o k hb (by rw [← hE.own b o (Nat.lt_of_lt_of_le hb hB.ev.evo.size)]; exact ho)⟩
/-- What is owned lies in memory, and is no variable's. -/
theorem VRep.owned : ∀ (v : V) (cs : List Value) (ts : List Nat), VRep G w v cs ts → ∀ g, g ∈ ts → g < w.heap.size ∧ ∀ o, G.O g o = none
  | .dat τ x, cs, ts, ⟨_, e⟩, g, hg => by subst e; cases hg
  | .own e xs, cs, ts, ⟨ad, len, cap, _, _, _, h⟩, g, hg => by
    rcases h with ⟨_, rfl⟩ | ⟨g', _, rfl, _, ⟨cells, t, hb, _⟩, _, hO⟩
    · cases hg
    · simp only [List.mem_singleton] at hg; subst hg
      exact ⟨(Array.getElem?_eq_some_iff.1 hb).1, hO⟩
  | .pr a b, cs, ts, ⟨c1, c2, t1, t2, _, e, h1, h2⟩, g, hg => by
    subst e
    rcases List.mem_append.1 hg with h | h
    · exact VRep.owned a c1 t1 h1 g h
    · exact VRep.owned b c2 t2 h2 g h
  | .ref k p, cs, ts, ⟨_, _, e⟩, g, hg => by subst e; cases hg
  | .nilp, cs, ts, ⟨_, e⟩, g, hg => by subst e; cases hg
  | .ip τ x, cs, ts, ⟨_, _, _, _, _, _, e⟩, g, hg => by subst e; cases hg
  | .fn f caps, cs, ts, ⟨_, _, _, e⟩, g, hg => by subst e; cases hg
  | .tup2 a b, cs, ts, ⟨va, vb, ca, cb, t1, t2, _, e, h1, _, h2, _⟩, g, hg => by
    subst e
    rcases List.mem_append.1 hg with h | h
    · exact VRep.owned a ca t1 h1 g h
    · exact VRep.owned b cb t2 h2 g h
  | .tup3 a b d, cs, ts, ⟨va, vb, vd, ca, cb, cd, t1, t2, t3, _, e, h1, _, h2, _, h3, _⟩, g, hg => by
    subst e
    rcases List.mem_append.1 hg with h | h
    · exact VRep.owned a ca t1 h1 g h
    · rcases List.mem_append.1 h with h | h
      · exact VRep.owned b cb t2 h2 g h
      · exact VRep.owned d cd t3 h3 g h
  | .lent _, _, _, h, _, _ => h.elim
  | .unit, cs, ts, ⟨_, e⟩, g, hg => by subst e; cases hg
  | .raw e xs, cs, ts, ⟨ad, len, cap, _, _, _, _, h⟩, g, hg => by
    rcases h with ⟨_, rfl⟩ | ⟨g', _, rfl, ⟨cells, t, cc, hb, _⟩, _, hO⟩
    · cases hg
    · simp only [List.mem_singleton] at hg; subst hg
      exact ⟨(Array.getElem?_eq_some_iff.1 hb).1, hO⟩
  | .any, cs, ts, ⟨_, e⟩, g, hg => by subst e; cases hg
theorem TRep.owned {v : V} {x : Value} {ts : List Nat} (h : TRep G w v x ts) {g : Nat} (hg : 0 < cnt g ts) : g < w.heap.size ∧ ∀ o, G.O g o = none := by
  obtain ⟨cs, h, _⟩ := h
  exact h.owned v cs ts g (cnt_pos.2 hg)
theorem EnvRep.owned {tmps : Array Value} : ∀ (env : List (Nat × V)) (ts : List Nat), EnvRep G w tmps env ts → ∀ g, 0 < cnt g ts → g < w.heap.size ∧ ∀ o, G.O g o = none
  | [], ts, h, g, hg => by simp only [EnvRep] at h; subst h; simp at hg
  | (t, v) :: r, ts, h, g, hg => by
    cases v with
    | lent u => exact EnvRep.owned r ts h.2 g hg
    | _ =>
      obtain ⟨t1, t2, rfl, h1, h2⟩ := h
      simp only [cnt_append] at hg
      rcases Nat.eq_zero_or_pos (cnt g t1) with h0 | h0
      · exact EnvRep.owned r t2 h2 g (by omega)
      · exact h1.owned h0
theorem MemRep.owned : ∀ (mem : List (Nat × V)) (ts : List Nat), MemRep G w mem ts → ∀ g, 0 < cnt g ts → g < w.heap.size ∧ ∀ o, G.O g o = none
  | [], ts, h, g, hg => by simp only [MemRep] at h; subst h; simp at hg
  | (k, v) :: r, ts, ⟨t1, t2, cs, e, h1, _, _, h4⟩, g, hg => by
    subst e
    simp only [cnt_append] at hg
    rcases Nat.eq_zero_or_pos (cnt g t1) with h0 | h0
    · exact MemRep.owned r t2 h4 g (by omega)
    · exact h1.owned v cs t1 g (cnt_pos.2 h0)
/-- The whole state goes on, when what changed is none of its things. -/
theorem RSv.step {v : V} {x : Value} (hR : RSv X G0 w0 G s a.tmps w v x) (hE : Ev Y G w G' w') (hW : Wf G' w') (hp : ∀ j, G'.ρ (1000000 + j) = G.ρ (1000000 + j)) (hY : ∀ b o, b < w0.heap.size → Y b o → X b o)
    (hr : ∀ k, k ∈ allRefs s.env ∨ k ∈ allRefs s.mem ∨ k ∈ keys s.mem ∨ k ∈ v.refs → G'.ρ k = G.ρ k) (hO : ∀ b o, Y b o → b < w.heap.size → ∃ k, G.O b o = some k ∧ k ∉ keys s.mem) : RSv X G0 w0 G' s a.tmps w' v x := by
  obtain ⟨hB, tE, tM, tV, h1, h2, h3, h4, h5⟩ := hR
  have hn : ∀ g, g < w.heap.size → (∀ o, G.O g o = none) → ∀ o, ¬ Y g o := fun g hg hn o hy => by
    obtain ⟨k, hk, _⟩ := hO g o hy hg
    rw [hn o] at hk; cases hk
  refine ⟨hB.step hE hW hp hY, tE, tM, tV, h1.ev hE s.env tE (fun k h => hr k (.inl h)) ?_, MemRep.ev hE s.mem tM (fun k h => hr k (.inr (.inl h))) (fun k h => hr k (.inr (.inr (.inl h)))) ?_ ?_ h2, h3.ev hE (fun k h => hr k (.inr (.inr (.inr h)))) ?_, h4, h5⟩
  · intro g hg; have := EnvRep.owned s.env tE h1 g (cnt_pos.1 hg); exact hn g this.1 this.2
  · intro g hg; have := MemRep.owned s.mem tM h2 g (cnt_pos.1 hg); exact hn g this.1 this.2
  · intro k hk b o ho hy
    obtain ⟨k', hk', hne⟩ := hO b o hy (hB.wf.lt b o k ho)
    rw [ho] at hk'; injection hk' with hk'; subst hk'
    exact hne hk
  · intro g hg; have := h3.owned (cnt_pos.1 hg); exact hn g this.1 this.2
theorem Wf.alloc (h : Wf G w) (o : Obj) : Wf G (w.alloc o) :=
  ⟨fun b q v hv => by rw [World.cell?_alloc_lt _ _ _ (World.block_lt_of_cell? w _ (h.holds b q v hv))]; exact h.holds b q v hv, h.io, fun b q k hk => by have := h.lt b q k hk; simp; omega⟩
theorem Wf.drew (h : Wf G w) : Wf G w.drew := ⟨h.holds, h.io, h.lt⟩
/-- A block that nobody looks at any more. -/
theorem RSv.alloc {v : V} {x : Value} (hR : RSv X G0 w0 G s a.tmps w v x) (o : Obj) : RSv X G0 w0 G s a.tmps (w.alloc o) v x :=
  hR.step (Y := fun _ _ => False) (.quiet (Evo.alloc _ w o)) (hR.1.wf.alloc o) (fun _ => rfl) (fun _ _ _ h => h.elim) (fun _ _ => rfl) (fun _ _ h => h.elim)
theorem RSv.drew {v : V} {x : Value} (hR : RSv X G0 w0 G s a.tmps w v x) : RSv X G0 w0 G s a.tmps w.drew v x :=
  hR.step (Y := fun _ _ => False) (.quiet (Evo.drew _ w)) hR.1.wf.drew (fun _ => rfl) (fun _ _ _ h => h.elim) (fun _ _ => rfl) (fun _ _ h => h.elim)
theorem RS.v (hR : RS X G0 w0 G s a.tmps w) : RSv X G0 w0 G s a.tmps w .nilp (.pointer none) := hR.withV ⟨_, ⟨rfl, rfl⟩, rfl⟩
theorem RSv.rs {v : V} {x : Value} (hR : RSv X G0 w0 G s a.tmps w v x) : RS X G0 w0 G s a.tmps w := by
  obtain ⟨hB, tE, tM, tV, h1, h2, _, h4, h5⟩ := hR
  exact ⟨hB, tE, tM, h1, h2, fun g => by have := h4 g; omega, fun g hg => h5 g (by omega)⟩
theorem RS.drew (hR : RS X G0 w0 G s a.tmps w) : RS X G0 w0 G s a.tmps w.drew := (hR.v.drew).rs

/-! ### A new variable -/
def Gh.var (G : Gh) (w : World) (d n : Nat) : Gh :=
  { G with O := fun b o => if b = w.heap.size then (if o < n then some d else none) else G.O b o, ρ := fun k => if k = d then (w.heap.size, 0) else G.ρ k }
theorem Wf.none_new (h : Wf G w) (o : Nat) : G.I w.heap.size o = none ∧ G.O w.heap.size o = none := by
  constructor
  · cases hv : G.I w.heap.size o with
    | none => rfl
    | some v => have := World.block_lt_of_cell? w _ (h.holds _ _ v hv); simp at this
  · cases hv : G.O w.heap.size o with
    | none => rfl
    | some k => have := h.lt _ _ k hv; omega
theorem Gh.var_ev (hW : Wf G w) (d n : Nat) (o : Obj) : Ev (fun _ _ => False) G w (G.var w d n) (w.alloc o) :=
  ⟨Evo.alloc _ w o, fun _ _ _ h => h, fun _ _ _ h => .inl h, fun b q hb => by simp only [Gh.var]; rw [if_neg (by omega)]⟩
theorem Gh.var_wf (hW : Wf G w) (d n : Nat) (o : Obj) : Wf (G.var w d n) (w.alloc o) := by
  refine ⟨(hW.alloc o).holds, fun b q v hv => ?_, fun b q k hk => ?_⟩
  · simp only [Gh.var] at hv ⊢
    by_cases e : b = w.heap.size
    · subst e; rw [(hW.none_new q).1] at hv; cases hv
    · rw [if_neg e]; exact hW.io b q v hv
  · simp only [Gh.var] at hk
    by_cases e : b = w.heap.size
    · subst e; simp
    · rw [if_neg e] at hk; have := hW.lt b q k hk; simp; omega
theorem noRef_spec : ∀ (m : List (Nat × V)) (k : Nat), noRef k m = true → k ∉ allRefs m
  | [], k, _ => by simp [allRefs]
  | (t, v) :: r, k, h => by
    simp only [noRef, Bool.and_eq_true, Bool.not_eq_true'] at h
    have key : ∀ l : List Nat, memN k l = false → k ∉ l := by
      intro l
      induction l with
      | nil => intro _; simp
      | cons q l ih =>
        intro hm
        simp only [memN, Bool.or_eq_false_iff] at hm
        simp only [List.mem_cons, not_or]
        refine ⟨fun e => ?_, ih hm.2⟩
        subst e
        have : Nat.beq k k = true := beq_nat.2 rfl
        rw [this] at hm; cases hm.1
    simp only [allRefs, List.mem_append, not_or]
    exact ⟨key _ h.1, noRef_spec r k h.2⟩
theorem lk_none : ∀ (m : List (Nat × V)) (k : Nat), lk m k = none → k ∉ keys m
  | [], k, _ => by simp [keys]
  | (q, v) :: r, k, h => by
    rw [lk_cons] at h
    split at h
    · cases h
    · rename_i hne
      have := lk_none r k h
      simp only [keys, List.map_cons, List.mem_cons, not_or]
      exact ⟨fun e => hne e.symm, this⟩
theorem cells_of {v : V} {x : Value} {cs : List Value} {ts : List Nat} (h : VRep G w v cs ts) (hx : if v.agg then x = .agg cs.toArray else cs = [x]) : x.cells.toList = cs := by
  cases hag : v.agg with
  | true => simp [hag] at hx; subst hx; simp [Value.cells]
  | false =>
    simp [hag] at hx
    subst hx
    have key : x.cells = #[x] → x.cells.toList = [x] := fun e => by rw [e]
    apply key
    cases v with
    | dat τ y =>
      cases τ <;> simp [V.agg, Ty.agg] at hag
      · obtain ⟨h, _⟩ := h; simp only [DRep, List.cons.injEq, and_true] at h; subst h; rfl
      · obtain ⟨h, _⟩ := h; simp only [DRep, List.cons.injEq, and_true] at h; subst h; rfl
      · obtain ⟨h, _⟩ := h; simp only [DRep, List.cons.injEq, and_true] at h; subst h; rfl
      · obtain ⟨⟨_, _, _, h, _⟩, _⟩ := h; simp only [List.cons.injEq, and_true] at h; subst h; rfl
    | own e xs => obtain ⟨_, _, _, h, _⟩ := h; simp only [List.cons.injEq, and_true] at h; subst h; rfl
    | raw e xs => obtain ⟨_, _, _, h, _⟩ := h; simp only [List.cons.injEq, and_true] at h; subst h; rfl
    | any => obtain ⟨⟨y, h, hp⟩, _⟩ := h; simp only [List.cons.injEq, and_true] at h; subst h; cases x <;> first | rfl | (cases hp)
    | pr a b => simp [V.agg] at hag
    | ref k p => obtain ⟨h, _⟩ := h; simp only [List.cons.injEq, and_true] at h; subst h; rfl
    | nilp => obtain ⟨h, _⟩ := h; simp only [List.cons.injEq, and_true] at h; subst h; rfl
    | ip τ y => obtain ⟨_, _, _, h, _⟩ := h; simp only [List.cons.injEq, and_true] at h; subst h; rfl
    | fn f caps => obtain ⟨_, h, _⟩ := h; simp only [List.cons.injEq, and_true] at h; subst h; rfl
    | tup2 a b => obtain ⟨_, _, _, _, _, _, h, _⟩ := h; simp only [List.cons.injEq, and_true] at h; subst h; rfl
    | tup3 a b d => obtain ⟨_, _, _, _, _, _, _, _, _, h, _⟩ := h; simp only [List.cons.injEq, and_true] at h; subst h; rfl
    | lent t => exact h.elim
    | unit => obtain ⟨h, _⟩ := h; simp only [List.cons.injEq, and_true] at h; subst h; rfl
/-- No cell of a value that lies in memory is an aggregate. -/
theorem VRep.plain : ∀ (v : V) (cs : List Value) (ts : List Nat), VRep G w v cs ts → isTup v = false → ∀ u ∈ cs, plainV u = true
  | .dat τ x, cs, ts, ⟨h, _⟩, _ => DRep.plain τ x cs h
  | .own e xs, cs, ts, ⟨_, _, _, h, _⟩, _ => by subst h; intro u hu; simp at hu; subst hu; rfl
  | .pr a b, cs, ts, ⟨c1, c2, t1, t2, h, _, h1, h2⟩, ht => by
    simp only [isTup, Bool.or_eq_false_iff] at ht
    subst h
    intro u hu
    rcases List.mem_append.1 hu with hu | hu
    · exact VRep.plain a c1 t1 h1 ht.1 u hu
    · exact VRep.plain b c2 t2 h2 ht.2 u hu
  | .ref k p, cs, ts, ⟨h, _⟩, _ => by subst h; intro u hu; simp at hu; subst hu; rfl
  | .nilp, cs, ts, ⟨h, _⟩, _ => by subst h; intro u hu; simp at hu; subst hu; rfl
  | .ip τ x, cs, ts, ⟨_, _, _, h, _⟩, _ => by subst h; intro u hu; simp at hu; subst hu; rfl
  | .fn f caps, cs, ts, ⟨_, h, _⟩, _ => by subst h; intro u hu; simp at hu; subst hu; rfl
  | .tup2 a b, _, _, _, ht => by cases ht
  | .tup3 a b d, _, _, _, ht => by cases ht
  | .lent _, _, _, h, _ => h.elim
  | .unit, _, _, _, ht => by cases ht
  | .raw _ _, _, _, _, ht => by cases ht
  | .any, _, _, _, ht => by cases ht
/-- 'box', 'alloc': a value becomes a variable. -/
theorem RSv.box {v : V} {x : Value} {d T : Nat} (hR : RSv X G0 w0 G s a.tmps w v x) (hd : d < 1000000) (h1 : lk s.mem d = none) (h2 : noRef d s.env = true) (h3 : noRef d s.mem = true) (h4 : v.refs = []) :
    RSv X G0 w0 (G.var w d v.cells) { s with mem := (d, v) :: s.mem } a.tmps (w.alloc (.cells x.cells T)) (.ref d []) (.pointer (some ⟨w.heap.size, 0, none⟩)) := by
  have hne : ∀ k, k ∈ allRefs s.env ∨ k ∈ allRefs s.mem ∨ k ∈ keys s.mem ∨ k ∈ v.refs → (G.var w d v.cells).ρ k = G.ρ k := by
    intro k hk
    have : k ≠ d := by
      intro e; subst e
      rcases hk with hk | hk | hk | hk
      · exact noRef_spec _ _ h2 hk
      · exact noRef_spec _ _ h3 hk
      · exact lk_none _ _ h1 hk
      · rw [h4] at hk; cases hk
    simp only [Gh.var]; rw [if_neg this]
  have hR' := hR.step (Gh.var_ev hR.1.wf d v.cells (.cells x.cells T)) (Gh.var_wf hR.1.wf d v.cells _) (fun j => by simp only [Gh.var]; rw [if_neg (by omega)]) (fun _ _ _ h => h.elim) hne (fun _ _ h => h.elim)
  obtain ⟨hB, tE, tM, tV, e1, e2, ⟨cs, e3, e4⟩, e5, e6⟩ := hR'
  have hcs : x.cells.toList = cs := cells_of e3 e4
  have hl := VRep.length v cs tV e3
  have hρ : (G.var w d v.cells).ρ d = (w.heap.size, 0) := by simp [Gh.var]
  refine ⟨hB, tE, tV ++ tM, [], e1, ⟨tV, tM, cs, rfl, e3, ?_, ?_, e2⟩, ⟨_, ⟨?_, trivial, rfl⟩, rfl⟩, fun g => by have := e5 g; simp; omega, fun g hg => e6 g (by simp at hg; omega)⟩
  · intro j u hu
    rw [hρ]
    simp only [Nat.zero_add]
    rw [World.cell?_alloc_new, ← hu, ← hcs, Array.getElem?_toList]
  · intro j hj
    rw [hρ]
    refine ⟨by simp [Gh.var, hj], by simp⟩
  · simp [Gh.addr, hρ, offs]
end Go.Proofs.Ytennedlpmacicaa.Pal
