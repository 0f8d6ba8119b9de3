/- Stores, loads, new lists. -/
import Derived.Test.YtennedlpmacicaaMem
namespace Go.Proofs.Ytennedlpmacicaa.Pal
open Go
variable {P : Program} {X Y : Nat → Nat → Prop} {G0 G G' : Gh} {w0 w w' : World} {s : St} {a : Act} {c : Cx}

theorem oneCell_of_plain {v : Value} (h : plainV v = true) : v.oneCell' = true := by cases v <;> first | rfl | (simp [plainV] at h)
theorem Evo.setCells {X : Nat → Nat → Prop} (b : Nat) : ∀ (vs : List Value) (o : Nat) (w : World), (∀ j, j < vs.length → X b (o + j)) → Evo X w (w.setCells b o vs)
  | [], _, w, _ => Evo.refl X w
  | v :: r, o, w, h => by
    have h1 := Evo.setCell (X := X) w b o v (by simpa using h 0 (by simp))
    have h2 := Evo.setCells b r (o + 1) (w.setCell ⟨b, o, none⟩ v) (fun j hj => by have := h (j + 1) (by simpa using hj); rwa [show o + 1 + j = o + (j + 1) by omega])
    exact h1.trans h2 (fun _ _ _ h => h) (fun _ _ _ h => h)
theorem World.size_setCells (b : Nat) : ∀ (vs : List Value) (o : Nat) (w : World), (w.setCells b o vs).heap.size = w.heap.size
  | [], _, _ => rfl
  | v :: r, o, w => by rw [World.setCells, World.size_setCells b r]; simp
/-- A store through a pointer to a variable, or to a part of one. -/
theorem RSv.store {v u0 u1 : V} {x : Value} {k T : Nat} {p : List Step} (hR : RSv X G0 w0 G s a.tmps w v x) (hl : lk s.mem k = some u0) (hp : V.put p u0 v = some u1) (hpo : pathOk p) (ht : isTup v = false)
    (hT : (sizeOf T).run P w = .ok v.cells w) :
    ∃ w', (Instr.storeAt T (.pointer (some (G.addr k p))) x).run P w = .ok () w' ∧ RS X G0 w0 G { s with mem := setM s.mem k u1 } a.tmps w' := by
  obtain ⟨hB, tE, tM, tV, h1, h2, ⟨cx, h3, h3'⟩, h4, h5⟩ := hR
  obtain ⟨t1, t2, cs, hcnt, hv0, hcells, howns, hrest⟩ := MemRep.find k s.mem tM u0 h2 hl
  obtain ⟨hc1, hag, d1, d0, d2, t', e1, hl1, hl0, hcn, hv1⟩ := put_rep p u0 v u1 cs cx t1 tV hv0 h3 hp hpo
  have hlx := VRep.length v cx tV h3
  have hls := VRep.length u0 cs t1 hv0
  have hxc := cells_of h3 h3'
  have hpl := VRep.plain v cx tV h3 ht
  have hlen : cs.length = d1.length + (d0.length + d2.length) := by rw [e1]; simp
  -- the cells written exist
  have hex : ∀ j, j < cx.length → (w.cell? ⟨(G.ρ k).1, (G.ρ k).2 + offs p + j, none⟩).isSome = true := by
    intro j hj
    have hj' : offs p + j < cs.length := by rw [hlen]; omega
    have := hcells (offs p + j) _ (List.getElem?_eq_getElem hj')
    rw [Nat.add_assoc, this]; rfl
  have hfr : ∀ j, j < cx.length → w.frozen? ⟨(G.ρ k).1, (G.ρ k).2 + offs p + j, none⟩ = false := by
    intro j hj
    have hj' : offs p + j < cs.length := by rw [hlen]; omega
    have := (howns (offs p + j) (by rw [← hls]; exact hj')).2
    rw [Nat.add_assoc]; exact this
  have hown : ∀ j, j < cx.length → G.O (G.ρ k).1 ((G.ρ k).2 + offs p + j) = some k := by
    intro j hj
    have hj' : offs p + j < cs.length := by rw [hlen]; omega
    have := (howns (offs p + j) (by rw [← hls]; exact hj')).1
    rw [Nat.add_assoc]; exact this
  have hst := run_storeCells_cells (P := P) (G.ρ k).1 ((G.ρ k).2 + offs p) cx 0 w (by simpa using hex) (by simpa using hfr) (fun v hv => oneCell_of_plain (hpl v hv))
  refine ⟨w.setCells (G.ρ k).1 ((G.ρ k).2 + offs p) cx, ?_, ?_⟩
  · have hsz : x.cells.size = v.cells := by rw [← Array.length_toList, hxc, hlx]
    simp only [Instr.storeAt, Instr.sureAddr, Sem.run_bind, Sem.run_pure, Result.andThen_ok, storeVar, hT, hsz, ne_eq, not_true, if_false, hxc, Gh.addr]
    simpa using hst
  · let Y : Nat → Nat → Prop := fun b o => G.O b o = some k
    have hE : Ev Y G w G (w.setCells (G.ρ k).1 ((G.ρ k).2 + offs p) cx) := .quiet (Evo.setCells _ cx _ w hown)
    have hW : Wf G (w.setCells (G.ρ k).1 ((G.ρ k).2 + offs p) cx) := by
      refine ⟨fun b o v hv => ?_, hB.wf.io, fun b o q hq => by rw [World.size_setCells]; exact hB.wf.lt b o q hq⟩
      have hb := World.block_lt_of_cell? w _ (hB.wf.holds b o v hv)
      rw [hE.evo.cell hb (fun hy => by have := hB.wf.io b o v hv; rw [show G.O b o = some k from hy] at this; cases this)]
      exact hB.wf.holds b o v hv
    have hn : ∀ g, (∀ o, G.O g o = none) → ∀ o, ¬ Y g o := fun g hg o (hy : G.O g o = some k) => by rw [hg o] at hy; cases hy
    refine ⟨hB.step hE hW (fun _ => rfl) (fun b o hb hy => hB.xo b o k hb hy), tE, t' ++ t2, h1.ev hE s.env tE (fun _ _ => rfl) (fun g hg => hn g (EnvRep.owned s.env tE h1 g (cnt_pos.1 hg)).2), ⟨t', t2, d1 ++ (cx ++ d2), rfl, hv1.ev hE u1 _ t' (fun _ _ => rfl) (fun g hg => hn g (hv1.owned u1 _ t' g hg).2), ?_, ?_,
      MemRep.ev hE _ t2 (fun _ _ => rfl) (fun _ _ => rfl) (fun g hg => hn g (MemRep.owned _ t2 hrest g (cnt_pos.1 hg)).2) (fun q hq b o ho hy => ?_) hrest⟩, fun g => ?_, fun g hg => ?_⟩
    · intro j u hj
      by_cases hin : offs p ≤ j ∧ j < offs p + cx.length
      · have := World.cell?_setCells_in (G.ρ k).1 cx ((G.ρ k).2 + offs p) w hex (j - offs p) (by omega)
        rw [show (G.ρ k).2 + offs p + (j - offs p) = (G.ρ k).2 + j by omega] at this
        rw [this, ← hj, List.getElem?_append_right (by omega), List.getElem?_append_left (by omega), hl1, List.getElem?_eq_getElem (by omega)]
      · rw [World.cell?_setCells_out (G.ρ k).1 cx _ w _ (fun _ _ => by simp only; omega)]
        refine hcells j u ?_
        rw [← hj, e1]
        by_cases hlt : j < offs p
        · rw [List.getElem?_append_left (by omega), List.getElem?_append_left (by omega)]
        · rw [List.getElem?_append_right (by omega), List.getElem?_append_right (by omega), List.getElem?_append_right (by omega), List.getElem?_append_right (by omega), hl0]
    · intro j hj
      rw [hc1] at hj
      refine ⟨(howns j hj).1, ?_⟩
      have hb := World.block_lt_of_cell? w _ (hcells j _ (List.getElem?_eq_getElem (by rw [hls]; exact hj)))
      rw [hE.evo.frozen hb]; exact (howns j hj).2
    · have hy' : G.O b o = some k := hy
      rw [ho] at hy'; injection hy' with hy'
      exact (keys_rm k s.mem q hq).2 hy'
    · have := h4 g; have := hcnt g; have := hcn g; simp; omega
    · exact h5 g (by have := hcnt g; have := hcn g; simp at hg; omega)
/-- A load of what lies at an address. -/
theorem loadAt_run {T : Nat} {b o : Nat} {cs : List Value} {agg : Bool} {x : Value} (hagg : (isAgg T).run P w = .ok agg w) (hsz : (sizeOf T).run P w = .ok cs.length w) (hc : CellsAt w b o cs) (hx : if agg then x = .agg cs.toArray else cs = [x]) :
    (Instr.loadAt T (.pointer (some ⟨b, o, none⟩))).run P w = .ok x w := by
  simp only [Instr.loadAt, Instr.sureAddr, Sem.run_bind, Sem.run_pure, Result.andThen_ok, loadVar, hagg]
  cases agg with
  | true =>
    simp only [if_true] at hx ⊢
    subst hx
    have := run_loadCells_list (P := P) w ⟨b, o, none⟩ cs (fun j v hv => by rw [add_plain']; exact hc j v hv)
    simp only [Sem.run_bind, hsz, Result.andThen_ok, this, Sem.run_pure]
  | false =>
    simp only [Bool.false_eq_true, if_false] at hx ⊢
    subst hx
    have := hc 0 x rfl
    simp only [Nat.add_zero] at this
    rw [run_load, this]
end Go.Proofs.Ytennedlpmacicaa.Pal
