/- What was the call's own is data from here on. -/
import Derived.Test.YtennedlpmacicaaFree4
namespace Go.Proofs.Ytennedlpmacicaa.Pal
open Go
variable {P : Program} {X Y : Nat → Nat → Prop} {G0 G G' : Gh} {w0 w w' : World} {s : St} {a : Act} {c : Cx} {Q : Exit → Act → World → Prop}

theorem All2.len {e : Ty} {I : Im} {xs : List e.D} {cc : List Value} (h : All2 (DRep I e) xs cc) : cc.length = xs.length * e.cells := All2.length (fun x c => DRep.length e x c) xs cc h
theorem cell_of {g : Nat} {cells : Array Value} {t : TypeId} {fr : Nat × Nat} (h : w.heap[g]? = some (.cells cells t fr)) (o : Nat) : w.cell? ⟨g, o, none⟩ = cells[o]? := by
  simp only [World.cell?, h]; simp
theorem RS.frz1 {tmps : Array Value} {t : Nat} {e : Ty} {xs : List e.D} (hR : RS X G0 w0 G s tmps w) (hl : lk s.env t = some (.raw e xs)) : ∃ G', RS X G0 w0 G' ⟨(t, .own e xs) :: rm s.env t, s.mem⟩ tmps w := by
  obtain ⟨hB, tE, tM, h1, h2, h3, h4⟩ := hR
  obtain ⟨t1, t2, hc, ⟨cs, ⟨ad, len, cap, e1, e2, e3, hf, e4⟩, hx⟩, hE⟩ := EnvRep.find t s.env tE _ h1 hl trivial
  rcases e4 with ⟨hcap, rfl⟩ | ⟨g, ha, rfl, ⟨cells, ty, cc, hg, hs, hA, hcc⟩, hI, hO⟩
  · exact ⟨G, hB, [] ++ t2, tM, (EnvRep.cons (v := .own e xs) trivial).2 ⟨[], t2, rfl, ⟨cs, ⟨ad, len, cap, e1, e2, e3, .inl ⟨hcap, rfl⟩⟩, hx⟩, hE⟩, h2, fun g => by have := hc g; have := h3 g; simp; omega, fun g hg => h4 g (by have := hc g; simp at hg; omega)⟩
  · have hcl := hA.len
    let G' : Gh := { G with I := fun b o => if b = g then cc[o]? else G.I b o }
    have hg1 : cnt g t2 = 0 ∧ cnt g tM = 0 := by
      have h5 := hc g; have h6 := h3 g
      have : cnt g [g] = 1 := by simp [cnt]
      omega
    have hEv : Ev (fun b _ => b = g) G w G' w := by
      refine ⟨Evo.refl _ w, fun b o v hv => ?_, fun b o v hv => ?_, fun _ _ _ => rfl⟩
      · show (if b = g then cc[o]? else G.I b o) = some v
        by_cases hb : b = g
        · subst hb; rw [hI o] at hv; cases hv
        · rw [if_neg hb]; exact hv
      · by_cases hb : b = g
        · exact .inr (.inr hb)
        · refine .inl ?_
          have : (if b = g then cc[o]? else G.I b o) = some v := hv
          rwa [if_neg hb] at this
    have hW : Wf G' w := by
      refine ⟨fun b o v hv => ?_, fun b o v hv => ?_, hB.wf.lt⟩
      · have hv' : (if b = g then cc[o]? else G.I b o) = some v := hv
        by_cases hb : b = g
        · subst hb; rw [if_pos rfl] at hv'; rw [cell_of hg]; exact hcc o v hv'
        · rw [if_neg hb] at hv'; exact hB.wf.holds b o v hv'
      · have hv' : (if b = g then cc[o]? else G.I b o) = some v := hv
        by_cases hb : b = g
        · subst hb; exact hO o
        · rw [if_neg hb] at hv'; exact hB.wf.io b o v hv'
    have hgt : 0 < cnt g tE := by
      have := hc g
      have : cnt g [g] = 1 := by simp [cnt]
      omega
    have hB' := hB.step hEv hW (fun _ => rfl) (fun b o hb he => by
      subst he
      rcases h4 b (by omega) with h | h
      · omega
      · exact h o)
    have hE' : EnvRep G' w tmps (rm s.env t) t2 := EnvRep.ev hEv _ t2 (fun _ _ => rfl) (fun g' hg' _ he => by subst he; have := cnt_pos.1 hg'; omega) hE
    have hM' : MemRep G' w s.mem tM := MemRep.ev hEv _ tM (fun _ _ => rfl) (fun _ _ => rfl) (fun g' hg' _ he => by subst he; have := cnt_pos.1 hg'; omega) (fun k _ b o hk he => by subst he; rw [hO o] at hk; cases hk) h2
    have hat : AtI G'.I g 0 cc := fun j v hj => by show (if g = g then cc[0 + j]? else _) = _; rw [if_pos rfl, Nat.zero_add]; exact hj
    refine ⟨G', hB', [g] ++ t2, tM, (EnvRep.cons (v := .own e xs) trivial).2 ⟨[g], t2, rfl, ⟨cs, ⟨ad, len, cap, e1, e2, e3, .inr ⟨g, ha, rfl, ?_, ⟨cells, ty, hg, hs⟩, fun o ho => ?_, hO⟩⟩, hx⟩, hE'⟩, hM', fun g' => by have h5 := hc g'; have h6 := h3 g'; rw [cnt_append]; omega, fun g' hg' => h4 g' (by have h5 := hc g'; rw [cnt_append] at hg'; omega)⟩
    · exact Elems.mono (Im.le_refl _) (fun x c h => DRep.mono (fun _ _ _ h => by cases h) e x c h) (All2.elems (fun x c => DRep.length e x c) xs cc g 0 hA hat)
    · show (if g = g then cc[o]? else _) = none
      rw [if_pos rfl, List.getElem?_eq_none (by rw [hcl, e2]; exact ho)]
theorem RS.frz {tmps : Array Value} : ∀ (l : List Nat) (s : St) (G : Gh), RS X G0 w0 G s tmps w → ∃ G', RS X G0 w0 G' (s.frz l) tmps w
  | [], s, G, h => ⟨G, h⟩
  | t :: l, s, G, h => by
    show ∃ G', RS X G0 w0 G' { s with env := Pal.frz s.env (t :: l) } tmps w
    unfold Pal.frz
    split
    · rename_i e xs hl
      obtain ⟨G1, h1⟩ := h.frz1 hl
      exact RS.frz l ⟨_, s.mem⟩ G1 h1
    · exact RS.frz l s G h
theorem flat_DRep {I J : Im} : ∀ (τ : Ty) (x : τ.D) (cs : List Value), flat τ = true → DRep I τ x cs → DRep J τ x cs
  | .int _, _, _, _, h => h
  | .bool, _, _, _, h => h
  | .str, _, _, _, h => h
  | .slc e, _, _, hf, _ => by simp [flat] at hf
  | .arr n e, xs, cs, hf, ⟨h1, h2⟩ => ⟨h1, All2.mono (fun x c => flat_DRep e x c hf) _ _ h2⟩
  | .pair a b, x, cs, hf, ⟨c1, c2, h, h1, h2⟩ => by
    simp only [flat, Bool.and_eq_true] at hf
    exact ⟨c1, c2, h, flat_DRep a _ _ hf.1 h1, flat_DRep b _ _ hf.2 h2⟩
/-- A list that is new, and that nobody else looks at. -/
theorem thaw {e : Ty} {xs : List e.D} {x : Value} {ts : List Nat} (hf : flat e = true) (hW : Wf G w) (hnew : ∀ g, 0 < cnt g ts → w0.heap.size ≤ g) (hW0 : Wf G0 w0) (hE : Ev X G0 w0 G w) (h : TRep G w (.own e xs) x ts) :
    ∃ G', Ev X G0 w0 G' w ∧ Wf G' w ∧ G'.ρ = G.ρ ∧ TRep G' w (.raw e xs) x ts := by
  obtain ⟨cs, ⟨ad, len, cap, e1, e2, e3, e4⟩, hx⟩ := h
  rcases e4 with ⟨hcap, rfl⟩ | ⟨g, ha, rfl, hel, ⟨cells, t, hg, hs⟩, hI, hO⟩
  · exact ⟨G, hE, hW, rfl, cs, ⟨ad, len, cap, e1, e2, e3, hf, .inl ⟨hcap, rfl⟩⟩, hx⟩
  · have hgn := hnew g (by simp [cnt])
    let G' : Gh := { G with I := fun b o => if b = g then none else G.I b o }
    have hI' : ∀ b o v, G'.I b o = some v → b ≠ g ∧ G.I b o = some v := fun b o v hv => by
      have : (if b = g then none else G.I b o) = some v := hv
      by_cases hb : b = g
      · rw [if_pos hb] at this; cases this
      · rw [if_neg hb] at this; exact ⟨hb, this⟩
    refine ⟨G', ⟨hE.evo, fun b o v hv => ?_, fun b o v hv => hE.grow b o v (hI' b o v hv).2, hE.own⟩, ⟨fun b o v hv => hW.holds b o v (hI' b o v hv).2, fun b o v hv => hW.io b o v (hI' b o v hv).2, hW.lt⟩, rfl, cs, ⟨ad, len, cap, e1, e2, e3, hf, .inr ⟨g, ha, rfl, ?_, fun o => by show (if g = g then none else _) = none; rw [if_pos rfl], hO⟩⟩, hx⟩
    · have hb := World.block_lt_of_cell? w0 _ (hW0.holds b o v hv)
      show (if b = g then none else G.I b o) = some v
      have hb' : b < w0.heap.size := hb
      rw [if_neg (by omega)]
      exact hE.le b o v hv
    · obtain ⟨cc, hA, hat⟩ := Elems.all2 (fun x c => DRep.length e x c) xs g 0 hel
      refine ⟨cells, t, cc, hg, hs, All2.mono (fun x c => flat_DRep e x c hf) _ _ hA, fun j v hj => ?_⟩
      have := hat j v hj
      rw [Nat.zero_add] at this
      rw [← cell_of hg]; exact hW.holds g j v this
theorem Ev.mono {Y : Nat → Nat → Prop} (h : Ev X G w G' w') (k : ∀ b o, X b o → Y b o) : Ev Y G w G' w' :=
  ⟨⟨h.evo.os, h.evo.tape, h.evo.output, h.evo.size, fun b hb => (h.evo.block b hb).mono fun j => k b j, h.evo.drawn⟩, h.le, fun b o v hv => (h.grow b o v hv).imp id fun h => h.imp id (k b o), h.own⟩
end Go.Proofs.Ytennedlpmacicaa.Pal
