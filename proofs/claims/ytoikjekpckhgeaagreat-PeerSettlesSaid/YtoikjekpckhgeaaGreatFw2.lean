/- The framework: an abstract run of the code over typed data, and that the machine does as it says. Part 2. -/
import Derived.LoopN
import Derived.Test.YtoikjekpckhgeaaGreatFw1
set_option linter.unusedVariables false
set_option linter.unusedSimpArgs false
set_option linter.unusedSectionVars false
section
/- Calls: the whole of it. -/
namespace Go.Proofs.YtoikjekpckhgeaaGreat.Pal
open Go
variable [MonoC]
variable {P : Program} {X Y : Nat → Nat → Prop} {G0 G G' : Gh} {w0 w w' : World} {s : St} {a : Act} {c : Cx}

/-- Where a name stands among the new ones. -/
def at2 : List Nat → Nat → Nat → Option Nat
  | [], _, _ => none
  | d :: r, n, k => if k = n then some d else at2 r (n + 1) k
def in2 : List Nat → Nat → Nat → Option Nat
  | [], _, _ => none
  | d :: r, n, k => if k = d then some n else in2 r (n + 1) k
theorem in2_none : ∀ (nw : List Nat) (n k : Nat), k ∉ nw → in2 nw n k = none
  | [], _, _, _ => rfl
  | d :: r, n, k, h => by
    simp only [List.mem_cons, not_or] at h
    simp only [in2, if_neg h.1]; exact in2_none r (n + 1) k h.2
/-- What the caller knows when the call is over. -/
def Gh.back (G : Gh) (h : Nat) (G' : Gh) (nw : List Nat) (n : Nat) : Gh :=
  { I := G'.I
    O := fun b o => if b < h then G.O b o else (G'.O b o).bind (at2 nw (1000000 + n))
    ρ := fun k => match in2 nw (1000000 + n) k with
      | some q => G'.ρ q
      | none => G.ρ k }
section
variable {l : List (Nat × List Step)} {nw : List Nat} {n : Nat}
theorem back_ev (hE : Ev X (G.sub l) w G' w') : Ev X G w (G.back w.heap.size G' nw n) w' :=
  ⟨hE.evo, hE.le, hE.grow, fun b o hb => by simp [Gh.back, hb]⟩
theorem back_wf (hW : Wf G w) (hE : Ev X (G.sub l) w G' w') (hW' : Wf G' w') (hX : ∀ b o, b < w.heap.size → X b o → (G.sub l).O b o ≠ none ∨ ∀ q, G.O b q = none) : Wf (G.back w.heap.size G' nw n) w' := by
  refine ⟨hW'.holds, fun b o v hv => ?_, fun b o k hk => ?_⟩
  · simp only [Gh.back]
    split
    · rename_i hb
      cases hk : G.O b o with
      | none => rfl
      | some k =>
        exfalso
        have hio := hW'.io b o v hv
        rcases hE.grow b o v hv with h1 | h1 | h1
        · have := hW.io b o v h1; rw [hk] at this; cases this
        · omega
        · rcases hX b o hb h1 with h2 | h2
          · apply h2; rw [← hE.own b o hb]; exact hio
          · rw [h2 o] at hk; cases hk
    · have := hW'.io b o v hv
      simp [this]
  · simp only [Gh.back] at hk
    split at hk
    · exact Nat.lt_of_lt_of_le (hW.lt b o k hk) hE.evo.size
    · simp only [Option.bind_eq_some_iff] at hk
      obtain ⟨q, e, _⟩ := hk
      exact hW'.lt b o _ e
theorem back_tok (hE : Ev X (G.sub l) w G' w') (hX : ∀ b o, b < w.heap.size → X b o → (G.sub l).O b o ≠ none ∨ ∀ q, G.O b q = none) {g : Nat} (hO : ∀ o, G'.O g o = none) (hg : w.heap.size ≤ g ∨ ∀ o, X g o) (o : Nat) : (G.back w.heap.size G' nw n).O g o = none := by
  simp only [Gh.back]
  split
  · rename_i hb
    rcases hg with hg | hg
    · omega
    · rcases hX g 0 hb (hg 0) with h2 | h2
      · exact absurd ((hE.own g 0 hb).symm.trans (hO 0)) h2
      · exact h2 o
  · simp [hO o]
end
theorem objs_back {l0 : List (Nat × List Step)} {nw : List Nat} {n : Nat} (hd0 : distinct l0 = true) (hE : Ev X (G.sub l0) w G' w') (hX : ∀ b o, b < w.heap.size → X b o → (G.sub l0).O b o ≠ none ∨ ∀ q, G.O b q = none) (hpar : ∀ j, j < l0.length → G'.ρ (1000000 + j) = (G.sub l0).ρ (1000000 + j))
    (hnw : ∀ d ∈ nw, d ∉ l0.map (·.1)) :
    ∀ (l pre : List (Nat × List Step)) (us vs : List V) (ts to : List Nat), l0 = pre ++ l → us.length = l.length → (∀ u ∈ us, u.refs = []) → (∀ (j : Nat) (u v : V), us[j]? = some u → vs[j]? = some v → v.cells = u.cells) → (∀ g ∈ ts, w.heap.size ≤ g ∨ ∀ o, X g o) →
      ObjsRep G w l vs to → MemRep G' w' (number (1000000 + pre.length) us) ts → ObjsRep (G.back w.heap.size G' nw n) w' l us ts
  | [], pre, us, vs, ts, to, _, hl, _, _, _, _, hM => by
    have : us = [] := List.eq_nil_of_length_eq_zero (by simpa using hl)
    subst this
    exact ⟨rfl, hM⟩
  | (k, p) :: r, pre, [], vs, ts, to, _, hl, _, _, _, _, _ => by simp at hl
  | (k, p) :: r, pre, u :: us, vs, ts, to, h0, hl, hr, hc, ht, ⟨v, vs', t1, t2, cs, e1, e2, h1, h2, h3, h4⟩, ⟨s1, s2, ds, f1, f2, f3, f4, f5⟩ => by
    subst e1
    have hk : (l0.map (·.1))[pre.length]? = some k := by rw [h0]; simp
    have hk' : (l0.map (·.1)).getD pre.length 0 = k := by simp [List.getD, hk]
    have hρ : G'.ρ (1000000 + pre.length) = G.ρ k := by rw [hpar _ (by rw [h0]; simp), sub_ρ, hk']
    have hkb : (G.back w.heap.size G' nw n).ρ k = G.ρ k := by
      have : k ∉ nw := fun hd => hnw k hd (List.mem_of_getElem? hk)
      simp only [Gh.back, in2_none nw _ k this]
    have hcell : v.cells = u.cells := hc 0 u v rfl rfl
    refine ⟨u, us, s1, s2, ds, rfl, f1, ?_, ?_, ?_, ?_⟩
    · exact f2.swap (show ∀ b o, (G.back w.heap.size G' nw n).I b o = G'.I b o from fun _ _ => rfl) u ds s1 (hr u (by simp)) (fun g hg o => back_tok hE hX (f2.owned u ds s1 g hg).2 (ht g (by simp [f1, hg])) o)
    · rw [hkb, ← hρ]; exact f3
    · intro j hj
      rw [hkb]
      have hjv : j < v.cells := by omega
      have ho := (h3 j hjv).1
      refine ⟨?_, by rw [← hρ]; exact (f4 j hj).2⟩
      simp only [Gh.back, if_pos (hE.evo.size |> fun _ => show (G.ρ k).1 < w.heap.size from by
        have := World.block_lt_of_cell? w _ (h2 j _ (List.getElem?_eq_getElem (by rw [VRep.length v cs t1 h1]; exact hjv))); exact this)]
      exact ho
    · exact objs_back hd0 hE hX hpar hnw r (pre ++ [(k, p)]) us vs' s2 t2 (by rw [h0]; simp) (by simpa using hl) (fun u hu => hr u (by simp [hu])) (fun j u v hu hv => hc (j + 1) u v (by simpa using hu) (by simpa using hv)) (fun g hg => ht g (by simp [f1, hg])) h4 (by simpa [Nat.add_assoc] using f5)
theorem giveBack_sub : ∀ (l : List (Nat × List Step)) (m m' : List (Nat × V)) (us rest : List V), giveBack m l us = some (m', rest) → distinct l = true → (∀ x ∈ rmL m l, x ∈ m') ∧ ∀ k ∈ l.map (·.1), k ∈ keys m'
  | [], m, m', us, rest, h, _ => by
    simp only [giveBack, Option.some.injEq, Prod.mk.injEq] at h
    obtain ⟨rfl, rfl⟩ := h
    exact ⟨fun x hx => hx, by simp⟩
  | (k, []) :: r, m, m', [], rest, h, _ => by simp [giveBack] at h
  | (k, _ :: _) :: r, m, m', us, rest, h, _ => by cases us <;> simp [giveBack] at h
  | (k, []) :: r, m, m', u :: us, rest, h, hd => by
    simp only [distinct, Bool.and_eq_true, Bool.not_eq_true'] at hd
    simp only [giveBack, Option.bind_eq_some_iff] at h
    obtain ⟨v0, hv0, h⟩ := h
    obtain ⟨hb, h⟩ := cond_then h
    obtain ⟨h1, h2⟩ := giveBack_sub r _ m' us rest h hd.2
    have e : rmL (setM m k u) r = (k, u) :: rmL (rm m k) r := rmL_cons_mem r _ (memN_mem _ _ hd.1)
    rw [e] at h1
    refine ⟨fun x hx => h1 x (by simp [show rmL m ((k, []) :: r) = rmL (rm m k) r from rfl] at hx; simp [hx]), fun q hq => ?_⟩
    simp only [List.map_cons, List.mem_cons] at hq
    rcases hq with rfl | hq
    · exact List.mem_map.2 ⟨_, h1 (q, u) (by simp), rfl⟩
    · exact h2 q hq
theorem allRefs_sub {m m' : List (Nat × V)} (h : ∀ x ∈ m, x ∈ m') {k : Nat} (hk : k ∈ allRefs m) : k ∈ allRefs m' := by
  have mem : ∀ (m : List (Nat × V)) k, k ∈ allRefs m ↔ ∃ x ∈ m, k ∈ x.2.refs := by
    intro m k
    induction m with
    | nil => simp [allRefs]
    | cons y m ih => obtain ⟨t, v⟩ := y; simp [allRefs, ih]
  obtain ⟨x, hx, hr⟩ := (mem m k).1 hk
  exact (mem m' k).2 ⟨x, h x hx, hr⟩
theorem set_same (tmps : Array Value) (t : Nat) : tmps.setIfInBounds t (tmps.getD t undef) = tmps := by
  apply Array.ext
  · simp
  · intro i h1 h2
    rw [Array.getElem_setIfInBounds]
    split
    · rename_i e; subst e; simp [Array.getD, h2]
    · rfl
def putT (tmps : Array Value) (d : Option Nat) (x : Value) : Array Value := match d with | some t => tmps.setIfInBounds t x | none => tmps
theorem RSv.put' {v : V} {x : Value} {d : Option Nat} {tmps : Array Value} (hv : notLent v) (hd : ∀ t, d = some t → t < tmps.size) (h : RSv X G0 w0 G s tmps w v x) : RS X G0 w0 G (s.dst d v) (putT tmps d x) w := by
  have := RSv.put (a := { tmps := tmps, defers := [] }) hv hd h
  cases d <;> exact this
theorem callV_sound {α : Type} {f : Nat} {args : List V} {d a0 : Option Nat} {K : St → Option α} {r : α} {tmps : Array Value} {argv : List Value} {tE tM tA : List Nat} (hC : ∀ f e, lkN c.fns f = some e → CallOK P f e) (h : callV c f args d a0 s K = some r)
    (hB : Base X G0 w0 G w) (hE : EnvRep G w tmps s.env tE) (hM : MemRep G w s.mem tM) (hA : ArgsRep G w args argv tA) (hcnt : ∀ g, cnt g tE + cnt g tM + cnt g tA ≤ 1)
    (htok : ∀ g, 0 < cnt g tE + cnt g tM + cnt g tA → w0.heap.size ≤ g ∨ ∀ o, X g o) (ha0 : ∀ t, a0 = some t → argv.head? = some (tmps.getD t undef)) (hd : ∀ t, d = some t → t < tmps.size) :
    Does P f argv.toArray w fun x w' => ∃ G' s', RS X G0 w0 G' s' (putT tmps d x) w' ∧ K s' = some r := by
  simp only [callV, Option.bind_eq_some_iff] at h
  obtain ⟨e, he, ⟨args', l⟩, hcan, h⟩ := h
  obtain ⟨hdist, h⟩ := cond_then h
  simp only [Option.bind_eq_some_iff] at h
  obtain ⟨objs, hobjs, h⟩ := h
  obtain ⟨hnr, h⟩ := cond_then h
  have hOK := hC f e he
  rw [hOK.nat] at h
  simp only [Option.bind_eq_some_iff] at h
  obtain ⟨⟨vr, os⟩, hval, ⟨m', rest⟩, hgb, h⟩ := h
  obtain ⟨hnr', h⟩ := cond_then h
  obtain ⟨hpaths, hlen⟩ := contents_paths l s.mem objs hobjs
  obtain ⟨to, tr, hsp, hobj, hrest⟩ := mem_split l s.mem objs tM hdist hobjs hM
  have hargs := canon_args args args' l 0 l [] [] argv tA hcan (by simp) rfl hpaths hA
  have hoown : ∀ g ∈ to, ∀ o, G.O g o = none := fun g hg => (MemRep.owned s.mem tM hM g (by have := hsp g; have := cnt_pos.1 hg; omega)).2
  have hAown : ∀ (args : List V) (argv : List Value) (tA : List Nat), ArgsRep G w args argv tA → ∀ g, 0 < cnt g tA → g < w.heap.size ∧ ∀ o, G.O g o = none := by
    intro args
    induction args with
    | nil => intro argv tA h g hg; obtain ⟨_, rfl⟩ := h; simp at hg
    | cons v vs ih =>
      intro argv tA h g hg
      obtain ⟨x, xs, t1, t2, _, rfl, h1, h2⟩ := h
      simp only [cnt_append] at hg
      rcases Nat.eq_zero_or_pos (cnt g t1) with h0 | h0
      · exact ih xs t2 h2 g (by omega)
      · exact h1.owned h0
  have hnum := number_rep l l [] objs to rfl hdist (noRefs_spec objs hnr) hoown hobj
  let X1 : Nat → Nat → Prop := fun b o => (G.sub l).O b o ≠ none ∨ 0 < cnt b tA + cnt b to
  have hX1 : ∀ b o, b < w.heap.size → X1 b o → (G.sub l).O b o ≠ none ∨ ∀ q, G.O b q = none := by
    intro b o _ hx
    refine hx.imp id fun hp q => ?_
    rcases Nat.eq_zero_or_pos (cnt b tA) with h0 | h0
    · exact hoown b (cnt_pos.2 (by omega)) q
    · exact (hAown args argv tA hA b h0).2 q
  have hsub : Wf (G.sub l) w := ⟨hB.wf.holds, fun b o v hv => by simp [Gh.sub, hB.wf.io b o v hv], fun b o k hk => by
    simp only [Gh.sub, Option.bind_eq_some_iff] at hk
    obtain ⟨q, hq, _⟩ := hk
    exact hB.wf.lt b o q hq⟩
  have hdo := hOK.ok args' objs vr os hval X1 (G.sub l) w argv tA to hsub (fun b o k hk => ⟨.inl (by rw [hk]; simp), by simp only [Gh.sub, Option.bind_eq_some_iff] at hk; obtain ⟨q, _, hq⟩ := hk; exact (idx_lt _ _ _ _ hq).1⟩) hargs (by simpa using hnum)
    (fun g => by have := hcnt g; have := hsp g; omega) (fun g hg o => .inr hg)
  refine hdo.mono ?_
  rintro x w' ⟨G', hEv, hW', hpar, tV, tM', tX, hTV, hTM, hRest, hc', ht'⟩
  rw [hlen] at hpar hTM hRest
  have hX0 : ∀ b o, b < w0.heap.size → X1 b o → X b o := by
    intro b o hb hx
    rcases hx with hx | hx
    · cases hk : G.O b o with
      | none => exact absurd (by simp [Gh.sub, hk]) hx
      | some k => exact hB.xo b o k hb hk
    · rcases htok b (by have := hsp b; omega) with h1 | h1
      · omega
      · exact h1 o
  have hnotX : ∀ g, (∀ o, G.O g o = none) → cnt g tA + cnt g to = 0 → ∀ o, ¬ X1 g o := by
    intro g hg hz o hx
    rcases hx with hx | hx
    · exact hx (sub_none hg o)
    · omega
  have tok0 : ∀ g, (w.heap.size ≤ g ∨ ∀ o, X1 g o) → w0.heap.size ≤ g ∨ ∀ o, X g o := by
    intro g hg
    rcases hg with hg | hg
    · exact .inl (Nat.le_trans hB.ev.evo.size hg)
    · by_cases hb : g < w0.heap.size
      · exact .inr fun o => hX0 g o hb (hg o)
      · exact .inl (by omega)
  -- what lies beside
  have frame : ∀ nw : List Nat, (∀ d ∈ nw, d < 1000000 ∧ d ∉ keys m' ∧ d ∉ allRefs s.env ∧ d ∉ allRefs (rmL s.mem l) ∧ d ∉ l.map (·.1) ∧ d ∉ keys (rmL s.mem l)) →
      let Gn := G.back w.heap.size G' nw l.length
      Base X G0 w0 Gn w' ∧ EnvRep Gn w' tmps s.env tE ∧ MemRep Gn w' (rmL s.mem l) tr ∧ ObjsRep Gn w' l (os.take l.length) tM' := by
    intro nw hnw
    have hEb : Ev X1 G w (G.back w.heap.size G' nw l.length) w' := back_ev hEv
    have hWb := back_wf (nw := nw) (n := l.length) hB.wf hEv hW' hX1
    have hρ : ∀ k, (∀ d ∈ nw, k ≠ d) → (G.back w.heap.size G' nw l.length).ρ k = G.ρ k := by
      intro k hk
      have : k ∉ nw := fun h => hk k h rfl
      simp only [Gh.back, in2_none nw _ k this]
    refine ⟨hB.step hEb hWb (fun j => hρ _ fun d hd => by have := (hnw d hd).1; omega) hX0, ?_, ?_, ?_⟩
    · refine hE.ev hEb s.env tE (fun k hk => hρ k fun d hd => fun e => (hnw d hd).2.2.1 (e ▸ hk)) fun g hg => ?_
      have := cnt_pos.1 hg
      exact hnotX g (EnvRep.owned s.env tE hE g this).2 (by have := hcnt g; have := hsp g; omega)
    · refine MemRep.ev hEb _ tr (fun k hk => hρ k fun d hd => fun e => (hnw d hd).2.2.2.1 (e ▸ hk)) (fun k hk => hρ k fun d hd => fun e => (hnw d hd).2.2.2.2.2 (e ▸ hk)) (fun g hg => ?_) (fun k hk b o ho hx => ?_) hrest
      · have := cnt_pos.1 hg
        exact hnotX g (MemRep.owned s.mem tM hM g (by have := hsp g; omega)).2 (by have := hcnt g; have := hsp g; omega)
      · rcases hx with hx | hx
        · simp only [Gh.sub, ho, Option.bind_some] at hx
          cases hi : idx l 1000000 k with
          | none => exact hx hi
          | some j => exact (keys_rmL l s.mem k hk).2 (List.mem_of_getElem? (idx_lt l _ _ _ hi).2.2)
        · have hb := hB.wf.lt b o k ho
          rcases Nat.eq_zero_or_pos (cnt b tA) with h0 | h0
          · have := hoown b (cnt_pos.2 (by omega)) o
            rw [ho] at this; cases this
          · have := (hAown args argv tA hA b h0).2 o
            rw [ho] at this; cases this
    · refine objs_back hdist hEv hX1 hpar (fun d hd => (hnw d hd).2.2.2.2.1) l [] (os.take l.length) objs tM' to rfl ?_ (fun u hu => noRefs_spec os hnr' u (List.mem_of_mem_take hu)) (fun j u v hu hv => ?_) (fun g hg => ht' g (by have := cnt_pos.1 hg; omega)) hobj (by simpa using hTM)
      · have : ∀ (l : List (Nat × List Step)) (m : List (Nat × V)) (os rest : List V) (m' : List (Nat × V)), giveBack m l os = some (m', rest) → l.length ≤ os.length := by
          intro l
          induction l with
          | nil => intro m os rest m' _; exact Nat.zero_le _
          | cons y l ih =>
            intro m os rest m' hg
            obtain ⟨k, p⟩ := y
            cases p with
            | cons _ _ => cases os <;> simp [giveBack] at hg
            | nil =>
              cases os with
              | nil => simp [giveBack] at hg
              | cons u os =>
                simp only [giveBack, Option.bind_eq_some_iff] at hg
                obtain ⟨_, _, hg⟩ := hg
                obtain ⟨_, hg⟩ := cond_then hg
                have := ih _ _ _ _ hg
                simp; omega
        rw [List.length_take]; have := this l s.mem os rest m' hgb; omega
      · have hj : j < l.length := by
          have := (List.getElem?_eq_some_iff.1 hu).1
          rw [List.length_take] at this; omega
        refine giveBack_cells l s.mem m' os rest objs hgb hdist hobjs j u v hj ?_ hv
        rw [List.getElem?_take] at hu
        rw [if_pos hj] at hu; exact hu
  have vr0 : ∀ (nw : List Nat) (u : V) (y : Value) (t : List Nat), u.refs = [] → TRep G' w' u y t → (∀ g ∈ t, w.heap.size ≤ g ∨ ∀ o, X1 g o) → TRep (G.back w.heap.size G' nw l.length) w' u y t := by
    intro nw u y t hu hT ht
    exact hT.swap (show ∀ b o, (G.back w.heap.size G' nw l.length).I b o = G'.I b o from fun _ _ => rfl) hu fun g hg o => back_tok hEv hX1 (hT.owned (cnt_pos.1 hg)).2 (ht g hg) o
  have tokOK : ∀ g, 0 < cnt g tE + (cnt g tM' + cnt g tr) + (cnt g tV + cnt g tX) → w0.heap.size ≤ g ∨ ∀ o, X g o := by
    intro g hg
    by_cases h1 : 0 < cnt g tE + cnt g tM
    · exact htok g (by omega)
    · exact tok0 g (ht' g (by have := hsp g; omega))
  have cntOK : ∀ g, cnt g tE + (cnt g tM' + cnt g tr) + (cnt g tV + cnt g tX) ≤ 1 := by
    intro g
    have h1 := hc' g
    have h2 := hcnt g
    have h3 := hsp g
    by_cases hp : 0 < cnt g tV + cnt g tM' + cnt g tX
    · have hz : cnt g tE + cnt g tr = 0 := by
        rcases Nat.eq_zero_or_pos (cnt g tE + cnt g tr) with h0 | h0
        · exact h0
        · exfalso
          have ⟨hlt, hO⟩ : g < w.heap.size ∧ ∀ o, G.O g o = none := by
            rcases Nat.eq_zero_or_pos (cnt g tE) with h4 | h4
            · exact MemRep.owned s.mem tM hM g (by omega)
            · exact EnvRep.owned s.env tE hE g h4
          rcases ht' g hp with h5 | h5
          · omega
          · exact hnotX g hO (by omega) 0 (h5 0)
      omega
    · omega
  obtain ⟨hsub1, hsub2⟩ := giveBack_sub l s.mem m' os rest hgb hdist
  split at h
  · rename_i hr0
    simp only at hr0; subst hr0
    obtain ⟨hvr, hK⟩ := cond_then h
    have hvr' : vr.refs = [] := by simpa using hvr
    obtain ⟨g1, g2, g3, g4⟩ := frame [] (fun d hd => by cases hd)
    obtain ⟨e1, t, e2, e3⟩ := giveBack_rep l s.mem m' os [] tM' tr hgb hdist g4 g3
    refine ⟨_, _, RSv.put' (s := ⟨s.env, m'⟩) (notLent_of_TRep hTV) hd ⟨g1, tE, t, tV, g2, e3, vr0 [] vr x tV hvr' hTV (fun g hg => ht' g (by have := cnt_pos.1 hg; omega)), fun g => by have := cntOK g; have := e2 g; omega, fun g hg => tokOK g (by have := e2 g; omega)⟩, hK⟩
  · rename_i e0 xs hr0
    simp only at hr0; subst hr0
    cases a0 with
    | none => cases h
    | some t0 =>
      simp only at h
      obtain ⟨hvr, hK⟩ := cond_then h
      have hvr' : vr.refs = [] := by simpa using hvr
      obtain ⟨g1, g2, g3, g4⟩ := frame [] (fun d hd => by cases hd)
      obtain ⟨e1, t, e2, e3⟩ := giveBack_rep l s.mem m' os _ tM' tr hgb hdist g4 g3
      rw [← e1] at hRest
      obtain ⟨x0, hx0, hT0⟩ := hRest
      rw [ha0 t0 rfl] at hx0
      injection hx0 with hx0; subst hx0
      have hT1 := vr0 [] _ _ tX rfl hT0 (fun g hg => ht' g (by have := cnt_pos.1 hg; omega))
      obtain ⟨tE', hcE, hE'⟩ := EnvRep.rm t0 s.env tE g2
      refine ⟨_, _, RSv.put' (s := ⟨(t0, .raw e0 xs) :: rm s.env t0, m'⟩) (notLent_of_TRep hTV) hd ⟨g1, tX ++ tE', t, tV, ⟨tX, tE', rfl, hT1, hE'⟩, e3, vr0 [] vr x tV hvr' hTV (fun g hg => ht' g (by have := cnt_pos.1 hg; omega)),
        fun g => by have := cntOK g; have := e2 g; have := hcE g; simp; omega, fun g hg => tokOK g (by have := e2 g; have := hcE g; simp at hg; omega)⟩, hK⟩
  · rename_i u hno hr0
    simp only at hr0; subst hr0
    cases d with
    | none => cases h
    | some dd =>
      simp only at h
      obtain ⟨hch, h⟩ := cond_then h
      simp only [Bool.and_eq_true, Option.isNone_iff_eq_none] at hch
      obtain ⟨⟨⟨c1, c2⟩, c3⟩, c4⟩ := hch
      simp only [Option.bind_eq_some_iff] at h
      obtain ⟨v', hv', hK⟩ := h
      have hlt : dd < 1000000 := Nat.le_of_ble_eq_true c1
      have hkm := lk_none _ _ c2
      obtain ⟨g1, g2, g3, g4⟩ := frame [dd] (fun d hd => by
        have hd : d = dd := by simpa using hd
        subst hd
        exact ⟨hlt, hkm, noRef_spec _ _ c3, fun hk => noRef_spec _ _ c4 (allRefs_sub hsub1 hk), fun hk => hkm (hsub2 _ hk), fun hk => by
          obtain ⟨y, hy, e⟩ := List.mem_map.1 hk
          exact hkm (List.mem_map.2 ⟨y, hsub1 y hy, e⟩)⟩)
      obtain ⟨e1, t, e2, e3⟩ := giveBack_rep l s.mem m' os _ tM' tr hgb hdist g4 g3
      have hur : u.refs = [] := noRefs_spec os hnr' u (List.mem_of_mem_drop (by rw [← e1]; simp))
      rw [← e1] at hRest
      have hRest' : w.heap.size ≤ (G'.ρ (1000000 + l.length)).1 ∧ MemRep G' w' [(1000000 + l.length, u)] tX := by
        cases u with
        | raw e xs => exact absurd rfl (hno e xs)
        | _ => exact hRest
      obtain ⟨hnew, t1, t2, cs, f1, f2, f3, f4, f5⟩ := hRest'
      simp only [MemRep] at f5; subst f5
      simp only [List.append_nil] at f1; subst f1
      have hρd : (G.back w.heap.size G' [dd] l.length).ρ dd = G'.ρ (1000000 + l.length) := by simp [Gh.back, in2]
      have hmem : MemRep (G.back w.heap.size G' [dd] l.length) w' ((dd, u) :: m') (tX ++ t) := by
        refine ⟨tX, t, cs, rfl, ?_, ?_, ?_, e3⟩
        · exact f2.swap (show ∀ b o, (G.back w.heap.size G' [dd] l.length).I b o = G'.I b o from fun _ _ => rfl) u cs tX hur (fun g hg o => back_tok hEv hX1 (f2.owned u cs tX g hg).2 (ht' g (by have := cnt_pos.1 hg; omega)) o)
        · rw [hρd]; exact f3
        · intro j hj
          rw [hρd]
          refine ⟨?_, (f4 j hj).2⟩
          simp only [Gh.back]
          rw [if_neg (by omega), (f4 j hj).1]; simp [at2]
      have hTV' : TRep (G.back w.heap.size G' [dd] l.length) w' v' x tV := by
        unfold fresh at hv'
        split at hv'
        · rename_i k
          obtain ⟨hb, hv'⟩ := cond_then hv'
          injection hv' with hv'; subst hv'
          obtain ⟨ds, ⟨z1, z2, z3⟩, z4⟩ := hTV
          refine ⟨ds, ⟨?_, trivial, z3⟩, z4⟩
          rw [z1, beq_nat.1 hb]; simp only [Gh.addr, hρd]
        · rename_i k b _
          obtain ⟨hb, hv'⟩ := cond_then hv'
          injection hv' with hv'; subst hv'
          simp only [Bool.and_eq_true, List.isEmpty_iff] at hb
          obtain ⟨ds, ⟨va, vb, ca, cb, s1, s2, z1, z2, ⟨z3, z3', z3''⟩, z4, z5, z6⟩, z7⟩ := hTV
          refine ⟨ds, ⟨va, vb, ca, cb, s1, s2, z1, z2, ⟨?_, trivial, z3''⟩, z4, ?_, z6⟩, z7⟩
          · rw [z3, beq_nat.1 hb.1]; simp only [Gh.addr, hρd]
          · exact z5.swap (show ∀ b o, (G.back w.heap.size G' [dd] l.length).I b o = G'.I b o from fun _ _ => rfl) b cb s2 hb.2 (fun g hg o => back_tok hEv hX1 (z5.owned b cb s2 g hg).2 (ht' g (by have := cnt_pos.1 (show g ∈ tV by rw [z2]; simp [hg]); omega)) o)
        · cases hv'
      refine ⟨_, _, RSv.put' (d := some dd) (s := ⟨s.env, (dd, u) :: m'⟩) (notLent_of_TRep hTV') hd ⟨g1, tE, tX ++ t, tV, g2, hmem, hTV', fun g => by have := cntOK g; have := e2 g; simp; omega, fun g hg => tokOK g (by have := e2 g; simp at hg; omega)⟩, hK⟩
  · rename_i u u' hr0
    simp only at hr0; subst hr0
    cases d with
    | none => cases h
    | some dd =>
      simp only at h
      obtain ⟨hch, h⟩ := cond_then h
      simp only [Bool.and_eq_true, Option.isNone_iff_eq_none] at hch
      obtain ⟨⟨c1, ⟨⟨c2, c3⟩, c4⟩⟩, ⟨⟨c5, c6⟩, c7⟩⟩ := hch
      simp only [Option.bind_eq_some_iff] at h
      obtain ⟨v', hv', hK⟩ := h
      have hlt : dd < 500000 := Nat.le_of_ble_eq_true c1
      have hkm := lk_none _ _ c2
      have hkm' := lk_none _ _ c5
      have one : ∀ d, d < 1000000 → d ∉ keys m' → noRef d s.env = true → noRef d m' = true → d < 1000000 ∧ d ∉ keys m' ∧ d ∉ allRefs s.env ∧ d ∉ allRefs (rmL s.mem l) ∧ d ∉ l.map (·.1) ∧ d ∉ keys (rmL s.mem l) := fun d h1 h2 h3 h4 =>
        ⟨h1, h2, noRef_spec _ _ h3, fun hk => noRef_spec _ _ h4 (allRefs_sub hsub1 hk), fun hk => h2 (hsub2 _ hk), fun hk => by
          obtain ⟨y, hy, e⟩ := List.mem_map.1 hk
          exact h2 (List.mem_map.2 ⟨y, hsub1 y hy, e⟩)⟩
      obtain ⟨g1, g2, g3, g4⟩ := frame [dd, dd + 500000] (fun d hd => by
        have hd : d = dd ∨ d = dd + 500000 := by simpa using hd
        rcases hd with rfl | rfl
        · exact one _ (by omega) hkm c3 c4
        · exact one _ (by omega) hkm' c6 c7)
      obtain ⟨e1, t, e2, e3⟩ := giveBack_rep l s.mem m' os _ tM' tr hgb hdist g4 g3
      have hur : u.refs = [] := noRefs_spec os hnr' u (List.mem_of_mem_drop (by rw [← e1]; simp))
      have hur' : u'.refs = [] := noRefs_spec os hnr' u' (List.mem_of_mem_drop (by rw [← e1]; simp))
      rw [← e1] at hRest
      have hRest' : w.heap.size ≤ (G'.ρ (1000000 + l.length)).1 ∧ w.heap.size ≤ (G'.ρ (1000000 + (l.length + 1))).1 ∧ MemRep G' w' [(1000000 + l.length, u), (1000000 + (l.length + 1), u')] tX := by
        cases u <;> exact hRest
      obtain ⟨hnew, hnew', t1, t2, cs, f1, f2, f3, f4, t3, t4, cs', f5, f6, f7, f8, f9⟩ := hRest'
      simp only [MemRep] at f9; subst f9
      simp only [List.append_nil] at f5; subst f5
      subst f1
      obtain ⟨Gn, hGn⟩ : ∃ Gn, Gn = G.back w.heap.size G' [dd, dd + 500000] l.length := ⟨_, rfl⟩
      have hρd : Gn.ρ dd = G'.ρ (1000000 + l.length) := by rw [hGn]; simp [Gh.back, in2]
      have hρd' : Gn.ρ (dd + 500000) = G'.ρ (1000000 + (l.length + 1)) := by rw [hGn]; simp [Gh.back, in2, Nat.add_assoc]
      have sw : ∀ (u : V) (cs : List Value) (t : List Nat), u.refs = [] → VRep G' w' u cs t → (∀ g ∈ t, 0 < cnt g tV + cnt g tM' + cnt g (t1 ++ t2)) → VRep Gn w' u cs t := fun u cs t hu hv ht => by
        rw [hGn]
        exact hv.swap (show ∀ b o, (G.back w.heap.size G' [dd, dd + 500000] l.length).I b o = G'.I b o from fun _ _ => rfl) u cs t hu (fun g hg o => back_tok hEv hX1 (hv.owned u cs t g hg).2 (ht' g (ht g hg)) o)
      have hmem : MemRep Gn w' ((dd, u) :: (dd + 500000, u') :: m') (t1 ++ (t2 ++ t)) := by
        refine ⟨t1, t2 ++ t, cs, rfl, sw u cs t1 hur f2 (fun g hg => by have := cnt_pos.1 hg; simp; omega), ?_, ?_, t2, t, cs', rfl, sw u' cs' t2 hur' f6 (fun g hg => by have := cnt_pos.1 hg; simp; omega), ?_, ?_, by rw [hGn]; exact e3⟩
        · rw [hρd]; exact f3
        · intro j hj
          rw [hρd]
          refine ⟨?_, (f4 j hj).2⟩
          rw [hGn]
          simp only [Gh.back]
          rw [if_neg (by omega), (f4 j hj).1]; simp [at2]
        · rw [hρd']; exact f7
        · intro j hj
          rw [hρd']
          refine ⟨?_, (f8 j hj).2⟩
          rw [hGn]
          simp only [Gh.back]
          rw [if_neg (by omega), (f8 j hj).1]; simp [at2, Nat.add_assoc]
      have hTV' : TRep Gn w' v' x tV := by
        unfold fresh2 at hv'
        split at hv'
        · rename_i k k' b _
          obtain ⟨hb, hv'⟩ := cond_then hv'
          injection hv' with hv'; subst hv'
          simp only [Bool.and_eq_true, List.isEmpty_iff] at hb
          obtain ⟨ds, ⟨va, vb, vd, ca, cb, cd, s1, s2, s3, z1, z2, ⟨z3, z3', z3''⟩, z4, ⟨z5, z5', z5''⟩, z6, z7, z8⟩, z9⟩ := hTV
          refine ⟨ds, ⟨va, vb, vd, ca, cb, cd, s1, s2, s3, z1, z2, ⟨?_, trivial, z3''⟩, z4, ⟨?_, trivial, z5''⟩, z6, ?_, z8⟩, z9⟩
          · rw [z3, beq_nat.1 hb.1.1]; simp only [Gh.addr, hρd]
          · rw [z5, beq_nat.1 hb.1.2]; simp only [Gh.addr, hρd']
          · exact sw b cd s3 hb.2 z7 (fun g hg => by have := cnt_pos.1 (show g ∈ tV by rw [z2]; simp [hg]); omega)
        · cases hv'
      rw [← hGn] at g1 g2
      refine ⟨_, _, RSv.put' (d := some dd) (s := ⟨s.env, (dd, u) :: (dd + 500000, u') :: m'⟩) (notLent_of_TRep hTV') hd ⟨g1, tE, t1 ++ (t2 ++ t), tV, g2, hmem, hTV', fun g => by have := cntOK g; have := e2 g; simp at *; omega, fun g hg => tokOK g (by have := e2 g; simp at *; omega)⟩, hK⟩
  · cases h
end Go.Proofs.YtoikjekpckhgeaaGreat.Pal
end
section
/- One operation. -/
namespace Go.Proofs.YtoikjekpckhgeaaGreat.Pal
open Go
variable [MonoC]
variable {P : Program} {X Y : Nat → Nat → Prop} {G0 G G' : Gh} {w0 w w' : World} {s : St} {a : Act} {c : Cx} {Q : Exit → Act → World → Prop}

/-- The run goes on to the answer r. -/
def Nxt {α : Type} (X : Nat → Nat → Prop) (G0 : Gh) (w0 : World) (a : Act) (K : St → Option α) (r : α) : Act → World → Prop :=
  fun a' w' => ∃ G' s', RS X G0 w0 G' s' a'.tmps w' ∧ a'.tmps.size = a.tmps.size ∧ a'.defers = a.defers ∧ K s' = some r
theorem put_size (a : Act) (d : Option Nat) (x : Value) : (a.put d x).tmps.size = a.tmps.size := by cases d <;> simp [Act.put]
theorem put_defers (a : Act) (d : Option Nat) (x : Value) : (a.put d x).defers = a.defers := by cases d <;> rfl
theorem wp_val {α : Type} {o : Oper} {K : St → Option α} {r : α} {x : Value} {v : V} {s' : St} (hx : (execOp a.eval o).run P w = .ok (.value x) w') (hR : RSv X G0 w0 G' s' a.tmps w' v x) (hd : ∀ t, o.dst = some t → t < a.tmps.size)
    (hK : K (s'.dst o.dst v) = some r) : o.wp P a w (Nxt X G0 w0 a K r) Q := by
  obtain ⟨_, _, _, _, _, _, hT, _⟩ := id hR
  simp only [Oper.wp, hx, Oper.upon]
  exact ⟨G', _, RSv.put (notLent_of_TRep hT) hd hR, put_size _ _ _, put_defers _ _ _, hK⟩
theorem stepV_sound {α : Type} {o : Oper} {K : St → Option α} {r : α} (hT : TT P c) (hR : RS X G0 w0 G s a.tmps w) (h : stepV c o s K = some r) (hd : ∀ t, o.dst = some t → t < a.tmps.size) : o.wp P a w (Nxt X G0 w0 a K r) Q := by
  obtain ⟨hB, tE, tM, h1, h2, h3, h4⟩ := id hR
  obtain ⟨v, x, g1, g2, g3⟩ := valO_sound hT hB.wf hR.reads h2 h
  exact wp_val g1 (hR.withV g2) hd g3
theorem lend_sound {d t : Nat} (hR : RS X G0 w0 G { s with env := s.env } a.tmps w) (h : a.tmps.getD t undef = a.tmps.getD d undef) : RS X G0 w0 G { s with env := (t, .lent d) :: rm s.env t } a.tmps w := by
  obtain ⟨hB, tE, tM, h1, h2, h3, h4⟩ := hR
  obtain ⟨t2, e1, e2⟩ := EnvRep.rm t s.env tE h1
  exact ⟨hB, t2, tM, ⟨h, e2⟩, h2, fun g => by have := e1 g; have := h3 g; omega, fun g hg => h4 g (by have := e1 g; omega)⟩
/-- A value is taken out; a copy stays. -/
theorem take_split : ∀ (p : List Step) (v u v' : V) (cs : List Value) (ts : List Nat), VRep G w v cs ts → v.get p = some u → V.put p v u.copy = some v' → pathOk p →
    ∃ c1 cu c2 tu tv, cs = c1 ++ (cu ++ c2) ∧ c1.length = offs p ∧ (∀ g, cnt g tu + cnt g tv ≤ cnt g ts) ∧ VRep G w u cu tu ∧ VRep G w v' cs tv ∧ v'.cells = v.cells := by
  intro p
  induction p with
  | nil =>
    intro v u v' cs ts hv hg hp _
    simp only [V.get, Option.some.injEq] at hg; subst hg
    simp only [V.put] at hp
    obtain ⟨hb, hp⟩ := cond_then hp
    injection hp with hp; subst hp
    simp only [Bool.and_eq_true] at hb
    exact ⟨[], cs, [], ts, [], by simp, rfl, fun g => by simp, hv, hv.copy v cs ts, (beq_nat.1 hb.1).symm⟩
  | cons st p ih =>
    intro v u v' cs ts hv hg hp hpo
    cases v with
    | dat τ x =>
      obtain ⟨hd, rfl⟩ := id hv
      obtain ⟨c1, cu, c2, tu, e1, e2, e3, e4⟩ := get_rep (st :: p) (.dat τ x) u cs [] hv hg hpo
      have htu : tu = [] := by
        cases tu with
        | nil => rfl
        | cons g t => have := e3 g; simp [cnt] at this
      subst htu
      have hcp := e4.copy u cu []
      obtain ⟨k1, _, d1, d0, d2, t', f1, f2, f3, f4, f5⟩ := put_rep (st :: p) (.dat τ x) u.copy v' cs cu [] [] hv hcp hp hpo
      have : d1 = c1 ∧ d0 = cu ∧ d2 = c2 := by
        have h1 : d1.length = c1.length := by rw [f2, e2]
        have h2 := e1.symm.trans f1
        obtain ⟨g1, g2⟩ := List.append_inj h2 h1.symm
        obtain ⟨g3, g4⟩ := List.append_inj g2 f3.symm
        exact ⟨g1.symm, g3.symm, g4.symm⟩
      obtain ⟨rfl, rfl, rfl⟩ := this
      refine ⟨d1, d0, d2, [], t', e1, e2, fun g => by have := f4 g; simpa using this, e4, by rw [e1]; exact f5, k1⟩
    | pr va vb =>
      obtain ⟨c1, c2, t1, t2, e1, e2, h1, h2⟩ := hv
      cases st with
      | l =>
        simp only [V.get] at hg
        simp only [V.put, Option.map_eq_some_iff] at hp
        obtain ⟨a', ha', rfl⟩ := hp
        obtain ⟨d1, du, d2, tu, tv, f1, f2, f3, f4, f5, f6⟩ := ih va u a' c1 t1 h1 hg ha' hpo
        refine ⟨d1, du, d2 ++ c2, tu, tv ++ t2, by rw [e1, f1]; simp, f2, fun g => by have := f3 g; subst e2; simp; omega, f4, by rw [e1]; exact mkPr_rep f5 h2, ?_⟩
        rw [mkPr_cells]; simp [V.cells, f6]
      | r o =>
        simp only [V.get] at hg
        obtain ⟨hb, hg⟩ := cond_then hg
        simp only [V.put] at hp
        obtain ⟨_, hp⟩ := cond_then hp
        simp only [Option.map_eq_some_iff] at hp
        obtain ⟨b', hb', rfl⟩ := hp
        obtain ⟨d1, du, d2, tu, tv, f1, f2, f3, f4, f5, f6⟩ := ih vb u b' c2 t2 h2 hg hb' hpo
        have hl := VRep.length va c1 t1 h1
        refine ⟨c1 ++ d1, du, d2, tu, t1 ++ tv, by rw [e1, f1]; simp, by simp [offs, f2, hl, beq_nat.1 hb], fun g => by have := f3 g; subst e2; simp; omega, f4, by rw [e1]; exact mkPr_rep h1 f5, ?_⟩
        rw [mkPr_cells]; simp [V.cells, f6]
      | ix n sz i => simp [V.get] at hg
    | _ => cases st <;> simp [V.get] at hg
theorem opdT_args {ρ : Option Ty → Operand → Option V} (hρ : Reads G w a ρ) : ∀ (l : List Operand) (tys : List (Option Ty)) (vs : List V), opdT ρ tys l = some vs → ArgsRep G w vs (l.map a.eval) []
  | [], tys, vs, h => by simp only [opdT, Option.some.injEq] at h; subst h; exact ⟨rfl, rfl⟩
  | x :: r, tys, vs, h => by
    simp only [opdT, Option.bind_eq_some_iff, Option.some.injEq] at h
    obtain ⟨v, hv, us, hus, rfl⟩ := h
    exact ⟨a.eval x, r.map a.eval, [], [], rfl, rfl, hρ _ _ _ hv, opdT_args hρ r _ us hus⟩
theorem args_append : ∀ (vs us : List V) (xs ys : List Value) (ts : List Nat), ArgsRep G w vs xs ts → ArgsRep G w us ys [] → ArgsRep G w (vs ++ us) (xs ++ ys) ts
  | [], us, xs, ys, ts, ⟨h1, h2⟩, k => by subst h1; subst h2; exact k
  | v :: vs, us, xs, ys, ts, ⟨x, xs', t1, t2, e1, e2, h1, h2⟩, k => by
    subst e1
    exact ⟨x, xs' ++ ys, t1, t2, rfl, e2, h1, args_append vs us xs' ys t2 h2 k⟩
theorem caps_args : ∀ (caps : List (Nat × List Step)) (xs : List Value), capsRep G caps xs → ArgsRep G w (caps.map fun x => .ref x.1 x.2) xs []
  | [], xs, h => ⟨h, rfl⟩
  | (k, p) :: r, xs, ⟨u, us, h1, h2, h3, h4⟩ => ⟨u, us, [], [], h1, rfl, ⟨[u], ⟨by rw [h2], h3, rfl⟩, rfl⟩, caps_args r us h4⟩
theorem takL_sound {mv : Bool} {tys : List (Option Ty)} {l : List Operand} {vs : List V} {s' : St} (hR : RS X G0 w0 G s a.tmps w) (h : takL mv tys s l = some (vs, s')) :
    Base X G0 w0 G w ∧ ∃ tE tM tA, EnvRep G w a.tmps s'.env tE ∧ MemRep G w s'.mem tM ∧ ArgsRep G w vs (l.map a.eval) tA ∧ (∀ g, cnt g tE + cnt g tM + cnt g tA ≤ 1) ∧ ∀ g, 0 < cnt g tE + cnt g tM + cnt g tA → w0.heap.size ≤ g ∨ ∀ o, X g o := by
  cases l with
  | nil =>
    simp only [takL, Option.some.injEq, Prod.mk.injEq] at h
    obtain ⟨rfl, rfl⟩ := h
    obtain ⟨hB, tE, tM, h1, h2, h3, h4⟩ := hR
    exact ⟨hB, tE, tM, [], h1, h2, ⟨rfl, rfl⟩, by simpa using h3, by simpa using h4⟩
  | cons x r =>
    simp only [takL, Option.bind_eq_some_iff, Option.some.injEq, Prod.mk.injEq] at h
    obtain ⟨⟨v, s1⟩, hv, us, hus, rfl, rfl⟩ := h
    have hR1 := tak_rep hR hv
    have hA := opdT_args (RS.reads hR1.rs) r _ us hus
    obtain ⟨hB, tE, tM, tV, h1, h2, h3, h4, h5⟩ := hR1
    exact ⟨hB, tE, tM, tV, h1, h2, ⟨a.eval x, r.map a.eval, tV, [], rfl, by simp, h3, hA⟩, h4, h5⟩
theorem wp_does {α : Type} {o : Oper} {K : St → Option α} {r : α} {f : Nat} {argv : Array Value} (hx : (execOp a.eval o).run P w = (callFunc f argv).run P w) (h : Does P f argv w fun x w' => ∃ G' s', RS X G0 w0 G' s' (putT a.tmps o.dst x) w' ∧ K s' = some r) :
    o.wp P a w (Nxt X G0 w0 a K r) Q := by
  have key : ∀ x, (a.put o.dst x).tmps = putT a.tmps o.dst x := fun x => by cases o.dst <;> rfl
  rcases h with ⟨h1, h2⟩ | ⟨v, w', h1, G', s', h2, h3⟩
  · simp only [Oper.wp, hx, h1, Oper.upon]
    refine Calls.mono h2 fun e w' he => ?_
    cases e with
    | returned v =>
      obtain ⟨G', s', g1, g2⟩ := he
      exact ⟨G', s', by rw [key]; exact g1, put_size _ _ _, put_defers _ _ _, g2⟩
    | _ => exact he.elim
  · simp only [Oper.wp, hx, h1, Oper.upon]
    exact ⟨G', s', by rw [key]; exact h2, put_size _ _ _, put_defers _ _ _, h3⟩
theorem run_callOp {dst : Option Tmp} {f : Operand} {args : Array Operand} {argTypes : Array TypeId} {ty : TypeId} {pos : String} {after : Array Edge} {guard : Option (Nat × Bool)} {g : Nat} {caps : Array Value} (hf : a.eval f = .func (.func g) #[] caps) :
    (execOp a.eval { dst := dst, op := .call { callee := .value f, args := args, argTypes := argTypes }, type := ty, pos := pos, after := after, guard := guard }).run P w = (callFunc g (args.map a.eval ++ caps)).run P w := by
  simp [execOp, resolve, hf, Deferred.ofValue, invoke]
theorem flat_rep (l : List Value) : ∀ (n : Nat) (i : Nat), (List.replicate n l).flatten[i]? = if i < n * l.length then l[i % l.length]? else none
  | 0, i => by simp
  | n + 1, i => by
    rw [List.replicate_succ, List.flatten_cons]
    by_cases h : i < l.length
    · rw [List.getElem?_append_left h, if_pos (by rw [Nat.add_mul]; omega), Nat.mod_eq_of_lt h]
    · have hl : l.length ≤ i := by omega
      rw [List.getElem?_append_right hl, flat_rep l n]
      have e : (i - l.length) % l.length = i % l.length := by rw [← Nat.mod_eq_sub_mod hl]
      rw [e]
      by_cases h2 : i - l.length < n * l.length
      · rw [if_pos h2, if_pos (by rw [Nat.add_mul]; omega)]
      · rw [if_neg h2, if_neg (by rw [Nat.add_mul]; omega)]
theorem zeroCells_flat (z : Array Value) (n : Nat) : (Builtin.zeroCells z n).toList = (List.replicate n z.toList).flatten := by
  apply List.ext_getElem?
  intro i
  rw [flat_rep]
  have hl : z.toList.length = z.size := Array.length_toList
  rw [hl]
  by_cases h : i < n * z.size
  · rw [if_pos h]
    have hp : 0 < z.size := by
      rcases Nat.eq_zero_or_pos z.size with h0 | h0
      · rw [h0] at h; omega
      · exact h0
    have hm : i % z.size < z.size := Nat.mod_lt _ hp
    simp [Builtin.zeroCells, h, hm]
  · rw [if_neg h]
    simp [Builtin.zeroCells]; omega
theorem clear_run {t E ty m : Nat} {e : Ty} {ad : Addr} {ad' : Addr} {z : Value} {x : Value} (hE : P.underlying t = some (.slice E)) (hz : (zeroValue E).run P w = .ok z w) (hz2 : z.cells.toList = zcells e)
    (hx : x = .slice (some (if m = 0 then ad else ad')) m m) (ha : ad' = ad) (hs : (storeCells ad (zcells (.arr m e))).run P w = .ok () w') : (Builtin.clear_ #[t] ty #[x]).run P w = .ok (.tuple #[]) w' := by
  subst hx; subst ha
  cases m with
  | zero =>
    have : w' = w := by simpa [zcells, storeCells] using hs.symm
    subst this
    simp [Builtin.clear_, run_underlying hE]
  | succ m =>
    have e1 : (Builtin.zeroCells z.cells (m + 1)).toList = zcells (.arr (m + 1) e) := by rw [zeroCells_flat, hz2]; rfl
    simp only [Builtin.clear_, List.getElem?_toArray, List.getElem?_cons_zero, Sem.run_bind, run_underlying hE, Result.andThen_ok, hz, e1, Nat.add_one_ne_zero, if_false, hs, Sem.run_pure]
theorem stepO_sound {α : Type} {mv ln : Bool} {o : Oper} {K : St → Option α} {r : α} (hT : TT P c) (hC : ∀ f e, lkN c.fns f = some e → CallOK P f e) (hR : RS X G0 w0 G s a.tmps w) (h : stepO c mv ln o s K = some r) (hd : ∀ t, o.dst = some t → t < a.tmps.size) :
    o.wp P a w (Nxt X G0 w0 a K r) Q := by
  obtain ⟨dst, op, ty, pos, after, guard⟩ := o
  have mvCase : ∀ x, (op = .move x ∨ op = .assign x) → (bif mv then (tak mv (c.ty ty) s x).bind fun vs => K (lend ln x ⟨dst, op, ty, pos, after, guard⟩ (vs.2.dst dst vs.1)) else stepV c ⟨dst, op, ty, pos, after, guard⟩ s K) = some r →
      Oper.wp P ⟨dst, op, ty, pos, after, guard⟩ a w (Nxt X G0 w0 a K r) Q := by
    intro x hx h
    cases mv with
    | false => exact stepV_sound hT hR h hd
    | true =>
      simp only [cond_true, Option.bind_eq_some_iff] at h
      obtain ⟨⟨v, s'⟩, hv, hK⟩ := h
      have hR1 := tak_rep hR hv
      have hrun : (execOp a.eval ⟨dst, op, ty, pos, after, guard⟩).run P w = .ok (.value (a.eval x)) w := by
        rcases hx with rfl | rfl <;> rfl
      obtain ⟨_, _, _, _, _, _, hTr, _⟩ := id hR1
      have hR2 := RSv.put (notLent_of_TRep hTr) hd hR1
      simp only [Oper.wp, hrun, Oper.upon]
      refine ⟨G, _, ?_, put_size _ _ _, put_defers _ _ _, hK⟩
      cases ln with
      | false => exact hR2
      | true =>
        cases x with
        | tmp t =>
          cases dst with
          | none => exact hR2
          | some d =>
            refine lend_sound hR2 ?_
            show (a.tmps.setIfInBounds d (a.tmps.getD t undef)).getD t undef = (a.tmps.setIfInBounds d (a.tmps.getD t undef)).getD d undef
            rw [getD_set_same (hd d rfl)]
            by_cases e : d = t
            · subst e; rw [getD_set_same (hd d rfl)]
            · rw [getD_set_other e]
        | _ => exact hR2
  unfold stepO at h
  split at h
  · rename_i x hop
    simp only at hop; subst hop
    exact mvCase x (.inl rfl) h
  · rename_i x hop
    simp only at hop; subst hop
    exact mvCase x (.inr rfl) h
  · rename_i t hop
    simp only at hop; subst hop
    simp only [Option.bind_eq_some_iff] at h
    obtain ⟨z, hz, h⟩ := h
    cases dst with
    | none => cases h
    | some d =>
      simp only at h
      obtain ⟨hch, hK⟩ := cond_then h
      simp only [Bool.and_eq_true, Option.isNone_iff_eq_none] at hch
      obtain ⟨⟨⟨c1, c2⟩, c3⟩, c4⟩ := hch
      obtain ⟨x, cs, g1, g2, g3, g4⟩ := hT.zero hz G w
      obtain ⟨y, hy, hyc⟩ : ∃ y, TRep G w z y [] ∧ y.cells = x.cells := by
        cases hag : z.agg with
        | true => exact ⟨.agg cs.toArray, ⟨cs, g2, by simp [hag]⟩, by show cs.toArray = x.cells; apply Array.ext'; simpa using g3.symm⟩
        | false =>
          obtain ⟨u, rfl⟩ := g2.one hag
          refine ⟨u, ⟨[u], g2, by simp [hag]⟩, ?_⟩
          apply Array.ext'
          rw [cells_of g2 (by simp [hag]), g3]
      have hb := RSv.box (T := t) (hR.withV hy) (Nat.le_of_ble_eq_true c1) c2 c3 c4 g4
      rw [hyc] at hb
      refine wp_val ?_ hb hd hK
      simp only [execOp]
      refine runV ?_
      simp only [Instr.alloc, Sem.run_bind, g1, Result.andThen_ok, newVar, newRow, run_newObj_alloc, Sem.run_pure]
  · rename_i t x hop
    simp only at hop; subst hop
    simp only [Option.bind_eq_some_iff] at h
    obtain ⟨⟨v, s'⟩, hv, h⟩ := h
    cases dst with
    | none => cases h
    | some d =>
      simp only at h
      obtain ⟨hch, hK⟩ := cond_then h
      simp only [Bool.and_eq_true, Option.isNone_iff_eq_none] at hch
      obtain ⟨⟨⟨⟨⟨c1, c2⟩, c3⟩, c4⟩, c5⟩, c6⟩ := hch
      have hb := RSv.box (T := t) (tak_rep hR hv) (Nat.le_of_ble_eq_true c1) c2 c3 c4 (by simpa using c5)
      refine wp_val ?_ hb hd hK
      simp only [execOp]
      refine runV ?_
      simp only [Instr.box, Sem.run_bind, Result.andThen_ok, newVar, newRow, run_newObj_alloc, Sem.run_pure]
  · rename_i t n parts hop
    simp only at hop; subst hop
    simp only [Option.bind_eq_some_iff] at h
    obtain ⟨τ, hτ, h⟩ := h
    split at h
    · rename_i e
      simp only [Option.bind_eq_some_iff] at h
      obtain ⟨ps, hps, h⟩ := h
      obtain ⟨hb, h⟩ := cond_then h
      simp only [Option.bind_eq_some_iff] at h
      obtain ⟨xs, hxs, hK⟩ := h
      simp only [Bool.and_eq_true] at hb
      obtain ⟨E, m, hu, hE⟩ := tyB_slc (hT.ty hτ).1
      obtain ⟨v, w', G', g1, g2⟩ := buildSlice_run (t := t) (n := n) (parts := parts.map fun p => (p.1, a.eval p.2)) hR hu hE (by simpa using opds_parts hR.reads _ _ hps) (beq_nat.1 hb.1) (Nat.le_of_ble_eq_true hb.2) hxs
      exact wp_val (runV g1) g2 hd hK
    · cases h
  · rename_i t ad hop
    simp only at hop; subst hop
    cases mv with
    | false => exact stepV_sound hT hR h hd
    | true =>
      simp only [cond_true, Option.bind_eq_some_iff] at h
      obtain ⟨ly, hly, av, hav, h⟩ := h
      have hra := opd_rep hR hav
      split at h
      · rename_i k p
        simp only [Option.bind_eq_some_iff] at h
        obtain ⟨v, hv, u, hu, h⟩ := h
        obtain ⟨hb, h⟩ := cond_then h
        simp only [Option.bind_eq_some_iff] at h
        obtain ⟨v', hv', hK⟩ := h
        simp only [Bool.and_eq_true] at hb
        obtain ⟨hp1, hp2⟩ := hra.ref_
        obtain ⟨hB, tE, tM, h1, h2, h3, h4⟩ := hR
        obtain ⟨t1, t2, cs, hc, g1, g2, g3, g4⟩ := MemRep.find k s.mem tM v h2 hv
        obtain ⟨c1, cu, c2, tu, tv, e1, e2, e3, e4, e5, e6⟩ := take_split p v u v' cs t1 g1 hu hv' hp2
        have hcu : CellsAt w (G.ρ k).1 ((G.ρ k).2 + offs p) cu := by
          intro j y hj
          have := g2 (offs p + j) y (by rw [e1, List.getElem?_append_right (by omega), List.getElem?_append_left (by have := (List.getElem?_eq_some_iff.1 hj).1; omega)]; rw [← hj]; congr 1; omega)
          rwa [← Nat.add_assoc] at this
        obtain ⟨x, hx, hxu⟩ := load_run (P := P) hT hly e4 hcu (beq_nat.1 hb.1) (by simpa using hb.2)
        refine wp_val (s' := { s with mem := setM s.mem k v' }) (v := u) (x := x) (G' := G) (w' := w) ?_ ⟨hB, tE, tv ++ t2, tu, h1, ⟨tv, t2, cs, rfl, e5, g2, by rw [e6]; exact g3, g4⟩, ⟨cu, e4, hxu⟩,
          fun g => by have := h3 g; have := hc g; have := e3 g; simp; omega, fun g hg => h4 g (by have := hc g; have := e3 g; simp at hg; omega)⟩ hd hK
        simp only [execOp, hp1, Gh.addr]
        exact runV hx
      · cases h
  · rename_i t ad x hop
    simp only at hop; subst hop
    simp only [Option.bind_eq_some_iff] at h
    obtain ⟨ly, hly, av, hav, ⟨v, s'⟩, hv, h⟩ := h
    have hra := opd_rep hR hav
    split at h
    · rename_i k p
      obtain ⟨hb, h⟩ := cond_then h
      simp only [Option.bind_eq_some_iff] at h
      obtain ⟨u0, hu0, u1, hu1, hK⟩ := h
      simp only [Bool.and_eq_true, Bool.not_eq_true', Option.isNone_iff_eq_none] at hb
      obtain ⟨hp1, hp2⟩ := hra.ref_
      obtain ⟨w', g1, g2⟩ := RSv.store (P := P) (T := t) (tak_rep hR hv) hu0 hu1 hp2 hb.1.2 (by rw [(hT.lay hly w).1, beq_nat.1 hb.1.1])
      have hdn := hb.2
      subst hdn
      simp only [Oper.wp, execOp, Sem.run_bind, hp1, g1, Result.andThen_ok, Sem.run_pure, Oper.upon]
      exact ⟨G, _, g2, rfl, rfl, hK⟩
    · cases h
  · rename_i f args argTypes hop
    simp only at hop; subst hop
    simp only [Option.bind_eq_some_iff] at h
    obtain ⟨fv, hfv, h⟩ := h
    have hrf := opd_rep hR hfv
    split at h
    · rename_i g caps
      simp only [Option.bind_eq_some_iff] at h
      obtain ⟨⟨vs, s'⟩, hvs, h⟩ := h
      obtain ⟨hB, tE, tM, tA, g1, g2, g3, g4, g5⟩ := takL_sound hR hvs
      obtain ⟨_, ⟨cv, e1, e2, _⟩, e3⟩ := hrf
      simp only [V.agg, Bool.false_eq_true, if_false] at e3
      rw [e1] at e3
      simp only [List.cons.injEq, and_true] at e3
      have hA := args_append _ _ _ _ _ g3 (caps_args caps cv.toList e2)
      refine wp_does (run_callOp e3.symm) ?_
      have := callV_sound (P := P) (tmps := a.tmps) hC h hB g1 g2 hA g4 g5 (fun t ht => by
        split at ht
        · rename_i t' r' hl
          injection ht with ht; subst ht
          rw [hl]; rfl
        · cases ht) hd
      have e : (args.toList.map a.eval ++ cv.toList).toArray = args.map a.eval ++ cv := by apply Array.ext'; simp
      rw [e] at this
      exact this
    · cases h
  · rename_i args argTypes hop
    simp only at hop; subst hop
    split at h
    · rename_i x y t t2 hargs htys
      simp only [Option.bind_eq_some_iff] at h
      obtain ⟨⟨v, s'⟩, hv, u, hu, h⟩ := h
      split at h
      · rename_i e' e2 e xs hty hty2 hvv
        simp only at hvv; subst hvv
        obtain ⟨hb, h⟩ := cond_then h
        simp only [Option.bind_eq_some_iff] at h
        obtain ⟨ys, hys, h⟩ := h
        obtain ⟨hroom, hK⟩ := br_then h
        have hR1 := tak_rep hR hv
        have hy := TRep.as_ hys (opd_rep hR1.rs hu)
        obtain ⟨E, m, hE, hEe⟩ := tyB_slc (hT.ty hty).1
        obtain ⟨E2, m2, hE2, _⟩ := tyB_slc (hT.ty hty2).1
        obtain ⟨v', w', G', g1, g2⟩ := append_run (ty := ty) hR1 hy hE hE2 hEe (beq_nat.1 hb) hroom
        refine wp_val ?_ g2 hd hK
        have ea : args = #[x, y] := by apply Array.ext'; simpa using hargs
        have et : argTypes = #[t, t2] := by apply Array.ext'; simpa using htys
        subst ea; subst et
        simp only [execOp, resolve, Sem.run_bind, Sem.run_pure, Result.andThen_ok, invoke, builtin, List.map_toArray, List.map_cons, List.map_nil, g1]
      · cases h
    · cases h
  · rename_i args argTypes hop
    simp only at hop; subst hop
    split at h
    · rename_i x t hargs htys
      simp only [Option.bind_eq_some_iff] at h
      obtain ⟨v, hv, h⟩ := h
      split at h
      · rename_i e k p m e' l hh hty
        obtain ⟨hb, h⟩ := cond_then h
        rw [Bool.and_eq_true] at hb
        obtain ⟨hce, hlh⟩ := hb
        have hlh : l = 0 ∧ hh = (m : Int) := by
          unfold fullV at hlh
          split at hlh
          · rename_i a b
            simp only [Bool.and_eq_true] at hlh
            exact ⟨by rw [beq_nat.1 hlh.1]; rfl, by rw [beq_nat.1 hlh.2]; rfl⟩
          · cases hlh
        obtain ⟨hl0, hhm⟩ := hlh
        obtain ⟨u, hu, h⟩ := Option.bind_eq_some_iff.1 h
        obtain ⟨u', hu', hK⟩ := Option.bind_eq_some_iff.1 h
        subst hl0; subst hhm
        obtain ⟨E, m', hE, hEe⟩ := tyB_slc (hT.ty hty).1
        obtain ⟨cs, ⟨q1, q2, _, q4⟩, q5⟩ := opd_rep hR hv
        simp only [V.agg, Bool.false_eq_true, if_false] at q5
        rw [q1] at q5
        simp only [List.cons.injEq, and_true] at q5
        have hz := zeroV_rep G w (.arr m e)
        have hR1 := RSv.storeC (P := P) (hR.withV (v := .dat (.arr m e) (zarr m e.zero)) (x := .agg (zcells (.arr m e)).toArray) ⟨_, hz, rfl⟩) hu hu' q2 rfl
        obtain ⟨w', g1, g2⟩ := hR1
        obtain ⟨z, hz1, hz2⟩ := (tyB_i hEe).zero w
        have ea : args = #[x] := by apply Array.ext'; simpa using hargs
        have et : argTypes = #[t] := by apply Array.ext'; simpa using htys
        subst ea; subst et
        have g3 : (Builtin.clear_ #[t] ty #[a.eval x]).run P w = .ok (.tuple #[]) w' := clear_run (m := m) (ad := G.addr k p) (ad' := G.addr k (p ++ [.ix m e'.cells 0])) hE hz1 hz2 (by rw [← q5]; rfl) (by simp [Gh.addr, offs_append, offs]) g1
        have hR2 : RSv X G0 w0 G { s with mem := setM s.mem k u' } a.tmps w' .unit (.tuple #[]) := g2.withV ⟨_, ⟨rfl, rfl⟩, rfl⟩
        refine wp_val ?_ hR2 hd hK
        simp only [execOp, resolve, Sem.run_bind, Sem.run_pure, Result.andThen_ok, invoke, builtin, List.map_toArray, List.map_cons, List.map_nil, g3]
      · cases h
    · cases h
  · exact stepV_sound hT hR h hd
end Go.Proofs.YtoikjekpckhgeaaGreat.Pal
end
section
/- Regions in their order; what is kept from region to region. -/
namespace Go.Proofs.YtoikjekpckhgeaaGreat.Pal
open Go
variable [MonoC]
variable {P : Program} {X Y : Nat → Nat → Prop} {G0 G G' : Gh} {w0 w w' : World} {s : St} {a : Act} {c : Cx} {Q : Exit → Act → World → Prop}

theorem getD_bool {tmps : Array Value} {g : Nat} {b : Bool} (h : tmps.getD g undef = .bool b) : tmps[g]? = some (.bool b) := by
  rw [Array.getD_eq_getD_getElem?] at h
  cases hg : tmps[g]? with
  | none => rw [hg] at h; cases h
  | some v => rw [hg] at h; simp at h; rw [h]
theorem RS.find {t : Nat} {v : V} (hR : RS X G0 w0 G s a.tmps w) (h : lk s.env t = some v) (hn : notLent v) : ∃ ts, TRep G w v (a.tmps.getD t undef) ts := by
  obtain ⟨_, tE, tM, h1, _⟩ := hR
  obtain ⟨t1, t2, _, h2, _⟩ := EnvRep.find t s.env tE v h1 h hn
  exact ⟨t1, h2⟩
/-- A guard's answer is known. -/
theorem RS.refine_ {g : Nat} {b : Bool} (hR : RS X G0 w0 G s a.tmps w) (h : lk s.env g = some (.dat .bool b)) : RS X G0 w0 G (s.set g (.dat .bool b)) a.tmps w := by
  obtain ⟨ts, hT⟩ := hR.find h trivial
  obtain ⟨hB, tE, tM, h1, h2, h3, h4⟩ := hR
  obtain ⟨t2, e1, e2⟩ := EnvRep.write g (a.tmps.getD g undef) s.env tE h1
  rw [set_same] at e2
  have : TRep G w (.dat .bool b) (a.tmps.getD g undef) [] := by rw [hT.dat_bool]; exact TRep.bool b
  exact ⟨hB, [] ++ t2, tM, ⟨[], t2, rfl, this, e2⟩, h2, fun g => by have := e1 g; have := h3 g; simp; omega, fun g hg => h4 g (by have := e1 g; simp at hg; omega)⟩
theorem unit_undef : TRep G w .unit undef [] := ⟨_, ⟨rfl, rfl⟩, rfl⟩
theorem RS.skip {d : Option Nat} (hR : RS X G0 w0 G s a.tmps w) : RS X G0 w0 G (s.dst d .unit) (a.put d undef).tmps w := by
  cases d with
  | none => exact hR
  | some d =>
    obtain ⟨hB, tE, tM, h1, h2, h3, h4⟩ := hR
    obtain ⟨t2, e1, e2⟩ := EnvRep.write d undef s.env tE h1
    refine ⟨hB, [] ++ t2, tM, (EnvRep.cons (v := .unit) trivial).2 ⟨[], t2, rfl, ?_, e2⟩, h2, fun g => by have := e1 g; have := h3 g; simp; omega, fun g hg => h4 g (by have := e1 g; simp at hg; omega)⟩
    have : (a.put (some d) undef).tmps.getD d undef = undef := by
      show (a.tmps.setIfInBounds d undef).getD d undef = undef
      simp only [Array.getD_eq_getD_getElem?, Array.getElem?_setIfInBounds]
      split
      · split <;> rfl
      · rename_i h; exact absurd trivial h
    rw [this]; exact unit_undef
theorem yielded_unit {ops : Array Oper} {j g : Nat} (hR : RS X G0 w0 G s a.tmps w) (hg : (ops[j]?).bind (·.dst) = some g) (h : lk s.env g = some .unit) : yielded ops a.tmps j = none := by
  obtain ⟨ts, cs, ⟨h1, _⟩, h2⟩ := hR.find h trivial
  simp only [V.agg, Bool.false_eq_true, if_false] at h2
  rw [h1] at h2
  simp only [List.cons.injEq, and_true] at h2
  simp only [yielded, hg, Option.bind_some]
  rw [Array.getD_eq_getD_getElem?] at h2
  cases hx : a.tmps[g]? with
  | none => rfl
  | some v => rw [hx] at h2; simp only [Option.getD_some] at h2; subst h2; rfl
theorem yielded_of {ops : Array Oper} {j g : Nat} {b : Bool} (hR : RS X G0 w0 G s a.tmps w) (hg : (ops[j]?).bind (·.dst) = some g) (h : lk s.env g = some (.dat .bool b)) : yielded ops a.tmps j = some b := by
  obtain ⟨ts, hT⟩ := hR.find h trivial
  simp only [yielded, hg, Option.bind_some, getD_bool hT.dat_bool]
theorem runOps_sound {α : Type} {ops : Array Oper} {mvs lns : List Nat} {K : St → Option α} {res : α} {n : Nat} {ds : List Deferred} (hT : TT P c) (hC : ∀ f e, lkN c.fns f = some e → CallOK P f e) (hdst : ∀ o ∈ ops.toList, ∀ t, o.dst = some t → t < n)
    (hQ : ∀ a' w' G' s', RS X G0 w0 G' s' a'.tmps w' → a'.tmps.size = n → a'.defers = ds → K s' = some res → Q .normal a' w') :
    ∀ (r : List Oper) (i : Nat) (s : St) (a : Act) (w : World) (G : Gh), ops.toList.drop i = r → runOps c ops mvs lns i r s K = some res → RS X G0 w0 G s a.tmps w → a.tmps.size = n → a.defers = ds → wpOps P ops Q (List.range' i r.length) a w
  | [], i, s, a, w, G, _, h, hR, hn, hds => by
    simp only [runOps] at h
    exact hQ a w G s hR hn hds h
  | o :: r, i, s, a, w, G, hr, h, hR, hn, hds => by
    have hi : ops[i]? = some o := by
      rw [← Array.getElem?_toList]
      have : (ops.toList.drop i)[0]? = some o := by rw [hr]; rfl
      simpa using this
    have hr' : ops.toList.drop (i + 1) = r := by
      rw [← List.drop_drop, hr]; rfl
    have hmem : o ∈ ops.toList := by rw [← Array.getElem?_toList] at hi; exact List.mem_of_getElem? hi
    have hd : ∀ t, o.dst = some t → t < a.tmps.size := fun t ht => by rw [hn]; exact hdst o hmem t ht
    have go : ∀ (s1 : St) (K' : St → Option α), RS X G0 w0 G s1 a.tmps w → (∀ s2, K' s2 = some res → runOps c ops mvs lns (i + 1) r s2 K = some res) → stepO c (memN i mvs) (memN i lns) o s1 K' = some res →
        o.wp P a w (wpOps P ops Q (List.range' (i + 1) r.length)) Q := by
      intro s1 K' hR1 hK' hs
      refine Oper.wp_mono (fun a' w' hN => ?_) (stepO_sound (Q := Q) hT hC hR1 hs hd)
      obtain ⟨G', s', g1, g2, g3, g4⟩ := hN
      exact runOps_sound hT hC hdst hQ r (i + 1) s' a' w' G' hr' (hK' s' g4) g1 (g2.trans hn) (g3.trans hds)
    show wpOps P ops Q (i :: List.range' (i + 1) r.length) a w
    simp only [wpOps, hi]
    simp only [runOps] at h
    cases hgd : o.guard with
    | none =>
      simp only [hgd] at h
      rw [if_pos (by simp [Region.wanted, hgd])]
      exact .inl (go s _ hR (fun s2 h2 => h2) h)
    | some jw =>
      obtain ⟨j, want⟩ := jw
      simp only [hgd, Option.bind_eq_some_iff] at h
      obtain ⟨g, hg, gv, hgv, h⟩ := h
      have hg' : (ops[j]?).bind (·.dst) = some g := by simpa [Option.bind_eq_some_iff] using hg
      split at h
      · rename_i b
        have hy := yielded_of hR hg' hgv
        have hR1 := hR.refine_ hgv
        have hw : Region.wanted o (yielded ops a.tmps) = (b == want) := by
          simp only [Region.wanted, hgd, hy]
          cases b <;> cases want <;> rfl
        have skip : ∀ (s1 : St), RS X G0 w0 G s1 a.tmps w → runOps c ops mvs lns (i + 1) r (s1.dst o.dst .unit) K = some res → wpOps P ops Q (List.range' (i + 1) r.length) (a.put o.dst undef) w := by
          intro s1 hR1 h1
          exact runOps_sound hT hC hdst hQ r (i + 1) _ _ w G hr' h1 hR1.skip ((put_size _ _ _).trans hn) ((put_defers _ _ _).trans hds)
        rcases br_cases h with ⟨rfl, h⟩ | ⟨rfl, h⟩
        · cases want with
          | true =>
            rw [if_pos (by rw [hw]; rfl)]
            exact .inl (go _ _ hR1 (fun s2 h2 => h2) h)
          | false =>
            rw [if_neg (by rw [hw]; simp)]
            exact skip _ hR1 h
        · cases want with
          | true =>
            rw [if_neg (by rw [hw]; simp)]
            exact skip _ hR1 h
          | false =>
            rw [if_pos (by rw [hw]; rfl)]
            exact .inl (go _ _ hR1 (fun s2 h2 => h2) h)
      · have hy := yielded_unit hR hg' hgv
        rw [if_neg (by simp [Region.wanted, hgd, hy])]
        exact runOps_sound hT hC hdst hQ r (i + 1) _ _ w G hr' h hR.skip ((put_size _ _ _).trans hn) ((put_defers _ _ _).trans hds)
      · cases h
theorem EnvRep.findL {tmps : Array Value} (t : Nat) : ∀ (env : List (Nat × V)) (ts : List Nat) (u : Nat), EnvRep G w tmps env ts → lk env t = some (.lent u) → tmps.getD t undef = tmps.getD u undef
  | [], _, _, _, h => by simp [lk] at h
  | (k, v) :: r, ts, u, h, hl => by
    rw [lk_cons] at hl
    by_cases e : k = t
    · rw [if_pos e] at hl
      injection hl with hl; subst hl; subst e
      exact h.1
    · rw [if_neg e] at hl
      cases v with
      | lent x => exact EnvRep.findL t r ts u h.2 hl
      | _ =>
        obtain ⟨s1, s2, rfl, h1, h2⟩ := h
        exact EnvRep.findL t r s2 u h2 hl
theorem EnvRep.pick {tmps : Array Value} : ∀ (l : List Nat) (env : List (Nat × V)) (ts : List Nat), EnvRep G w tmps env ts → ∃ t, (∀ g, cnt g t ≤ cnt g ts) ∧ EnvRep G w tmps (Pal.pick env l) t
  | [], env, ts, h => ⟨[], fun g => by simp, rfl⟩
  | t :: l, env, ts, h => by
    have lentCase : ∀ t u, lk env t = some (.lent u) → ∃ t3, (∀ g, cnt g t3 ≤ cnt g ts) ∧ EnvRep G w tmps ((t, .lent u) :: Pal.pick (Pal.rm env t) l) t3 := by
      intro t u hl
      obtain ⟨t2, e1, e2⟩ := EnvRep.rm t env ts h
      obtain ⟨t3, e4, e5⟩ := EnvRep.pick l (Pal.rm env t) t2 e2
      exact ⟨t3, fun g => by have := e1 g; have := e4 g; omega, EnvRep.findL t env ts u h hl, e5⟩
    simp only [Pal.pick]
    cases Nat.ble 10000000 t with
    | true =>
      simp only [cond_true]
      cases hl : lk env (t - 10000000) with
      | none => exact EnvRep.pick l env ts h
      | some v =>
        by_cases hn : notLent v
        · obtain ⟨t1, t2, e1, e2, e3⟩ := EnvRep.find _ env ts v h hl hn
          obtain ⟨t3, e4, e5⟩ := EnvRep.pick l _ t2 e3
          have hc : notLent v.copy := notLent_of_TRep e2.copy
          exact ⟨[] ++ t3, fun g => by have := e1 g; have := e4 g; simp; omega, (EnvRep.cons hc).2 ⟨[], t3, rfl, e2.copy, e5⟩⟩
        · cases v with
          | lent u => exact lentCase _ u hl
          | _ => exact absurd trivial hn
    | false =>
      simp only [cond_false]
      cases hl : lk env t with
      | none => exact EnvRep.pick l env ts h
      | some v =>
        by_cases hn : notLent v
        · obtain ⟨t1, t2, e1, e2, e3⟩ := EnvRep.find t env ts v h hl hn
          obtain ⟨t3, e4, e5⟩ := EnvRep.pick l (Pal.rm env t) t2 e3
          exact ⟨t1 ++ t3, fun g => by have := e1 g; have := e4 g; simp; omega, (EnvRep.cons hn).2 ⟨t1, t3, rfl, e2, e5⟩⟩
        · cases v with
          | lent u => exact lentCase t u hl
          | _ => exact absurd trivial hn
theorem MemRep.pick : ∀ (l : List Nat) (m : List (Nat × V)) (ts : List Nat), MemRep G w m ts → ∃ t, (∀ g, cnt g t ≤ cnt g ts) ∧ MemRep G w (Pal.pick m l) t
  | [], m, ts, h => ⟨[], fun g => by simp, rfl⟩
  | t :: l, m, ts, h => by
    simp only [Pal.pick]
    cases Nat.ble 10000000 t with
    | true =>
      simp only [cond_true]
      cases hl : lk m (t - 10000000) with
      | none => exact MemRep.pick l m ts h
      | some v =>
        obtain ⟨t1, t2, cs, e1, e2, e3, e4, e5⟩ := MemRep.find _ m ts v h hl
        obtain ⟨t3, f1, f2⟩ := MemRep.pick l _ t2 e5
        have hcl : v.copy.cells = v.cells := by rw [← VRep.length _ _ _ (e2.copy v cs t1), VRep.length _ _ _ e2]
        exact ⟨[] ++ t3, fun g => by have := e1 g; have := f1 g; simp; omega, [], t3, cs, rfl, e2.copy v cs t1, e3, by rw [hcl]; exact e4, f2⟩
    | false =>
      simp only [cond_false]
      cases hl : lk m t with
      | none => exact MemRep.pick l m ts h
      | some v =>
        obtain ⟨t1, t2, cs, e1, e2, e3, e4, e5⟩ := MemRep.find t m ts v h hl
        obtain ⟨t3, f1, f2⟩ := MemRep.pick l (Pal.rm m t) t2 e5
        exact ⟨t1 ++ t3, fun g => by have := e1 g; have := f1 g; simp; omega, t1, t3, cs, rfl, e2, e3, e4, f2⟩
theorem RS.prune {tmps : Array Value} (l m : List Nat) (hR : RS X G0 w0 G s tmps w) : RS X G0 w0 G (Pal.prune l m s) tmps w := by
  obtain ⟨hB, tE, tM, h1, h2, h3, h4⟩ := hR
  obtain ⟨t1, e1, e2⟩ := EnvRep.pick l s.env tE h1
  obtain ⟨t2, f1, f2⟩ := MemRep.pick m s.mem tM h2
  exact ⟨hB, t1, t2, e2, f2, fun g => by have := h3 g; have := e1 g; have := f1 g; omega, fun g hg => h4 g (by have := e1 g; have := f1 g; omega)⟩
theorem rm_comm (t u : Nat) : ∀ m : List (Nat × V), rm (rm m t) u = rm (rm m u) t
  | [] => rfl
  | (k, v) :: r => by
    rw [rm_cons, rm_cons]
    by_cases h1 : k = t <;> by_cases h2 : k = u
    · rw [if_pos h1, if_pos h2, rm_comm t u r]
    · rw [if_pos h1, if_neg h2, rm_cons, if_pos h1, rm_comm t u r]
    · rw [if_neg h1, if_pos h2, rm_cons, if_pos h2, rm_comm t u r]
    · rw [if_neg h1, if_neg h2, rm_cons, rm_cons, if_neg h1, if_neg h2, rm_comm t u r]
theorem lentOf_spec {tmps : Array Value} : ∀ (env : List (Nat × V)) (ts : List Nat) (t x : Nat), EnvRep G w tmps env ts → lentOf env = some (t, x) → tmps.getD t undef = tmps.getD x undef
  | [], _, _, _, _, h => by simp [lentOf] at h
  | (k, v) :: r, ts, t, x, hE, h => by
    cases v with
    | lent u =>
      simp only [lentOf, Option.some.injEq, Prod.mk.injEq] at h
      obtain ⟨rfl, rfl⟩ := h
      exact hE.1
    | _ =>
      obtain ⟨s1, s2, rfl, _, h2⟩ := hE
      exact lentOf_spec r s2 t x h2 h
theorem RS.settle {tmps : Array Value} (hR : RS X G0 w0 G s tmps w) : RS X G0 w0 G { s with env := Pal.settle s.env } tmps w := by
  obtain ⟨hB, tE, tM, h1, h2, h3, h4⟩ := hR
  have done : ∀ env', (∃ t2, (∀ g, cnt g t2 ≤ cnt g tE) ∧ EnvRep G w tmps env' t2) → RS X G0 w0 G { s with env := env' } tmps w := by
    rintro env' ⟨t2, e1, e2⟩
    exact ⟨hB, t2, tM, e2, h2, fun g => by have := h3 g; have := e1 g; omega, fun g hg => h4 g (by have := e1 g; omega)⟩
  refine done _ ?_
  unfold Pal.settle
  split
  · exact ⟨tE, fun _ => Nat.le_refl _, h1⟩
  · rename_i t x hl
    have heq := lentOf_spec s.env tE t x h1 hl
    split
    · rename_i v hv
      by_cases hn : notLent v
      · obtain ⟨t1, t2, e1, e2, e3⟩ := EnvRep.find x s.env tE v h1 hv hn
        obtain ⟨t3, e4, e5⟩ := EnvRep.rm t (Pal.rm s.env x) t2 e3
        rw [rm_comm] at e5
        exact ⟨t1 ++ t3, fun g => by have := e1 g; have := e4 g; simp; omega, (EnvRep.cons hn).2 ⟨t1, t3, rfl, by rw [heq]; exact e2, e5⟩⟩
      · cases v with
        | lent u =>
          obtain ⟨t2, e1, e2⟩ := EnvRep.rm t s.env tE h1
          obtain ⟨t3, e4, e5⟩ := EnvRep.rm x _ t2 e2
          exact ⟨t3, fun g => by have := e1 g; have := e4 g; omega, heq.trans (EnvRep.findL x s.env tE u h1 hv), e5⟩
        | _ => exact absurd trivial hn
    · exact EnvRep.rm t s.env tE h1
end Go.Proofs.YtoikjekpckhgeaaGreat.Pal
end
section
/- What an operation gives does not hang on what is done with it. -/
namespace Go.Proofs.YtoikjekpckhgeaaGreat.Pal
open Go
variable [MonoC]
variable {c : Cx}
theorem br_bind {α β : Type} {b : Bool} {x y : Option α} {f : α → Option β} : (br b x y).bind f = br b (x.bind f) (y.bind f) := by cases b <;> rfl
theorem cond_bind {α β : Type} {b : Bool} {x : Option α} {f : α → Option β} : (bif b then x else none).bind f = bif b then x.bind f else none := by cases b <;> rfl
theorem bind_nat {α β γ : Type} {x : Option α} {f : α → Option β} {g : α → Option γ} {k : γ → Option β} (h : ∀ a, f a = (g a).bind k) : x.bind f = (x.bind g).bind k := by
  cases x with
  | none => rfl
  | some a => exact h a
theorem binV_nat {α : Type} (pt : Bool) (ty : Option Ty) (op : BinOp) (x y : V) (K : V → Option α) : binV pt ty op x y K = (binV pt ty op x y some).bind K := by
  unfold binV
  split
  · cases op <;> simp only [br_bind, Option.bind_some, Option.bind_none]
  · cases op <;> simp only [br_bind, Option.bind_some, Option.bind_none]
  · cases pt <;> cases op <;> rfl
  · cases pt <;> cases op <;> rfl
  · cases pt <;> cases op <;> rfl
  · split
    · rename_i τ
      cases τ.hasEq with
      | false => rfl
      | true =>
        simp only [cond_true]
        refine bind_nat fun a => bind_nat fun b => ?_
        cases op <;> rfl
    · rfl
theorem valO_nat {α : Type} (o : Oper) (ρ : Option Ty → Operand → Option V) (m : List (Nat × V)) (K : V → Option α) : valO c o ρ m K = (valO c o ρ m some).bind K := by
  unfold valO
  split
  · exact bind_nat fun a => rfl
  · exact bind_nat fun a => rfl
  · refine bind_nat fun a => ?_
    split
    · rw [br_bind]
      congr 1
      · exact bind_nat fun a => rfl
      · exact bind_nat fun a => rfl
    · rfl
  · refine bind_nat fun a => ?_
    rw [cond_bind]; congr 1
    exact bind_nat fun b => bind_nat fun d => rfl
  · refine bind_nat fun a => bind_nat fun b => ?_
    split
    · refine bind_nat fun d => bind_nat fun e => ?_
      rw [cond_bind]; rfl
    · rw [cond_bind]; rfl
    · rfl
  · refine bind_nat fun a => ?_
    split <;> rfl
  · refine bind_nat fun a => bind_nat fun b => ?_
    rw [cond_bind, ← binV_nat]
  · refine bind_nat fun a => ?_
    split <;> rfl
  · refine bind_nat fun a => bind_nat fun b => bind_nat fun d => ?_
    split <;> rfl
  · refine bind_nat fun a => bind_nat fun b => bind_nat fun d => bind_nat fun e => ?_
    split
    · exact bind_nat fun a => by rw [br_bind]; rfl
    · exact bind_nat fun a => by rw [br_bind]; rfl
    · split
      · rw [br_bind]; rfl
      · rfl
    · rfl
  · refine bind_nat fun a => ?_
    rw [cond_bind]; congr 1
    refine bind_nat fun b => ?_
    split
    · rfl
    · refine bind_nat fun d => ?_
      split <;> rfl
    · rfl
  · refine bind_nat fun a => bind_nat fun b => bind_nat fun d => ?_
    split
    · split
      · rw [cond_bind, br_bind]; rfl
      · exact bind_nat fun a => by rw [br_bind]; rfl
    · split
      · rw [br_bind]; rfl
      · exact bind_nat fun a => by rw [br_bind]; rfl
      · rfl
    · rfl
  · refine bind_nat fun a => bind_nat fun b => bind_nat fun d => ?_
    split
    · exact bind_nat fun a => by rw [br_bind]; rfl
    · exact bind_nat fun a => by rw [br_bind]; rfl
    · rfl
  · refine bind_nat fun a => ?_
    split <;> rfl
  · rw [cond_bind]; congr 1
    exact bind_nat fun a => bind_nat fun b => rfl
  · split
    · refine bind_nat fun a => bind_nat fun b => ?_
      rw [cond_bind]; congr 1
      exact bind_nat fun d => rfl
    · refine bind_nat fun a => bind_nat fun b => ?_
      split
      · rw [cond_bind]; rfl
      · rfl
    · refine bind_nat fun a => bind_nat fun b => ?_
      split
      · rw [cond_bind]; rfl
      · rfl
    · rfl
  · rfl
end Go.Proofs.YtoikjekpckhgeaaGreat.Pal
end
section
/- Regions whose order is free: what the steps give in the text's order. -/
namespace Go.Proofs.YtoikjekpckhgeaaGreat.Pal
open Go
variable [MonoC]
variable {P : Program} {X Y : Nat → Nat → Prop} {G0 G G' : Gh} {w0 w w' : World} {s : St} {a : Act} {c : Cx} {Q : Exit → Act → World → Prop}

theorem opd_rdL (s : St) (e : Option Ty) (x : Operand) : opd e s x = rdL (lk s.env) e x := by cases x <;> rfl
theorem rdL_of (s : St) : (fun e x => opd e s x) = rdL (lk s.env) := by funext e x; exact opd_rdL s e x
theorem stepF_nat {α : Type} (mv : Bool) (o : Oper) (L : Nat → Option V) (m : List (Nat × V)) (K : V → Option α) : stepF c mv o L m K = (stepF c mv o L m some).bind K := by
  unfold stepF
  split
  · split
    · refine bind_nat fun a => bind_nat fun b => ?_
      split
      · rw [cond_bind]; congr 1
        refine bind_nat fun d => ?_
        rw [br_bind]; rfl
      · rfl
    · rfl
  · exact bind_nat fun a => rfl
  · exact bind_nat fun a => rfl
  · refine bind_nat fun a => ?_
    split
    · refine bind_nat fun b => ?_
      rw [cond_bind]; congr 1
      exact bind_nat fun d => rfl
    · rfl
  · exact valO_nat o _ m K
abbrev prK (v : V) (m : List (Nat × V)) : Option (V × List (Nat × V)) := some (v, m)
theorem stepG_nat {α : Type} (hC : ∀ f e, lkN c.fns f = some e → CallOK P f e) (mv : Bool) (o : Oper) (L : Nat → Option V) (m : List (Nat × V)) (K : V → List (Nat × V) → Option α) : stepG c mv o L m K = (stepG c mv o L m prK).bind fun x => K x.1 x.2 := by
  unfold stepG
  split
  · refine bind_nat fun a => ?_
    split
    · refine bind_nat fun b => ?_
      cases he : lkN c.fns _ with
      | none => rfl
      | some e =>
        simp only [Option.bind_some]
        refine bind_nat fun ar => ?_
        rw [cond_bind]; congr 1
        refine bind_nat fun objs => ?_
        rw [cond_bind]; congr 1
        rw [(hC _ e he).nat, (hC _ e he).nat (V × List (Nat × V))]
        refine bind_nat fun p => ?_
        refine bind_nat fun m' => ?_
        rw [cond_bind]; rfl
    · rfl
  · refine bind_nat fun a => bind_nat fun b => bind_nat fun d => ?_
    split
    · rw [cond_bind]; congr 1
      exact bind_nat fun u => bind_nat fun u' => rfl
    · rfl
  · cases mv with
    | true =>
      simp only [cond_true]
      refine bind_nat fun a => bind_nat fun b => ?_
      split
      · refine bind_nat fun d => bind_nat fun e => ?_
        rw [cond_bind]; congr 1
        exact bind_nat fun u => rfl
      · rfl
    | false =>
      simp only [cond_false]
      rw [stepF_nat, stepF_nat (K := fun v => prK v m), Option.bind_assoc]; rfl
  · rw [stepF_nat, stepF_nat (K := fun v => prK v m), Option.bind_assoc]; rfl
def updL (L : Nat → Option V) (d : Option Nat) (x : Option V) : Nat → Option V := fun t => if d = some t then x else L t
/-- What a step gives, or that it is left out. -/
def Gives (c : Cx) (ops : Array Oper) (mvs : List Nat) (m : List (Nat × V)) (i : Nat) (o : Oper) (L : Nat → Option V) (x : V × Bool) (m' : List (Nat × V)) : Prop :=
  match o.guard with
  | none => x.2 = true ∧ stepG c (memN i mvs) o L m prK = some (x.1, m') ∧ notL x.1 = true
  | some (j, want) => ∃ g gv, (ops[j]?).bind (·.dst) = some g ∧ L g = some gv ∧ ((gv = .dat .bool want ∧ x.2 = true ∧ stepG c (memN i mvs) o L m prK = some (x.1, m') ∧ notL x.1 = true) ∨ ((gv = .dat .bool (!want) ∨ gv = .unit) ∧ x = (.unit, false) ∧ m' = m))
def afterL (L : Nat → Option V) (mv : Bool) (o : Oper) (x : V × Bool) : Nat → Option V := updL (cutL L (if x.2 then consO mv o else none)) o.dst (some x.1)
/-- What of memory a step met. -/
def fpT (mvs : List Nat) (ops : Array Oper) (Ls : Nat → Nat → Option V) (xs : Nat → V × Bool) (j : Nat) : List Nat × Bool := match ops[j]? with
  | some o => if (xs j).2 then fpO (memN j mvs) o (Ls j) else ([], false)
  | none => ([], false)
/-- The steps from i to n, in the text's order. -/
structure Tr (c : Cx) (ops : Array Oper) (mvs : List Nat) (pr : List (List Nat)) (Ls : Nat → Nat → Option V) (ms : Nat → List (Nat × V)) (xs : Nat → V × Bool) (i n : Nat) : Prop where
  step : ∀ j, i ≤ j → j < n → ∃ o m1, ops[j]? = some o ∧ Gives c ops mvs (ms j) j o (Ls j) (xs j) m1 ∧ lk m1 = lk (ms (j + 1)) ∧ Ls (j + 1) = afterL (Ls j) (memN j mvs) o (xs j)
  far : ∀ p j, i ≤ p → p < j → j < n → apart (nthL pr j) (fpT mvs ops Ls xs j) p (fpT mvs ops Ls xs p) = true
theorem rmW_noLent : ∀ (env : List (Nat × V)) (d : Nat), noLent env = true → rmW env d = rm env d
  | [], _, _ => rfl
  | (k, v) :: r, d, h => by
    simp only [noLent, Bool.and_eq_true] at h
    have ih := rmW_noLent r d h.2
    cases v with
    | lent t => cases h.1
    | _ => simp only [rmW, rm, ih, Bool.or_false]
theorem noLent_rm : ∀ (env : List (Nat × V)) (d : Nat), noLent env = true → noLent (rm env d) = true
  | [], _, _ => rfl
  | (k, v) :: r, d, h => by
    have h2 := h
    simp only [noLent, Bool.and_eq_true] at h
    rw [rm_cons]
    split
    · exact noLent_rm r d h.2
    · simp only [noLent, Bool.and_eq_true]; exact ⟨h.1, noLent_rm r d h.2⟩
theorem lk_rm_same (d : Nat) : ∀ env : List (Nat × V), lk (rm env d) d = none
  | [] => rfl
  | (k, v) :: r => by
    rw [rm_cons]
    split
    · exact lk_rm_same d r
    · rename_i e; rw [lk_cons, if_neg e, lk_rm_same d r]
theorem lk_set {env : List (Nat × V)} {d : Nat} {v : V} (h : noLent env = true) : lk ((d, v) :: rmW env d) = updL (lk env) (some d) (some v) := by
  funext t
  rw [lk_cons, rmW_noLent env d h]
  simp only [updL, Option.some.injEq]
  split
  · rfl
  · rename_i e; exact lk_rm_other e env
theorem lk_rmW {env : List (Nat × V)} {d : Nat} (h : noLent env = true) : lk (rmW env d) = updL (lk env) (some d) none := by
  funext t
  rw [rmW_noLent env d h]
  simp only [updL, Option.some.injEq]
  split
  · rename_i e; subst e; exact lk_rm_same d env
  · rename_i e; exact lk_rm_other e env
theorem noLent_set {env : List (Nat × V)} {d : Nat} {v : V} (h : noLent env = true) (hv : notL v = true) : noLent ((d, v) :: rmW env d) = true := by
  rw [rmW_noLent env d h]
  simp only [noLent, Bool.and_eq_true]
  refine ⟨?_, noLent_rm env d h⟩
  cases v <;> first | rfl | (simp [notL] at hv)
theorem cutL_eq (L : Nat → Option V) (t u : Nat) : cutL L (some t) u = if t = u then none else L u := by
  simp only [cutL]
  by_cases h : t = u
  · subst h; simp
  · have : Nat.beq t u = false := by rw [Bool.eq_false_iff]; intro e; exact h (Nat.eq_of_beq_eq_true e)
    simp [h, this]
theorem lk_rmO (env : List (Nat × V)) (d : Option Nat) : lk (rmO env d) = cutL (lk env) d := by
  cases d with
  | none => rfl
  | some t =>
    funext u
    rw [cutL_eq]
    split
    · rename_i e; subst e; exact lk_rm_same t env
    · rename_i e; exact lk_rm_other e env
theorem noLent_rmO {env : List (Nat × V)} (d : Option Nat) (h : noLent env = true) : noLent (rmO env d) = true := by
  cases d with
  | none => exact h
  | some t => exact noLent_rm env t h
theorem updL_none (L : Nat → Option V) (x : Option V) : updL L none x = L := by funext t; simp [updL]
theorem updL_same {L : Nat → Option V} {g : Nat} {v : V} (h : L g = some v) : updL L (some g) (some v) = L := by
  funext t
  simp only [updL, Option.some.injEq]
  split
  · rename_i e; subst e; exact h.symm
  · rfl
theorem okPast_mem {o : List Nat} {fp : List Nat × Bool} : ∀ {past : List (Nat × (List Nat × Bool))}, okPast o fp past = true → ∀ x ∈ past, apart o fp x.1 x.2 = true
  | [], _, x, hx => by cases hx
  | (j, fq) :: r, h, x, hx => by
    simp only [okPast, Bool.and_eq_true] at h
    rcases List.mem_cons.1 hx with rfl | hx
    · exact h.1
    · exact okPast_mem h.2 x hx
theorem memN_iff (t : Nat) : ∀ l : List Nat, memN t l = true ↔ t ∈ l
  | [] => by simp [memN]
  | k :: r => by
    simp only [memN, Bool.or_eq_true, memN_iff t r, List.mem_cons]
    exact or_congr ⟨fun h => (Nat.eq_of_beq_eq_true h).symm, fun h => by subst h; simp⟩ Iff.rfl
theorem disj_iff : ∀ (a b : List Nat), disj a b = true ↔ ∀ k ∈ a, k ∉ b
  | [], b => by simp [disj]
  | k :: r, b => by
    simp only [disj, Bool.and_eq_true, Bool.not_eq_true', disj_iff r b, List.mem_cons, forall_eq_or_imp]
    refine and_congr ?_ Iff.rfl
    rw [← memN_iff k b]
    simp
theorem apart_nil1 (o : List Nat) (j : Nat) (fq : List Nat × Bool) (b : Bool) : apart o ([], b) j fq = true := by simp [apart, disj]
theorem apart_nil2 (o : List Nat) (fp : List Nat × Bool) (j : Nat) (b : Bool) : apart o fp j ([], b) = true := by
  have : disj fp.1 [] = true := (disj_iff _ _).2 fun k _ h => by cases h
  simp [apart, this]
theorem addP_spec (i : Nat) (fp : List Nat × Bool) (past : List (Nat × (List Nat × Bool))) : (∀ x ∈ past, x ∈ addP i fp past) ∧ (fp.1 = [] ∨ (i, fp) ∈ addP i fp past) := by
  unfold addP
  split
  · rename_i h; exact ⟨fun x hx => hx, .inl h⟩
  · exact ⟨fun x hx => List.mem_cons_of_mem _ hx, .inr (by simp)⟩
/-- What is known of the steps from i on. -/
def Trd {α : Type} (c : Cx) (ops : Array Oper) (mvs : List Nat) (pr : List (List Nat)) (K : List (Nat × (List Nat × Bool)) → List Oper → St → Option α) (res : α) (k : Nat) (r : List Oper) (i : Nat) (past : List (Nat × (List Nat × Bool))) (s : St) : Prop :=
  ∃ Ls ms xs s1 past1, K past1 (r.drop k) s1 = some res ∧ noLent s1.env = true ∧ Tr c ops mvs pr Ls ms xs i (i + min k r.length) ∧ Ls i = lk s.env ∧ ms i = s.mem ∧ Ls (i + min k r.length) = lk s1.env ∧ ms (i + min k r.length) = s1.mem ∧
        (∀ x ∈ past, x ∈ past1) ∧ (∀ j, i ≤ j → j < i + min k r.length → (fpT mvs ops Ls xs j).1 = [] ∨ (j, fpT mvs ops Ls xs j) ∈ past1) ∧ ∀ j, i ≤ j → j < i + min k r.length → ∀ x ∈ past, apart (nthL pr j) (fpT mvs ops Ls xs j) x.1 x.2 = true
/-- What the run in the text's order says. -/
theorem runQ_trace {α : Type} {ops : Array Oper} {mvs : List Nat} {pr : List (List Nat)} {K : List (Nat × (List Nat × Bool)) → List Oper → St → Option α} {res : α} (hC : ∀ f e, lkN c.fns f = some e → CallOK P f e) :
    ∀ (k : Nat) (r : List Oper) (i : Nat) (past : List (Nat × (List Nat × Bool))) (s : St), ops.toList.drop i = r → runQ c ops mvs pr i k past r s K = some res → noLent s.env = true →
      Trd c ops mvs pr K res k r i past s
  | 0, r, i, past, s, hr, h, hn => ⟨fun _ => lk s.env, fun _ => s.mem, fun _ => (.unit, false), s, past, by simpa [runQ] using h, hn, ⟨fun j h1 h2 => by omega, fun p j h1 h2 h3 => by omega⟩, rfl, rfl, rfl, rfl, fun _ hx => hx, fun j h1 h2 => by omega, fun j h1 h2 => by omega⟩
  | k + 1, [], i, past, s, hr, h, hn => ⟨fun _ => lk s.env, fun _ => s.mem, fun _ => (.unit, false), s, past, by simpa [runQ] using h, hn, ⟨fun j h1 h2 => by simp at h2; omega, fun p j h1 h2 h3 => by simp at h3; omega⟩, rfl, rfl, rfl, rfl, fun _ hx => hx, fun j h1 h2 => by simp at h2; omega, fun j h1 h2 => by simp at h2; omega⟩
  | k + 1, o :: r, i, past, s, hr, h, hn => by
    have hi : ops[i]? = some o := by
      rw [← Array.getElem?_toList]
      have : (ops.toList.drop i)[0]? = some o := by rw [hr]; rfl
      simpa using this
    have hr' : ops.toList.drop (i + 1) = r := by rw [← List.drop_drop, hr]; rfl
    have hmin : i + min (k + 1) (o :: r).length = i + 1 + min k r.length := by simp only [List.length_cons]; omega
    -- what was found behind the step, with the step ahead
    have glue : ∀ (x : V × Bool) (m' : List (Nat × V)) (s1 : St) (past' : List (Nat × (List Nat × Bool))), Gives c ops mvs s.mem i o (lk s.env) x m' → lk s1.env = afterL (lk s.env) (memN i mvs) o x → s1.mem = m' → noLent s1.env = true →
        okPast (nthL pr i) (if x.2 then fpO (memN i mvs) o (lk s.env) else ([], false)) past = true → past' = addP i (if x.2 then fpO (memN i mvs) o (lk s.env) else ([], false)) past → runQ c ops mvs pr (i + 1) k past' r s1 K = some res →
        Trd c ops mvs pr K res (k + 1) (o :: r) i past s := by
      intro x m' s1 past' hG hl hm hn1 hpast hp' hrun
      obtain ⟨Ls, ms, xs, s2, past1, e1, e2, e3, e4, e5, e6, e7, e8, e9, e10⟩ := runQ_trace hC k r (i + 1) past' s1 hr' hrun hn1
      have hne : ∀ j, i + 1 ≤ j → j ≠ i := fun j hj => by omega
      have hf : fpT mvs ops (fun j => if j = i then lk s.env else Ls j) (fun j => if j = i then x else xs j) i = if x.2 then fpO (memN i mvs) o (lk s.env) else ([], false) := by
        simp only [fpT, hi, if_true]
      have hf' : ∀ j, i + 1 ≤ j → fpT mvs ops (fun j => if j = i then lk s.env else Ls j) (fun j => if j = i then x else xs j) j = fpT mvs ops Ls xs j := fun j hj => by
        simp only [fpT, if_neg (hne j hj)]
      obtain ⟨a1, a2⟩ := addP_spec i (if x.2 then fpO (memN i mvs) o (lk s.env) else ([], false)) past
      rw [← hp'] at a1 a2
      unfold Trd
      rw [hmin]
      refine ⟨fun j => if j = i then lk s.env else Ls j, fun j => if j = i then s.mem else ms j, fun j => if j = i then x else xs j, s2, past1, e1, e2, ⟨fun j h1 h2 => ?_, fun p j h1 h2 h3 => ?_⟩, if_pos rfl, if_pos rfl, ?_, ?_, fun y hy => e8 y (a1 y hy), fun j h1 h2 => ?_, fun j h1 h2 y hy => ?_⟩
      · by_cases e : j = i
        · subst e
          refine ⟨o, m', hi, ?_, ?_, ?_⟩
          · simp only [if_true]; exact hG
          · simp only [if_neg (hne (j + 1) (Nat.le_refl _)), e5, hm]
          · simp only [if_true, if_neg (hne (j + 1) (Nat.le_refl _)), e4]; exact hl
        · obtain ⟨o', m1, h3, h4, h4', h5⟩ := e3.step j (by omega) h2
          refine ⟨o', m1, h3, ?_, ?_, ?_⟩
          · simp only [if_neg e]; exact h4
          · simp only [if_neg (hne (j + 1) (by omega))]; exact h4'
          · simp only [if_neg e, if_neg (hne (j + 1) (by omega))]; exact h5
      · rw [hf' j (by omega)]
        by_cases e : p = i
        · subst e
          rw [hf]
          rcases a2 with a2 | a2
          · rw [show (if x.2 = true then fpO (memN p mvs) o (lk s.env) else ([], false)) = ([], (if x.2 = true then fpO (memN p mvs) o (lk s.env) else ([], false)).2) from Prod.ext a2 rfl]
            exact apart_nil2 _ _ _ _
          · exact e10 j (by omega) h3 _ a2
        · rw [hf' p (by omega)]
          exact e3.far p j (by omega) h2 h3
      · simp only [if_neg (hne (i + 1 + min k r.length) (by omega))]; exact e6
      · simp only [if_neg (hne (i + 1 + min k r.length) (by omega))]; exact e7
      · by_cases e : j = i
        · subst e; rw [hf]; exact a2.imp id fun h => e8 _ h
        · rw [hf' j (by omega)]; exact e9 j (by omega) h2
      · by_cases e : j = i
        · subst e
          rw [hf]; exact okPast_mem hpast y hy
        · rw [hf' j (by omega)]; exact e10 j (by omega) h2 y (a1 y hy)
    have step : ∀ E1 : List (Nat × V), noLent E1 = true → lk E1 = lk s.env → (bif okPast (nthL pr i) (fpO (memN i mvs) o (lk E1)) past then stepG c (memN i mvs) o (lk E1) s.mem fun v m => bif notL v then runQ c ops mvs pr (i + 1) k (addP i (fpO (memN i mvs) o (lk E1)) past) r (({ env := rmO E1 (consO (memN i mvs) o), mem := m } : St).dst o.dst v) K else none else none) = some res →
        (∀ v m', stepG c (memN i mvs) o (lk s.env) s.mem prK = some (v, m') → notL v = true → Gives c ops mvs s.mem i o (lk s.env) (v, true) m') → Trd c ops mvs pr K res (k + 1) (o :: r) i past s := by
      intro E1 hn1 hl hs hG
      rw [hl] at hs
      obtain ⟨hpast, hs⟩ := cond_then hs
      rw [stepG_nat hC, Option.bind_eq_some_iff] at hs
      obtain ⟨⟨v, m'⟩, hv, hs⟩ := hs
      obtain ⟨hnv, hs⟩ := cond_then hs
      have hn2 := noLent_rmO (consO (memN i mvs) o) hn1
      have key : noLent (({ env := rmO E1 (consO (memN i mvs) o), mem := m' } : St).dst o.dst v).env = true ∧ lk (({ env := rmO E1 (consO (memN i mvs) o), mem := m' } : St).dst o.dst v).env = afterL (lk s.env) (memN i mvs) o (v, true) ∧
          (({ env := rmO E1 (consO (memN i mvs) o), mem := m' } : St).dst o.dst v).mem = m' := by
        unfold afterL
        simp only [if_true]
        cases hd : o.dst with
        | none => exact ⟨hn2, by rw [updL_none, ← hl]; exact lk_rmO E1 _, rfl⟩
        | some d => exact ⟨noLent_set hn2 hnv, by rw [← hl, ← lk_rmO]; exact lk_set hn2, rfl⟩
      exact glue (v, true) m' _ _ (hG v m' hv hnv) key.2.1 key.2.2 key.1 (by simpa using hpast) (by simp) hs
    have skip : ∀ s1 : St, noLent s1.env = true → lk s1.env = lk s.env → s1.mem = s.mem → runQ c ops mvs pr (i + 1) k past r (s1.dst o.dst .unit) K = some res → Gives c ops mvs s.mem i o (lk s.env) (.unit, false) s.mem → Trd c ops mvs pr K res (k + 1) (o :: r) i past s := by
      intro s1 hn1 hl hm hs hG
      have key : noLent (s1.dst o.dst .unit).env = true ∧ lk (s1.dst o.dst .unit).env = afterL (lk s.env) (memN i mvs) o (.unit, false) ∧ (s1.dst o.dst .unit).mem = s.mem := by
        have e : afterL (lk s.env) (memN i mvs) o (.unit, false) = updL (lk s.env) o.dst (some .unit) := rfl
        rw [e]
        cases hd : o.dst with
        | none => exact ⟨hn1, by rw [updL_none]; exact hl, hm⟩
        | some d => exact ⟨noLent_set hn1 rfl, by rw [← hl]; exact lk_set hn1, hm⟩
      have hpe : ∀ past : List (Nat × (List Nat × Bool)), okPast (nthL pr i) ([], false) past = true := by
        intro past
        induction past with
        | nil => rfl
        | cons y r ih => simp only [okPast, apart_nil1, ih, Bool.and_self]
      exact glue (.unit, false) s.mem _ past hG key.2.1 key.2.2 key.1 (by simpa using hpe past) (by simp [addP]) hs
    simp only [runQ] at h
    cases hgd : o.guard with
    | none =>
      simp only [hgd] at h
      exact step s.env hn rfl h fun v m' hv hnv => by simp only [Gives, hgd]; exact ⟨trivial, hv, hnv⟩
    | some jw =>
      obtain ⟨j, want⟩ := jw
      simp only [hgd, Option.bind_eq_some_iff] at h
      obtain ⟨g, hg, gv, hgv, h⟩ := h
      have hg' : (ops[j]?).bind (·.dst) = some g := by simpa [Option.bind_eq_some_iff] using hg
      split at h
      · rename_i b
        have hn1 : ∀ b', noLent (s.set g (.dat .bool b')).env = true := fun b' => noLent_set hn rfl
        have hl1 : lk (s.set g (.dat .bool b)).env = lk s.env := by
          show lk ((g, V.dat .bool b) :: rmW s.env g) = _
          rw [lk_set hn]; exact updL_same hgv
        rcases br_cases h with ⟨rfl, h⟩ | ⟨rfl, h⟩
        · cases want with
          | true => exact step _ (hn1 true) hl1 h fun v m' hv hnv => by simp only [Gives, hgd]; exact ⟨g, _, hg', hgv, .inl ⟨rfl, trivial, hv, hnv⟩⟩
          | false => exact skip _ (hn1 true) hl1 rfl h (by simp only [Gives, hgd]; exact ⟨g, _, hg', hgv, .inr ⟨.inl rfl, trivial, trivial⟩⟩)
        · cases want with
          | true => exact skip _ (hn1 false) hl1 rfl h (by simp only [Gives, hgd]; exact ⟨g, _, hg', hgv, .inr ⟨.inl rfl, trivial, trivial⟩⟩)
          | false => exact step _ (hn1 false) hl1 h fun v m' hv hnv => by simp only [Gives, hgd]; exact ⟨g, _, hg', hgv, .inl ⟨rfl, trivial, hv, hnv⟩⟩
      · exact skip s hn rfl rfl h (by simp only [Gives, hgd]; exact ⟨g, _, hg', hgv, .inr ⟨.inr rfl, trivial, trivial⟩⟩)
      · cases h
end Go.Proofs.YtoikjekpckhgeaaGreat.Pal
end
section
/- A step looks at its operands alone. -/
namespace Go.Proofs.YtoikjekpckhgeaaGreat.Pal
open Go
variable [MonoC]
variable {c : Cx}
theorem opds_congr {ρ ρ' : Option Ty → Operand → Option V} : ∀ (l : List (Nat × Operand)), (∀ e x, x ∈ l.map (·.2) → ρ e x = ρ' e x) → opds ρ l = opds ρ' l
  | [], _ => rfl
  | (i, x) :: r, h => by
    simp only [opds, h none x (by simp), opds_congr r fun e y hy => h e y (by simp at hy ⊢; exact .inr hy)]
theorem opdL_congr {ρ ρ' : Option Ty → Operand → Option V} : ∀ (l : List Operand), (∀ e x, x ∈ l → ρ e x = ρ' e x) → opdL ρ l = opdL ρ' l
  | [], _ => rfl
  | x :: r, h => by
    simp only [opdL, h none x (by simp), opdL_congr r fun e y hy => h e y (by simp [hy])]
theorem opdT_congr {ρ ρ' : Option Ty → Operand → Option V} : ∀ (l : List Operand) (tys : List (Option Ty)), (∀ e x, x ∈ l → ρ e x = ρ' e x) → opdT ρ tys l = opdT ρ' tys l
  | [], _, _ => rfl
  | x :: r, tys, h => by
    simp only [opdT, h _ x (by simp), opdT_congr r _ fun e y hy => h e y (by simp [hy])]
theorem rdL_agree {L L' : Nat → Option V} {e : Option Ty} {x : Operand} (h : ∀ t, x = .tmp t → L t = L' t) : rdL L e x = rdL L' e x := by
  cases x with
  | tmp t => simp only [rdL, h t rfl]
  | _ => rfl
theorem takM_agree {L L' : Nat → Option V} {mv : Bool} {e : Option Ty} {x : Operand} (h : ∀ t, x = .tmp t → L t = L' t) : takM mv e L x = takM mv e L' x := by
  cases x with
  | tmp t => simp only [takM, h t rfl]
  | _ => rfl
theorem cutL_agree {L L' : Nat → Option V} (d : Option Nat) {t : Nat} (h : L t = L' t) : cutL L d t = cutL L' d t := by
  cases d with
  | none => exact h
  | some u => rw [cutL_eq, cutL_eq, h]
theorem valO_congr {α : Type} {o : Oper} {ρ ρ' : Option Ty → Operand → Option V} {m : List (Nat × V)} {K : V → Option α} (h : ∀ e x, x ∈ o.op.operands → ρ e x = ρ' e x) : valO c o ρ m K = valO c o ρ' m K := by
  obtain ⟨dst, op, ty, pos, after, guard⟩ := o
  simp only at h
  cases op with
  | call cl =>
    obtain ⟨callee, args, tys⟩ := cl
    cases callee with
    | value f => rfl
    | builtin b =>
      have h' : ∀ e x, x ∈ args.toList → ρ e x = ρ' e x := fun e x hx => h e x (by simpa [Op.operands, Call.operands] using hx)
      simp only [valO]
      split
      · rename_i x t _ hargs _
        rw [h' none x (by rw [hargs]; simp)]
      · rename_i x y hargs
        rw [h' none x (by rw [hargs]; simp), h' none y (by rw [hargs]; simp)]
      · rename_i x y hargs
        rw [h' none x (by rw [hargs]; simp), h' none y (by rw [hargs]; simp)]
      · rfl
    | invoke r m => rfl
  | makeFunc fn first caps =>
    cases fn with
    | func f =>
      simp only [valO]
      rw [opdL_congr caps.toList fun e x hx => h e x (by simp [Op.operands]; simp at hx; exact .inr hx)]
    | _ => rfl
  | build t ps =>
    simp only [valO]
    rw [opds_congr ps.toList fun e x hx => h e x (by simpa [Op.operands] using hx)]
  | slice t x lo hi mx =>
    have hx := h none x (by simp [Op.operands])
    cases lo with
    | none =>
      cases hi with
      | none => simp only [valO, hx]
      | some y => simp only [valO, hx, h none y (by simp [Op.operands])]
    | some z =>
      have hz := h none z (by simp [Op.operands])
      cases hi with
      | none => simp only [valO, hx, hz]
      | some y => simp only [valO, hx, hz, h none y (by simp [Op.operands])]
  | _ => first
    | rfl
    | (simp only [Op.operands] at h
       simp [valO, h])
theorem stepF_congr {α : Type} {mv : Bool} {o : Oper} {L L' : Nat → Option V} {m : List (Nat × V)} {K : V → Option α} (h : ∀ t, Operand.tmp t ∈ o.op.operands → L t = L' t) : stepF c mv o L m K = stepF c mv o L' m K := by
  obtain ⟨dst, op, ty, pos, after, guard⟩ := o
  simp only at h
  have hr : ∀ e x, x ∈ op.operands → rdL L e x = rdL L' e x := fun e x hx => rdL_agree fun t ht => h t (ht ▸ hx)
  have hc : ∀ d e x, x ∈ op.operands → rdL (cutL L d) e x = rdL (cutL L' d) e x := fun d e x hx => rdL_agree fun t ht => cutL_agree d (h t (ht ▸ hx))
  unfold stepF
  split
  · rename_i args tys hop
    simp only at hop; subst hop
    have hm : ∀ y, y ∈ args.toList → y ∈ (Op.call { callee := .builtin .append, args := args, argTypes := tys } : Op).operands := fun y hy => by
      have : y ∈ args := by rw [← Array.mem_toList_iff]; exact hy
      simp [Op.operands, Call.operands, this]
    split
    · rename_i x y t t2 ha _
      rw [takM_agree (L' := L') fun u hu => h u (hu ▸ hm x (by rw [ha]; simp)), hc (tmpOf mv x) (c.ty t) y (hm y (by rw [ha]; simp))]
    · rfl
  · rename_i x hop
    simp only at hop; subst hop
    rw [takM_agree (L' := L') fun t ht => h t (ht ▸ by simp [Op.operands])]
  · rename_i x hop
    simp only at hop; subst hop
    rw [takM_agree (L' := L') fun t ht => h t (ht ▸ by simp [Op.operands])]
  · rename_i t n parts hop
    simp only at hop; subst hop
    rw [opds_congr parts.toList fun e x hx => hr e x (by simpa [Op.operands] using hx)]
  · exact valO_congr hr
theorem stepG_congr {α : Type} {mv : Bool} {o : Oper} {L L' : Nat → Option V} {m : List (Nat × V)} {K : V → List (Nat × V) → Option α} (h : ∀ t, Operand.tmp t ∈ o.op.operands → L t = L' t) : stepG c mv o L m K = stepG c mv o L' m K := by
  obtain ⟨dst, op, ty, pos, after, guard⟩ := o
  have h0 := h
  simp only at h
  have hr : ∀ e x, x ∈ op.operands → rdL L e x = rdL L' e x := fun e x hx => rdL_agree fun t ht => h t (ht ▸ hx)
  have hc : ∀ d e x, x ∈ op.operands → rdL (cutL L d) e x = rdL (cutL L' d) e x := fun d e x hx => rdL_agree fun t ht => cutL_agree d (h t (ht ▸ hx))
  unfold stepG
  split
  · rename_i f args tys hop
    simp only at hop; subst hop
    rw [hr none f (by simp [Op.operands, Call.operands])]
    congr 1; funext fv
    split
    · have e : takLM mv (tys.toList.map c.ty) L args.toList = takLM mv (tys.toList.map c.ty) L' args.toList := by
        cases ha : args.toList with
        | nil => rfl
        | cons x r =>
          have hm : ∀ y, y ∈ x :: r → y ∈ (Op.call { callee := .value f, args := args, argTypes := tys } : Op).operands := fun y hy => by
            have : y ∈ args := by rw [← Array.mem_toList_iff, ha]; exact hy
            simp [Op.operands, Call.operands, this]
          simp only [takLM]
          rw [takM_agree (L' := L') fun t ht => h t (ht ▸ hm x (by simp))]
          rw [opdT_congr r _ fun e y hy => hc (tmpOf mv x) e y (hm y (by simp [hy]))]
      rw [e]
    · rfl
  · rename_i t a x hop
    simp only at hop; subst hop
    rw [hr none a (by simp [Op.operands]), takM_agree (L' := L') fun u hu => h u (hu ▸ by simp [Op.operands])]
  · rename_i t a hop
    have e : rdL L none a = rdL L' none a := hr none a (by simp only at hop; subst hop; simp [Op.operands])
    cases mv with
    | true => simp only [cond_true, e]
    | false => simp only [cond_false]; exact stepF_congr h0
  · exact stepF_congr h0
theorem refsAt_congr {L L' : Nat → Option V} {x : Operand} (h : ∀ t, x = .tmp t → L t = L' t) : refsAt L x = refsAt L' x := by
  cases x with
  | tmp t => simp only [refsAt, h t rfl]
  | _ => rfl
theorem fpO_congr {mv : Bool} {o : Oper} {L L' : Nat → Option V} (h : ∀ t, Operand.tmp t ∈ o.op.operands → L t = L' t) : fpO mv o L = fpO mv o L' := by
  obtain ⟨dst, op, ty, pos, after, guard⟩ := o
  simp only at h
  unfold fpO
  split
  · rename_i t a hop
    simp only at hop; subst hop
    rw [refsAt_congr (L' := L') fun t ht => h t (ht ▸ by simp [Op.operands])]
  · rename_i t a x hop
    simp only at hop; subst hop
    rw [refsAt_congr (L' := L') fun t ht => h t (ht ▸ by simp [Op.operands])]
  · rename_i f args tys hop
    simp only at hop; subst hop
    have e : args.toList.flatMap (refsAt L) = args.toList.flatMap (refsAt L') := by
      rw [List.flatMap_def, List.flatMap_def]
      congr 1
      refine List.map_congr_left fun y hy => refsAt_congr fun t ht => h t (ht ▸ ?_)
      have : y ∈ args := by rw [← Array.mem_toList_iff]; exact hy
      simp [Op.operands, Call.operands, this]
    rw [refsAt_congr (L' := L') fun t ht => h t (ht ▸ by simp [Op.operands, Call.operands]), e]
  · rfl
/-! ### A step meets no more of memory than it names -/
theorem copy_refs_sub : ∀ (v : V) (k : Nat), k ∈ v.copy.refs → k ∈ v.refs
  | .pr a b, k, h => by
    have hm : ∀ x y : V, k ∈ (mkPr x y).refs → k ∈ x.refs ∨ k ∈ y.refs := by
      intro x y h
      unfold mkPr at h
      split at h
      · simp [V.refs] at h
      · simpa [V.refs] using h
    have := hm _ _ (show k ∈ (mkPr a.copy b.copy).refs from h)
    simp only [V.refs, List.mem_append]
    exact this.imp (copy_refs_sub a k) (copy_refs_sub b k)
  | .tup2 a b, k, h => by
    have h : k ∈ a.copy.refs ++ b.copy.refs := h
    simp only [V.refs, List.mem_append] at h ⊢
    exact h.imp (copy_refs_sub a k) (copy_refs_sub b k)
  | .tup3 a b d, k, h => by
    have h : k ∈ a.copy.refs ++ b.copy.refs ++ d.copy.refs := h
    simp only [V.refs, List.mem_append] at h ⊢
    exact h.imp (fun h => h.imp (copy_refs_sub a k) (copy_refs_sub b k)) (copy_refs_sub d k)
  | .own e xs, k, h => by cases h
  | .raw e xs, k, h => by cases h
  | .dat _ _, k, h => h
  | .ref _ _, k, h => h
  | .nilp, k, h => h
  | .ip _ _, k, h => h
  | .fn _ _, k, h => h
  | .lent _, k, h => h
  | .unit, k, h => h
  | .any, k, h => h
  | .view _ _ _ _ _ _, k, h => h
theorem copyO_refs {v u : V} (h : v.copyO = some u) (k : Nat) (hk : k ∈ u.refs) : k ∈ v.refs := by
  have : u = v.copy := by
    cases v <;> simp [V.copyO] at h <;> exact h.symm
  subst this
  exact copy_refs_sub v k hk
theorem cV_refs {e : Option Ty} {y : Value} {v : V} (h : cV e y = some v) : v.refs = [] := by
  unfold cV at h
  split at h
  · injection h with h; subst h; rfl
  · injection h with h; subst h; rfl
  · injection h with h; subst h; rfl
  · injection h with h; subst h; rfl
  · split at h
    · injection h with h; subst h; rfl
    · cases h
  · cases h
theorem rdL_refs {L : Nat → Option V} {e : Option Ty} {x : Operand} {v : V} (h : rdL L e x = some v) (k : Nat) (hk : k ∈ v.refs) : k ∈ refsAt L x := by
  cases x with
  | tmp t =>
    simp only [rdL, Option.bind_eq_some_iff] at h
    obtain ⟨u, hu, h⟩ := h
    simp only [refsAt, hu]
    exact copyO_refs h k hk
  | const y => rw [cV_refs (h : cV e y = some v)] at hk; cases hk
  | func f => injection h with h; subst h; cases hk
  | global g => cases h
theorem refsAt_cut {L : Nat → Option V} {d : Option Nat} {x : Operand} {k : Nat} (hk : k ∈ refsAt (cutL L d) x) : k ∈ refsAt L x := by
  cases x with
  | tmp t =>
    cases d with
    | none => exact hk
    | some u =>
      simp only [refsAt, cutL_eq] at hk ⊢
      by_cases e : u = t
      · rw [if_pos e] at hk; cases hk
      · rw [if_neg e] at hk; exact hk
  | _ => exact hk
theorem takM_refs {mv : Bool} {L : Nat → Option V} {e : Option Ty} {x : Operand} {v : V} (h : takM mv e L x = some v) (k : Nat) (hk : k ∈ v.refs) : k ∈ refsAt L x := by
  cases x with
  | tmp t =>
    cases mv with
    | true =>
      simp only [takM, cond_true, Option.bind_eq_some_iff, Option.map_eq_some_iff] at h
      obtain ⟨u, hu, _, _, rfl⟩ := h
      simp only [refsAt, hu]; exact hk
    | false =>
      simp only [takM, cond_false] at h
      exact rdL_refs (e := e) (x := .tmp t) (show rdL L e (.tmp t) = some v from h) k hk
  | const y => rw [cV_refs (h : cV e y = some v)] at hk; cases hk
  | func f => injection h with h; subst h; cases hk
  | global g => cases h
theorem opdT_refs {L L' : Nat → Option V} (hL : ∀ x k, k ∈ refsAt L' x → k ∈ refsAt L x) : ∀ (l : List Operand) (tys : List (Option Ty)) (vs : List V), opdT (rdL L') tys l = some vs → ∀ k ∈ vs.flatMap V.refs, k ∈ l.flatMap (refsAt L)
  | [], _, vs, h, k, hk => by
    simp only [opdT, Option.some.injEq] at h; subst h; cases hk
  | x :: r, tys, vs, h, k, hk => by
    simp only [opdT, Option.bind_eq_some_iff, Option.some.injEq] at h
    obtain ⟨v, hv, us, hus, rfl⟩ := h
    simp only [List.flatMap_cons, List.mem_append] at hk ⊢
    exact hk.imp (fun h => hL x k (rdL_refs hv k h)) (opdT_refs hL r _ us hus k)
theorem takLM_refs {mv : Bool} {tys : List (Option Ty)} {L : Nat → Option V} {l : List Operand} {vs : List V} (h : takLM mv tys L l = some vs) : ∀ k ∈ vs.flatMap V.refs, k ∈ l.flatMap (refsAt L) := by
  cases l with
  | nil => simp only [takLM, Option.some.injEq] at h; subst h; intro k hk; cases hk
  | cons x r =>
    simp only [takLM, Option.bind_eq_some_iff, Option.some.injEq] at h
    obtain ⟨v, hv, us, hus, rfl⟩ := h
    intro k hk
    simp only [List.flatMap_cons, List.mem_append] at hk ⊢
    exact hk.imp (takM_refs hv k) (opdT_refs (fun x k hk => refsAt_cut hk) r _ us hus k)
theorem canon_keys : ∀ (vs : List V) (n : Nat) (as' : List V) (l : List (Nat × List Step)), canon n vs = some (as', l) → ∀ k ∈ l.map (·.1), k ∈ vs.flatMap V.refs
  | [], n, as', l, h, k, hk => by
    simp only [canon, Option.some.injEq, Prod.mk.injEq] at h
    obtain ⟨_, rfl⟩ := h; cases hk
  | v :: r, n, as', l, h, k, hk => by
    simp only [canon, Option.bind_eq_some_iff, Option.some.injEq, Prod.mk.injEq] at h
    obtain ⟨x, hx, y, hy, rfl, rfl⟩ := h
    simp only [List.map_append, List.mem_append, List.flatMap_cons] at hk ⊢
    refine hk.imp (fun h => ?_) (canon_keys r _ y.1 y.2 hy k)
    unfold canon1 at hx
    split at hx
    · injection hx with hx; subst hx; simpa [V.refs] using h
    · injection hx with hx; subst hx; simpa [V.refs] using h
    · obtain ⟨_, hx⟩ := cond_then hx
      injection hx with hx; subst hx; cases h
theorem contents_agree {m m' : List (Nat × V)} : ∀ (l : List (Nat × List Step)), (∀ k ∈ l.map (·.1), lk m k = lk m' k) → contents m l = contents m' l
  | [], _ => rfl
  | (k, []) :: r, h => by
    simp only [contents, h k (by simp), contents_agree r fun q hq => h q (by simp only [List.map_cons, List.mem_cons]; exact .inr hq)]
  | (k, _ :: _) :: r, _ => rfl
theorem lk_setM (m : List (Nat × V)) (k : Nat) (u : V) (q : Nat) : lk (setM m k u) q = if k = q then some u else lk m q := by
  unfold setM
  rw [lk_cons]
  by_cases h : k = q
  · rw [if_pos h, if_pos h]
  · rw [if_neg h, if_neg h, lk_rm_other h]
theorem giveBack_agree : ∀ (l : List (Nat × List Step)) (m m' m1 : List (Nat × V)) (us rest : List V), (∀ k ∈ l.map (·.1), lk m k = lk m' k) → giveBack m l us = some (m1, rest) →
    ∃ m1', giveBack m' l us = some (m1', rest) ∧ ∀ q, (lk m q = lk m' q → lk m1 q = lk m1' q) ∧ (q ∉ l.map (·.1) → lk m1 q = lk m q ∧ lk m1' q = lk m' q)
  | [], m, m', m1, us, rest, _, h => by
    simp only [giveBack, Option.some.injEq, Prod.mk.injEq] at h
    obtain ⟨rfl, rfl⟩ := h
    exact ⟨m', rfl, fun q => ⟨id, fun _ => ⟨rfl, rfl⟩⟩⟩
  | (k, []) :: r, m, m', m1, [], rest, _, h => by simp [giveBack] at h
  | (k, _ :: _) :: r, m, m', m1, us, rest, _, h => by cases us <;> simp [giveBack] at h
  | (k, []) :: r, m, m', m1, u :: us, rest, hk, h => by
    simp only [giveBack, Option.bind_eq_some_iff] at h
    obtain ⟨v0, hv0, h⟩ := h
    obtain ⟨hb, h⟩ := cond_then h
    have h0 : lk m k = lk m' k := hk k (by simp)
    obtain ⟨m1', h1, h2⟩ := giveBack_agree r (setM m k u) (setM m' k u) m1 us rest (fun q hq => by
      rw [lk_setM, lk_setM, hk q (by simp only [List.map_cons, List.mem_cons]; exact .inr hq)]) h
    refine ⟨m1', ?_, fun q => ⟨fun hq => ?_, fun hq => ?_⟩⟩
    · simp only [giveBack, ← h0, hv0, Option.bind_some, hb, cond_true]; exact h1
    · exact (h2 q).1 (by rw [lk_setM, lk_setM, hq])
    · simp only [List.map_cons, List.mem_cons, not_or] at hq
      obtain ⟨a, b⟩ := (h2 q).2 hq.2
      rw [lk_setM, if_neg (Ne.symm hq.1)] at a b
      exact ⟨a, b⟩
theorem valO_mem {α : Type} {o : Oper} {ρ : Option Ty → Operand → Option V} {m m' : List (Nat × V)} {K : V → Option α} (h : ∀ t a, o.op ≠ .load t a) : valO c o ρ m K = valO c o ρ m' K := by
  obtain ⟨dst, op, ty, pos, after, guard⟩ := o
  cases op with
  | load t a => exact absurd rfl (h t a)
  | makeFunc fn first caps => cases fn <;> rfl
  | call cl =>
    obtain ⟨callee, args, tys⟩ := cl
    cases callee <;> rfl
  | _ => rfl
theorem valO_load {o : Oper} {t : Nat} {a : Operand} {L : Nat → Option V} {m m' : List (Nat × V)} (ho : o.op = .load t a) (h : ∀ k ∈ refsAt L a, lk m k = lk m' k) : valO c o (rdL L) m some = valO c o (rdL L) m' some := by
  obtain ⟨dst, op, ty, pos, after, guard⟩ := o
  simp only at ho; subst ho
  simp only [valO]
  congr 1; funext ly
  cases hv : rdL L none a with
  | none => rfl
  | some av =>
    simp only [Option.bind_some]
    cases av with
    | ref k p =>
      simp only
      rw [h k (rdL_refs hv k (by simp [V.refs]))]
    | _ => rfl
theorem stepF_mem {mv : Bool} {o : Oper} {L : Nat → Option V} {m m' : List (Nat × V)} (h : ∀ k ∈ (fpO mv o L).1, lk m k = lk m' k) : stepF c mv o L m some = stepF c mv o L m' some := by
  unfold stepF
  split
  · rfl
  · rfl
  · rfl
  · rfl
  · by_cases hl : ∃ t a, o.op = .load t a
    · obtain ⟨t, a, hl⟩ := hl
      refine valO_load hl fun k hk => h k ?_
      unfold fpO; rw [hl]; exact hk
    · exact valO_mem fun t a e => hl ⟨t, a, e⟩
theorem stepG_local {P : Program} (hC : ∀ f e, lkN c.fns f = some e → CallOK P f e) {mv : Bool} {o : Oper} {L : Nat → Option V} {m m' m1 : List (Nat × V)} {v : V} (h : stepG c mv o L m prK = some (v, m1)) (hk : ∀ k ∈ (fpO mv o L).1, lk m k = lk m' k) :
    ∃ m1', stepG c mv o L m' prK = some (v, m1') ∧ (∀ k ∈ (fpO mv o L).1, lk m1' k = lk m1 k) ∧ (∀ k, ¬ ((fpO mv o L).2 = true ∧ k ∈ (fpO mv o L).1) → lk m1 k = lk m k ∧ lk m1' k = lk m' k) := by
  have hk0 := hk
  unfold stepG at h
  split at h
  · rename_i f args tys hop
    have hfp : fpO mv o L = (refsAt L f ++ args.toList.flatMap (refsAt L), true) := by unfold fpO; rw [hop]
    rw [hfp] at hk ⊢
    simp only [Option.bind_eq_some_iff] at h
    obtain ⟨fv, hfv, h⟩ := h
    split at h
    · rename_i g caps
      simp only [Option.bind_eq_some_iff] at h
      obtain ⟨vs, hvs, e, he, ar, har, h⟩ := h
      obtain ⟨hd, h⟩ := cond_then h
      simp only [Option.bind_eq_some_iff] at h
      obtain ⟨objs, hobjs, h⟩ := h
      obtain ⟨hnr, h⟩ := cond_then h
      rw [(hC _ e he).nat] at h
      obtain ⟨p, hp, h⟩ := Option.bind_eq_some_iff.1 h
      simp only [Option.bind_eq_some_iff] at h
      obtain ⟨m2, hm2, h⟩ := h
      obtain ⟨hb, h⟩ := cond_then h
      injection h with h; injection h with h1 h2
      subst h1; subst h2
      have keys : ∀ k ∈ ar.2.map (·.1), k ∈ refsAt L f ++ args.toList.flatMap (refsAt L) := fun k hk => by
        have := canon_keys _ _ ar.1 ar.2 har k hk
        simp only [List.flatMap_append, List.mem_append] at this ⊢
        rcases this with h | h
        · exact .inr (takLM_refs hvs k h)
        · refine .inl (rdL_refs hfv k ?_)
          simp only [List.mem_flatMap, List.mem_map] at h
          obtain ⟨x, ⟨y, hy, rfl⟩, hx⟩ := h
          simp only [V.refs, List.mem_singleton] at hx
          subst hx
          exact List.mem_map.2 ⟨y, hy, rfl⟩
      obtain ⟨m2', g1, g2⟩ := giveBack_agree ar.2 m m' m2.1 p.2 m2.2 (fun k hq => hk k (keys k hq)) hm2
      refine ⟨m2', ?_, fun k hq => ((g2 k).1 (hk k hq)).symm, fun k hq => (g2 k).2 fun hq' => hq ⟨rfl, keys k hq'⟩⟩
      unfold stepG
      rw [hop]
      simp only [hfv, Option.bind_some, hvs, he, har, hd, cond_true, ← contents_agree ar.2 (fun k hq => hk k (keys k hq)), hobjs, hnr]
      rw [(hC _ e he).nat, hp]
      simp only [Option.bind_some, g1, hb, cond_true]
    · cases h
  · rename_i t a x hop
    have hfp : fpO mv o L = (refsAt L a, true) := by unfold fpO; rw [hop]
    rw [hfp] at hk ⊢
    simp only [Option.bind_eq_some_iff] at h
    obtain ⟨ly, hly, av, hav, u, hu, h⟩ := h
    split at h
    · rename_i k p
      obtain ⟨hb, h⟩ := cond_then h
      simp only [Option.bind_eq_some_iff] at h
      obtain ⟨w, hw, w', hw', h⟩ := h
      injection h with h; injection h with h1 h2
      subst h1; subst h2
      have hkk : k ∈ refsAt L a := rdL_refs hav k (by simp [V.refs])
      refine ⟨setM m' k w', ?_, fun q hq => ?_, fun q hq => ?_⟩
      · unfold stepG
        rw [hop]
        simp only [hly, Option.bind_some, hav, hu, hb, cond_true, ← hk k hkk, hw, hw']
      · rw [lk_setM, lk_setM, hk q hq]
      · have : k ≠ q := fun e => hq ⟨rfl, e ▸ hkk⟩
        rw [lk_setM, lk_setM, if_neg this, if_neg this]; exact ⟨rfl, rfl⟩
    · cases h
  · rename_i t a hop
    cases mv with
    | true =>
      have hfp : fpO true o L = (refsAt L a, true) := by unfold fpO; rw [hop]
      rw [hfp] at hk ⊢
      simp only [cond_true, Option.bind_eq_some_iff] at h
      obtain ⟨ly, hly, av, hav, h⟩ := h
      split at h
      · rename_i k p
        simp only [Option.bind_eq_some_iff] at h
        obtain ⟨w, hw, u, hu, h⟩ := h
        obtain ⟨hb, h⟩ := cond_then h
        simp only [Option.bind_eq_some_iff] at h
        obtain ⟨w', hw', h⟩ := h
        injection h with h; injection h with h1 h2
        subst h1; subst h2
        have hkk : k ∈ refsAt L a := rdL_refs hav k (by simp [V.refs])
        refine ⟨setM m' k w', ?_, fun q hq => ?_, fun q hq => ?_⟩
        · unfold stepG
          rw [hop]
          simp only [cond_true, hly, Option.bind_some, hav, ← hk k hkk, hw, hu, hb, hw']
        · rw [lk_setM, lk_setM, hk q hq]
        · have : k ≠ q := fun e => hq ⟨rfl, e ▸ hkk⟩
          rw [lk_setM, lk_setM, if_neg this, if_neg this]; exact ⟨rfl, rfl⟩
      · cases h
    | false =>
      simp only [cond_false] at h
      rw [stepF_nat] at h
      obtain ⟨v', hv, h⟩ := Option.bind_eq_some_iff.1 h
      injection h with h; injection h with h1 h2
      subst h1; subst h2
      refine ⟨m', ?_, fun k hq => (hk k hq).symm, fun k _ => ⟨rfl, rfl⟩⟩
      have : stepG c false o L m' prK = stepF c false o L m' fun v => prK v m' := by
        unfold stepG
        rw [hop]; rfl
      rw [this, stepF_nat, ← stepF_mem hk0, hv]; rfl
  · rename_i hn1 hn2 hn3
    rw [stepF_nat] at h
    obtain ⟨v', hv, h⟩ := Option.bind_eq_some_iff.1 h
    injection h with h; injection h with h1 h2
    subst h1; subst h2
    refine ⟨m', ?_, fun k hq => (hk k hq).symm, fun k _ => ⟨rfl, rfl⟩⟩
    have : stepG c mv o L m' prK = stepF c mv o L m' fun v => prK v m' := by
      unfold stepG
      split
      · rename_i f args tys e; exact absurd e (hn1 _ _ _)
      · rename_i t a x e; exact absurd e (hn2 _ _ _)
      · rename_i t a e; exact absurd e (hn3 _ _)
      · rfl
    rw [this, stepF_nat, ← stepF_mem hk0, hv]; rfl
end Go.Proofs.YtoikjekpckhgeaaGreat.Pal
end
section
/- Regions whose order is free: any order comes to the same. -/
namespace Go.Proofs.YtoikjekpckhgeaaGreat.Pal
open Go
variable [MonoC]
variable {P : Program} {X Y : Nat → Nat → Prop} {G0 G G' : Gh} {w0 w w' : World} {s : St} {a : Act} {c : Cx} {Q : Exit → Act → World → Prop}

def dstAt (ops : Array Oper) (j : Nat) : Option Nat := (ops[j]?).bind (·.dst)
def onJ (ops : Array Oper) (j i : Nat) : Bool := match ops[j]? with
  | some p => onB p i
  | none => false
/-- A variable that may be made early or late. -/
def alOk (ops : Array Oper) (mvs : List Nat) (n : Nat) (o : Oper) : Bool := match o.op, o.dst, o.guard with
  | .alloc _, some d, none => (List.range n).all fun j => (dstAt ops j != some d) && !(memN j mvs) && (match ops[j]? with | some p => !((p.looksAt ops).contains d) | none => true)
  | _, _, _ => false
/-- The first n steps may come in any order that their edges allow; the others stand behind all before them. What a step takes, nobody looks at behind it. -/
def okFree (ops : Array Oper) (mvs : List Nat) (n : Nat) : Bool :=
  Nat.ble n ops.size && (List.range ops.size).all fun i => match ops[i]? with
    | none => false
    | some o => o.after.all (fun e => !(Region.binds .any e) || Nat.blt e.on i) &&
      (if i < n then (List.range n).all fun j => Nat.beq i j || ((match dstAt ops j with
          | some d => (!((o.looksAt ops).contains d) || (Nat.blt j i && onB o j) || (Nat.blt i j && onJ ops j i)) && (o.dst != some d)
          | none => true) && (match consO (memN i mvs) o, ops[j]? with
          | some t, some p => !((p.looksAt ops).contains t) || (Nat.blt j i && onB o j)
          | _, _ => true))
       else ((List.range i).all fun j => onB o j) || (Nat.beq i n && alOk ops mvs n o))
/-- What a step took. -/
def consR (ops : Array Oper) (mvs : List Nat) (xs : Nat → V × Bool) (j : Nat) : Option Nat :=
  match ops[j]? with
  | some o => if (xs j).2 then consO (memN j mvs) o else none
  | none => none
theorem afterL_other {L : Nat → Option V} {mv : Bool} {o : Oper} {x : V × Bool} {t : Nat} (h1 : o.dst ≠ some t) (h2 : (if x.2 then consO mv o else none) ≠ some t) : afterL L mv o x t = L t := by
  unfold afterL
  simp only [updL, if_neg h1]
  cases hc : (if x.2 then consO mv o else none) with
  | none => rfl
  | some u =>
    rw [cutL_eq, if_neg]
    intro e; subst e; exact h2 hc
theorem afterL_dst {L : Nat → Option V} {mv : Bool} {o : Oper} {x : V × Bool} {t : Nat} (h1 : o.dst = some t) : afterL L mv o x t = some x.1 := by
  unfold afterL; simp [updL, h1]
theorem afterL_cut {L : Nat → Option V} {mv : Bool} {o : Oper} {x : V × Bool} {t : Nat} (h1 : o.dst ≠ some t) (h2 : (if x.2 then consO mv o else none) = some t) : afterL L mv o x t = none := by
  unfold afterL
  simp only [updL, if_neg h1, h2, cutL_eq, if_true]
section
variable {ops : Array Oper} {mvs : List Nat} {pr : List (List Nat)} {Ls : Nat → Nat → Option V} {ms : Nat → List (Nat × V)} {xs : Nat → V × Bool} {i n : Nat}
theorem Tr.one (h : Tr c ops mvs pr Ls ms xs i n) {j : Nat} (h1 : i ≤ j) (h2 : j < n) : ∃ o, ops[j]? = some o ∧ dstAt ops j = o.dst ∧ consR ops mvs xs j = (if (xs j).2 then consO (memN j mvs) o else none) ∧ Ls (j + 1) = afterL (Ls j) (memN j mvs) o (xs j) := by
  obtain ⟨o, m1, h3, _, _, h5⟩ := h.step j h1 h2
  exact ⟨o, h3, by simp [dstAt, h3], by simp [consR, h3], h5⟩
theorem Tr.keep (h : Tr c ops mvs pr Ls ms xs i n) {t a : Nat} (ha : i ≤ a) : ∀ b, a ≤ b → b ≤ n → (∀ j, a ≤ j → j < b → dstAt ops j ≠ some t ∧ consR ops mvs xs j ≠ some t) → Ls b t = Ls a t
  | 0, hab, _, _ => by have : a = 0 := by omega
                       subst this; rfl
  | b + 1, hab, hbn, hj => by
    by_cases e : a = b + 1
    · subst e; rfl
    · rw [← Tr.keep h ha b (by omega) (by omega) fun j h1 h2 => hj j h1 (by omega)]
      obtain ⟨o, h3, h4, h5, h6⟩ := h.one (j := b) (by omega) (by omega)
      have := hj b (by omega) (by omega)
      rw [h4, h5] at this
      rw [h6]; exact afterL_other this.1 this.2
theorem Tr.at_dst (h : Tr c ops mvs pr Ls ms xs i n) {j t : Nat} (h1 : i ≤ j) (h2 : j < n) (hd : dstAt ops j = some t) : Ls (j + 1) t = some (xs j).1 := by
  obtain ⟨o, h3, h4, h5, h6⟩ := h.one h1 h2
  rw [h6]; exact afterL_dst (h4 ▸ hd)
theorem Tr.at_cut (h : Tr c ops mvs pr Ls ms xs i n) {j t : Nat} (h1 : i ≤ j) (h2 : j < n) (hc : consR ops mvs xs j = some t) (hd : dstAt ops j ≠ some t) : Ls (j + 1) t = none := by
  obtain ⟨o, h3, h4, h5, h6⟩ := h.one h1 h2
  rw [h6]; exact afterL_cut (h4 ▸ hd) (h5 ▸ hc)
/-- What is gone stays so. -/
theorem Tr.gone (h : Tr c ops mvs pr Ls ms xs i n) {t a : Nat} (ha : i ≤ a) (hg : Ls a t = none) : ∀ b, a ≤ b → b ≤ n → (∀ j, a ≤ j → j < b → dstAt ops j ≠ some t) → Ls b t = none
  | 0, hab, _, _ => by have : a = 0 := by omega
                       subst this; exact hg
  | b + 1, hab, hbn, hj => by
    by_cases e : a = b + 1
    · subst e; exact hg
    · have ih := Tr.gone h ha hg b (by omega) (by omega) fun j h1 h2 => hj j h1 (by omega)
      obtain ⟨o, h3, h4, h5, h6⟩ := h.one (j := b) (by omega) (by omega)
      have hd := hj b (by omega) (by omega)
      rw [h4] at hd
      rw [h6]
      by_cases e : (if (xs b).2 then consO (memN b mvs) o else none) = some t
      · exact afterL_cut hd e
      · rw [afterL_other hd e]; exact ih
/-- A step turns a place of memory. -/
def wM (mvs : List Nat) (ops : Array Oper) (Ls : Nat → Nat → Option V) (xs : Nat → V × Bool) (j k : Nat) : Prop := (fpT mvs ops Ls xs j).2 = true ∧ k ∈ (fpT mvs ops Ls xs j).1
theorem Gives.cases {m m' : List (Nat × V)} {j : Nat} {o : Oper} {L : Nat → Option V} {x : V × Bool} (h : Gives c ops mvs m j o L x m') : (x.2 = true ∧ stepG c (memN j mvs) o L m prK = some (x.1, m') ∧ notL x.1 = true) ∨ (x = (.unit, false) ∧ m' = m) := by
  unfold Gives at h
  split at h
  · exact .inl h
  · obtain ⟨g, gv, _, _, h | h⟩ := h
    · exact .inl h.2
    · exact .inr h.2
theorem Tr.memStep (hC : ∀ f e, lkN c.fns f = some e → CallOK P f e) (h : Tr c ops mvs pr Ls ms xs i n) {j k : Nat} (h1 : i ≤ j) (h2 : j < n) (hk : ¬ wM mvs ops Ls xs j k) : lk (ms (j + 1)) k = lk (ms j) k := by
  obtain ⟨o, m1, h3, h4, h5, _⟩ := h.step j h1 h2
  rw [← h5]
  rcases h4.cases with ⟨g1, g2, _⟩ | ⟨g1, g2⟩
  · obtain ⟨_, _, _, g3⟩ := stepG_local hC g2 (m' := ms j) fun _ _ => rfl
    refine (g3 k fun hh => hk ?_).1
    unfold wM fpT
    rw [h3]; simp only [g1, if_true]; exact hh
  · rw [g2]
theorem Tr.memKeep (hC : ∀ f e, lkN c.fns f = some e → CallOK P f e) (h : Tr c ops mvs pr Ls ms xs i n) {k a : Nat} (ha : i ≤ a) : ∀ b, a ≤ b → b ≤ n → (∀ j, a ≤ j → j < b → ¬ wM mvs ops Ls xs j k) → lk (ms b) k = lk (ms a) k
  | 0, hab, _, _ => by have : a = 0 := by omega
                       subst this; rfl
  | b + 1, hab, hbn, hj => by
    by_cases e : a = b + 1
    · subst e; rfl
    · rw [h.memStep hC (by omega) (by omega) (hj b (by omega) (by omega))]
      exact Tr.memKeep hC h ha b (by omega) (by omega) fun j h1 h2 => hj j h1 (by omega)
end
/-- The last one that is such. -/
theorem last_ex (p : Nat → Prop) : ∀ n, (∀ j, j < n → ¬ p j) ∨ ∃ j, j < n ∧ p j ∧ ∀ i, i < n → p i → i ≤ j
  | 0 => .inl fun j h => by omega
  | n + 1 => by
    by_cases h : p n
    · exact .inr ⟨n, by omega, h, fun i hi _ => by omega⟩
    · rcases last_ex p n with h1 | ⟨j, h1, h2, h3⟩
      · refine .inl fun j hj => ?_
        by_cases e : j = n
        · subst e; exact h
        · exact h1 j (by omega)
      · refine .inr ⟨j, by omega, h2, fun i hi hp => ?_⟩
        by_cases e : i = n
        · subst e; exact absurd hp h
        · exact h3 i (by omega) hp
theorem apart_meet {pr : List Nat} {fp fq : List Nat × Bool} {j k : Nat} (h : apart pr fp j fq = true) (h1 : k ∈ fp.1) (h2 : k ∈ fq.1) (h3 : fp.2 = true ∨ fq.2 = true) : j ∈ pr := by
  simp only [apart, Bool.or_eq_true, Bool.not_eq_true', Bool.or_eq_false_iff] at h
  rcases h with (h | h) | h
  · rcases h3 with h3 | h3
    · rw [h3] at h; cases h.1
    · rw [h3] at h; cases h.2
  · exact absurd h2 ((disj_iff _ _).1 h k h1)
  · exact (memN_iff _ _).1 h
/-- What is told of who stands behind whom holds. -/
def okPre (ops : Array Oper) (pr : List (List Nat)) : Bool := (List.range ops.size).all fun i => match ops[i]? with
  | none => false
  | some o => (nthL pr i).all fun j => o.after.any fun e => Region.binds .any e && (Nat.beq e.on j || memN j (nthL pr e.on))
theorem okPre_spec {ops : Array Oper} {pr : List (List Nat)} (h : okPre ops pr = true) {i j : Nat} {o : Oper} (ho : ops[i]? = some o) (hj : j ∈ nthL pr i) : ∃ e ∈ o.after, Region.binds .any e = true ∧ (e.on = j ∨ j ∈ nthL pr e.on) := by
  have := List.all_eq_true.1 h i (List.mem_range.2 (Array.getElem?_eq_some_iff.1 ho).1)
  simp only [ho] at this
  have := List.all_eq_true.1 this j hj
  obtain ⟨e, he, hb⟩ := Array.any_eq_true'.1 this
  simp only [Bool.and_eq_true, Bool.or_eq_true] at hb
  exact ⟨e, he, hb.1, hb.2.imp (fun h => Nat.eq_of_beq_eq_true h) (fun h => (memN_iff _ _).1 h)⟩
end Go.Proofs.YtoikjekpckhgeaaGreat.Pal
end
section
/- Regions whose order is free: one step, at any time. -/
namespace Go.Proofs.YtoikjekpckhgeaaGreat.Pal
open Go
variable [MonoC]
variable {P : Program} {X Y : Nat → Nat → Prop} {G0 G G' : Gh} {w0 w w' : World} {s : St} {a : Act} {c : Cx} {Q : Exit → Act → World → Prop}

theorem canon_plain : ∀ (vs : List V) (n : Nat), vs.all (fun v => v.refs.isEmpty) = true → canon n vs = some (vs, [])
  | [], _, _ => rfl
  | v :: r, n, h => by
    simp only [List.all_cons, Bool.and_eq_true] at h
    have h1 : canon1 n v = some (v, []) := by
      have hr := h.1
      cases v with
      | ref k p => simp [V.refs] at hr
      | fn f caps =>
        have : caps = [] := by simpa [V.refs] using hr
        subst this; rfl
      | _ => simp only [canon1, hr, cond_true]
    simp only [canon, h1, Option.bind_some, List.length_nil, Nat.add_zero, canon_plain r n h.2, List.nil_append]
theorem takM_tak {mv : Bool} {e : Option Ty} {x : Operand} {E : List (Nat × V)} {m : List (Nat × V)} {v : V} (h : takM mv e (lk E) x = some v) : tak mv e ⟨E, m⟩ x = some (v, ⟨rmO E (tmpOf mv x), m⟩) := by
  cases x with
  | tmp t =>
    cases mv with
    | true =>
      simp only [takM, cond_true, Option.bind_eq_some_iff, Option.map_eq_some_iff] at h
      obtain ⟨u, hu, c, hc, rfl⟩ := h
      simp only [tak, cond_true, hu, hc, Option.bind_some, Option.map_some]; rfl
    | false =>
      simp only [takM, cond_false] at h
      simp only [tak, cond_false, h, Option.map_some]; rfl
  | const y => simp only [takM] at h; simp only [tak, h, Option.map_some]; rfl
  | func f => simp only [takM, Option.some.injEq] at h; subst h; rfl
  | global g => simp [takM] at h
theorem opdT_eq {ρ ρ' : Option Ty → Operand → Option V} (h : ∀ e x, ρ e x = ρ' e x) (tys : List (Option Ty)) (l : List Operand) : opdT ρ tys l = opdT ρ' tys l := opdT_congr l tys fun e x _ => h e x
theorem takLM_takL {mv : Bool} {tys : List (Option Ty)} {l : List Operand} {E m : List (Nat × V)} {vs : List V} (h : takLM mv tys (lk E) l = some vs) :
    takL mv tys ⟨E, m⟩ l = some (vs, ⟨rmO E (headT mv l), m⟩) := by
  cases l with
  | nil => simp only [takLM, Option.some.injEq] at h; subst h; rfl
  | cons x r =>
    simp only [takLM, Option.bind_eq_some_iff, Option.some.injEq] at h
    obtain ⟨v, hv, us, hus, rfl⟩ := h
    simp only [takL, takM_tak hv, Option.bind_some]
    rw [opdT_eq (ρ' := rdL (cutL (lk E) (tmpOf mv x))) fun e y => by rw [opd_rdL, lk_rmO], hus]
    rfl
theorem stepG_sound {mv : Bool} {o : Oper} {v : V} {m' : List (Nat × V)} (hT : TT P c) (hC : ∀ f e, lkN c.fns f = some e → CallOK P f e) (hR : RS X G0 w0 G s a.tmps w) (h : stepG c mv o (lk s.env) s.mem prK = some (v, m')) (hd : ∀ t, o.dst = some t → t < a.tmps.size) :
    o.wp P a w (Nxt X G0 w0 a some (({ env := rmO s.env (consO mv o), mem := m' } : St).dst o.dst v)) Q := by
  obtain ⟨E, m⟩ := s
  obtain ⟨dst, op, ty, pos, after, guard⟩ := o
  have loadF : ∀ {t : TypeId} {x : Operand}, op = .load t x → stepF c false ⟨dst, op, ty, pos, after, guard⟩ (lk E) m (fun v => prK v m) = some (v, m') →
      Oper.wp P ⟨dst, op, ty, pos, after, guard⟩ a w (Nxt X G0 w0 a some (({ env := rmO E (consO false ⟨dst, op, ty, pos, after, guard⟩), mem := m' } : St).dst dst v)) Q := by
    intro t x hop h
    rw [stepF_nat] at h
    obtain ⟨v0, hf, h'⟩ := Option.bind_eq_some_iff.1 h
    injection h' with h'; injection h' with h1 h2
    subst h1; subst h2
    subst hop
    have hf : valO c ⟨dst, .load t x, ty, pos, after, guard⟩ (rdL (lk E)) m some = some v0 := hf
    rw [← rdL_of ⟨E, m⟩] at hf
    obtain ⟨hB, tE, tM, h1, h2, h3, h4⟩ := id hR
    obtain ⟨v', x', g1, g2, g3⟩ := valO_sound hT hB.wf hR.reads h2 hf
    injection g3 with g3; subst g3
    exact wp_val g1 (hR.withV g2) hd rfl
  unfold stepG at h
  split at h
  · rename_i f args tys hop
    simp only at hop; subst hop
    simp only [Option.bind_eq_some_iff] at h
    obtain ⟨fv, hfv, h⟩ := h
    split at h
    · rename_i g caps
      simp only [Option.bind_eq_some_iff] at h
      obtain ⟨vs, hvs, e, he, ar, har, h⟩ := h
      obtain ⟨hdi, h⟩ := cond_then h
      simp only [Option.bind_eq_some_iff] at h
      obtain ⟨objs, hobjs, h⟩ := h
      obtain ⟨hnr, h⟩ := cond_then h
      have hOK := hC g e he
      rw [hOK.nat] at h
      obtain ⟨p, hp, h⟩ := Option.bind_eq_some_iff.1 h
      simp only [Option.bind_eq_some_iff] at h
      obtain ⟨m2, hm2, h⟩ := h
      obtain ⟨hb, h⟩ := cond_then h
      injection h with h; injection h with h1 h2
      subst h1; subst h2
      simp only [Bool.and_eq_true, List.isEmpty_iff] at hb
      obtain ⟨⟨hb1, hb2⟩, hb3⟩ := hb
      refine stepO_sound (mv := mv) (ln := false) hT hC hR ?_ hd
      have hop2 : opd none (⟨E, m⟩ : St) f = some (.fn g caps) := by rw [opd_rdL]; exact hfv
      have hc : consO mv ⟨dst, .call { callee := .value f, args := args, argTypes := tys }, ty, pos, after, guard⟩ = headT mv args.toList := rfl
      simp only [stepO, hop2, Option.bind_some, takLM_takL hvs, callV, he, har, hdi, cond_true]
      change contents m ar.2 = some objs at hobjs
      change giveBack m ar.2 p.2 = some m2 at hm2
      rw [hobjs]
      simp only [Option.bind_some, hnr, cond_true]
      rw [hOK.nat, hp]
      simp only [Option.bind_some, hm2, hb1, cond_true, hb2, hb3, List.isEmpty_nil, hc]
    · cases h
  · rename_i t x y hop
    simp only at hop; subst hop
    simp only [Option.bind_eq_some_iff] at h
    obtain ⟨ly, hly, av, hav, u, hu, h⟩ := h
    split at h
    · rename_i k p
      obtain ⟨hb, h⟩ := cond_then h
      simp only [Option.bind_eq_some_iff] at h
      obtain ⟨w1, hw1, w2, hw2, h⟩ := h
      injection h with h; injection h with h1 h2
      subst h1; subst h2
      refine stepO_sound (mv := mv) (ln := false) hT hC hR ?_ hd
      have hop2 : opd none (⟨E, m⟩ : St) x = some (.ref k p) := by rw [opd_rdL]; exact hav
      simp only [stepO, hly, hop2, Option.bind_some, takM_tak hu, hb, cond_true]
      change lk m k = some w1 at hw1
      rw [hw1]
      simp only [Option.bind_some, hw2]
      simp only [Bool.and_eq_true, Option.isNone_iff_eq_none] at hb
      rw [hb.2]; rfl
    · cases h
  · rename_i t x hop
    cases mv with
    | false =>
      simp only [cond_false] at h
      exact loadF hop h
    | true =>
      simp only at hop; subst hop
      simp only [cond_true, Option.bind_eq_some_iff] at h
      obtain ⟨ly, hly, av, hav, h⟩ := h
      split at h
      · rename_i k p
        simp only [Option.bind_eq_some_iff] at h
        obtain ⟨w1, hw1, u, hu, h⟩ := h
        obtain ⟨hb, h⟩ := cond_then h
        simp only [Option.bind_eq_some_iff] at h
        obtain ⟨w2, hw2, h⟩ := h
        injection h with h; injection h with h1 h2
        subst h1; subst h2
        refine stepO_sound (mv := true) (ln := false) hT hC hR ?_ hd
        have hop2 : opd none (⟨E, m⟩ : St) x = some (.ref k p) := by rw [opd_rdL]; exact hav
        simp only [stepO, cond_true, hly, hop2, Option.bind_some]
        change lk m k = some w1 at hw1
        rw [hw1]
        simp only [Option.bind_some, hu, hb, cond_true, hw2]; rfl
      · cases h
  rename_i hno1 hno2 hno3
  rw [stepF_nat] at h
  obtain ⟨v0, hf, h'⟩ := Option.bind_eq_some_iff.1 h
  clear h
  have h := hf
  clear hf
  injection h' with h'; injection h' with h1 h2
  subst h1; subst h2
  have plain : (∀ cl, op ≠ .call cl) → (∀ y, op ≠ .move y) → (∀ y, op ≠ .assign y) → (∀ t a y, op ≠ .store t a y) → stepO c false false ⟨dst, op, ty, pos, after, guard⟩ ⟨E, m⟩ some = some ((⟨E, m⟩ : St).dst dst v0) → Oper.wp P ⟨dst, op, ty, pos, after, guard⟩ a w (Nxt X G0 w0 a some (({ env := rmO E (consO mv ⟨dst, op, ty, pos, after, guard⟩), mem := m } : St).dst dst v0)) Q := by
    intro hn hn' hn'' hn3 hs
    have : consO mv ⟨dst, op, ty, pos, after, guard⟩ = none := by
      unfold consO
      cases op <;> first | rfl | exact absurd rfl (hn _) | exact absurd rfl (hn' _) | exact absurd rfl (hn'' _) | exact absurd rfl (hn3 _ _ _)
    rw [this]
    exact stepO_sound hT hC hR hs hd
  unfold stepF at h
  split at h
  · rename_i args tys hop
    simp only at hop; subst hop
    split at h
    · rename_i x y t t2 hargs htys
      simp only [Option.bind_eq_some_iff] at h
      obtain ⟨v1, hv1, u, hu, h⟩ := h
      split at h
      · rename_i e' e2 e xs h1 h2
        obtain ⟨hb, h⟩ := cond_then h
        simp only [Option.bind_eq_some_iff] at h
        obtain ⟨ys, hys, h⟩ := h
        obtain ⟨hroom, h⟩ := br_then h
        injection h with h; subst h
        refine stepO_sound (mv := mv) (ln := false) hT hC hR ?_ hd
        have hc : consO mv ⟨dst, .call { callee := .builtin .append, args := args, argTypes := tys }, ty, pos, after, guard⟩ = tmpOf mv x := by
          simp only [consO, hargs, headT]
        have hu' : opd (c.ty t) (⟨rmO E (tmpOf mv x), m⟩ : St) y = some u := by rw [opd_rdL, lk_rmO]; exact hu
        rw [h1] at hv1 hu'
        simp only [stepO, hargs, htys, takM_tak hv1, Option.bind_some, hu', h1, h2, hb, cond_true, hys, hroom, br, hc]
      · cases h
    · cases h
  · rename_i x hop
    simp only at hop; subst hop
    rw [Option.bind_eq_some_iff] at h
    obtain ⟨v1, hv1, h⟩ := h
    injection h with h; subst h
    refine stepO_sound (mv := mv) (ln := false) hT hC hR ?_ hd
    cases mv with
    | true => simp only [stepO, cond_true, takM_tak hv1, Option.bind_some, lend, consO]
    | false =>
      have e1 : opd (c.ty ty) (⟨E, m⟩ : St) x = some v1 := by
        rw [opd_rdL]
        cases x <;> exact hv1
      have e2 : tmpOf false x = none := by cases x <;> rfl
      simp only [stepO, cond_false, stepV, valO, e1, Option.bind_some, consO, e2, rmO]
  · rename_i x hop
    simp only at hop; subst hop
    rw [Option.bind_eq_some_iff] at h
    obtain ⟨v1, hv1, h⟩ := h
    injection h with h; subst h
    refine stepO_sound (mv := mv) (ln := false) hT hC hR ?_ hd
    cases mv with
    | true => simp only [stepO, cond_true, takM_tak hv1, Option.bind_some, lend, consO]
    | false =>
      have e1 : opd (c.ty ty) (⟨E, m⟩ : St) x = some v1 := by
        rw [opd_rdL]
        cases x <;> exact hv1
      have e2 : tmpOf false x = none := by cases x <;> rfl
      simp only [stepO, cond_false, stepV, valO, e1, Option.bind_some, consO, e2, rmO]
  · rename_i t n parts hop
    simp only at hop; subst hop
    refine plain (fun cl e => by cases e) (fun cl e => by cases e) (fun cl e => by cases e) (fun _ _ _ e => by cases e) ?_
    simp only [stepO]
    rw [rdL_of]
    rw [Option.bind_eq_some_iff] at h
    obtain ⟨τ, hτ, h⟩ := h
    rw [hτ]
    split at h
    · simp only [Option.bind_eq_some_iff] at h
      obtain ⟨ps, hps, h⟩ := h
      obtain ⟨hb, h⟩ := cond_then h
      simp only [Option.bind_eq_some_iff] at h
      obtain ⟨xs, hxs, h⟩ := h
      injection h with h; subst h
      simp only [Option.bind_some, hps, hb, cond_true, hxs]
    · cases h
  · rename_i hn2 hn4 hn5 hn3
    rw [← rdL_of ⟨E, m⟩] at h
    obtain ⟨hB, tE, tM, h1, h2, h3, h4⟩ := id hR
    obtain ⟨v', x, g1, g2, g3⟩ := valO_sound hT hB.wf hR.reads h2 h
    injection g3 with g3; subst g3
    have hc : consO mv ⟨dst, op, ty, pos, after, guard⟩ = none := by
      unfold consO
      split
      · rename_i f args tys e; exact absurd e (hno1 _ _ _)
      · rename_i args tys e; exact absurd e (hn2 _ _)
      · rename_i y e; exact absurd e (hn4 _)
      · rename_i y e; exact absurd e (hn5 _)
      · rename_i t a y e; exact absurd e (hno2 _ _ _)
      · rfl
    rw [hc]
    exact wp_val g1 (hR.withV g2) hd rfl
end Go.Proofs.YtoikjekpckhgeaaGreat.Pal
end
section
/- Regions whose order is free: all orders. -/
namespace Go.Proofs.YtoikjekpckhgeaaGreat.Pal
open Go
variable [MonoC]
variable {P : Program} {X Y : Nat → Nat → Prop} {G0 G G' : Gh} {w0 w w' : World} {s : St} {a : Act} {c : Cx} {Q : Exit → Act → World → Prop}

theorem noDup_rep {tmps : Array Value} : ∀ (l E : List (Nat × V)) (ts : List Nat), noDup l = true → noLent E = true → (∀ k v, (k, v) ∈ l → lk E k = some v) → EnvRep G w tmps E ts →
    ∃ t2, (∀ g, cnt g t2 ≤ cnt g ts) ∧ EnvRep G w tmps l t2
  | [], E, ts, _, _, _, _ => ⟨[], fun g => by simp, rfl⟩
  | (k, v) :: r, E, ts, hd, hn, hl, hE => by
    simp only [noDup, Bool.and_eq_true, Bool.not_eq_true'] at hd
    have hk := hl k v (by simp)
    have hv : notLent v := by
      have : ∀ E : List (Nat × V), noLent E = true → lk E k = some v → notLent v := by
        intro E
        induction E with
        | nil => intro _ h; simp [lk] at h
        | cons p E ih =>
          obtain ⟨q, u⟩ := p
          intro h1 h2
          simp only [noLent, Bool.and_eq_true] at h1
          rw [lk_cons] at h2
          split at h2
          · injection h2 with h2; subst h2
            cases u <;> first | trivial | (cases h1.1)
          · exact ih h1.2 h2
      exact this E hn hk
    obtain ⟨t1, t2, e1, e2, e3⟩ := EnvRep.find k E ts v hE hk hv
    obtain ⟨t3, e4, e5⟩ := noDup_rep r (Pal.rm E k) t2 hd.2 (noLent_rm E k hn) (fun k' v' h => by
      have hne : k ≠ k' := fun e => by
        subst e
        exact memN_mem _ _ hd.1 (List.mem_map.2 ⟨_, h, rfl⟩)
      rw [lk_rm_other hne]; exact hl k' v' (by simp [h])) e3
    exact ⟨t1 ++ t3, fun g => by have := e1 g; have := e4 g; simp; omega, (EnvRep.cons hv).2 ⟨t1, t3, rfl, e2, e5⟩⟩
theorem lk_noDup : ∀ (l : List (Nat × V)) k v, noDup l = true → (k, v) ∈ l → lk l k = some v
  | [], _, _, _, h => by simp at h
  | (q, u) :: r, k, v, hd, h => by
    simp only [noDup, Bool.and_eq_true, Bool.not_eq_true'] at hd
    rw [lk_cons]
    rcases List.mem_cons.1 h with e | h
    · injection e with e1 e2; subst e1; subst e2; simp
    · have : q ≠ k := fun e => by subst e; exact memN_mem _ _ hd.1 (List.mem_map.2 ⟨_, h, rfl⟩)
      rw [if_neg this]; exact lk_noDup r k v hd.2 h
theorem noDup_memrep : ∀ (l m : List (Nat × V)) (ts : List Nat), noDup l = true → (∀ k v, (k, v) ∈ l → lk m k = some v) → MemRep G w m ts →
    ∃ t2, (∀ g, cnt g t2 ≤ cnt g ts) ∧ MemRep G w l t2
  | [], m, ts, _, _, _ => ⟨[], fun g => by simp, rfl⟩
  | (k, v) :: r, m, ts, hd, hl, hM => by
    simp only [noDup, Bool.and_eq_true, Bool.not_eq_true'] at hd
    have hk := hl k v (by simp)
    obtain ⟨t1, t2, cs, e1, e2, e3, e4, e5⟩ := MemRep.find k m ts v hM hk
    obtain ⟨t3, e6, e7⟩ := noDup_memrep r (Pal.rm m k) t2 hd.2 (fun k' v' h => by
      have hne : k ≠ k' := fun e => by
        subst e
        exact memN_mem _ _ hd.1 (List.mem_map.2 ⟨_, h, rfl⟩)
      rw [lk_rm_other hne]; exact hl k' v' (by simp [h])) e5
    exact ⟨t1 ++ t3, fun g => by have := e1 g; have := e6 g; simp; omega, t1, t3, cs, rfl, e2, e3, e4, e7⟩
theorem RS.same2 {tmps : Array Value} {E E' : List (Nat × V)} {m m' : List (Nat × V)} (h : RS X G0 w0 G ⟨E, m⟩ tmps w) (hn : noLent E = true) (hd : noDup E' = true) (hl : lk E' = lk E) (hd2 : noDup m' = true) (hl2 : lk m' = lk m) : RS X G0 w0 G ⟨E', m'⟩ tmps w := by
  obtain ⟨hB, tE, tM, h1, h2, h3, h4⟩ := h
  obtain ⟨t2, e1, e2⟩ := noDup_rep E' E tE hd hn (fun k v h => by rw [← hl]; exact lk_noDup E' k v hd h) h1
  obtain ⟨t3, e3, e4⟩ := noDup_memrep m' m tM hd2 (fun k v h => by rw [← hl2]; exact lk_noDup m' k v hd2 h) h2
  exact ⟨hB, t2, t3, e2, e4, fun g => by have := h3 g; have := e1 g; have := e3 g; omega, fun g hg => h4 g (by have := e1 g; have := e3 g; omega)⟩
/-- One step of the text's order, where the order is fixed. -/
theorem runOps_step {α : Type} {ops : Array Oper} {mvs lns : List Nat} {K : St → Option α} {res : α} {n : Nat} {ds : List Deferred} (hT : TT P c) (hC : ∀ f e, lkN c.fns f = some e → CallOK P f e)
    {o : Oper} {r : List Oper} {i : Nat} (hi : ops[i]? = some o) (hd : ∀ t, o.dst = some t → t < n) (h : runOps c ops mvs lns i (o :: r) s K = some res) (hR : RS X G0 w0 G s a.tmps w) (hn : a.tmps.size = n) (hds : a.defers = ds) :
    wpOp P ops Q i (fun a' w' => ∃ G' s', RS X G0 w0 G' s' a'.tmps w' ∧ a'.tmps.size = n ∧ a'.defers = ds ∧ runOps c ops mvs lns (i + 1) r s' K = some res) a w := by
  have hd' : ∀ t, o.dst = some t → t < a.tmps.size := fun t ht => by rw [hn]; exact hd t ht
  have go : ∀ (s1 : St), RS X G0 w0 G s1 a.tmps w → stepO c (memN i mvs) (memN i lns) o s1 (fun s2 => runOps c ops mvs lns (i + 1) r s2 K) = some res →
      o.wp P a w (fun a' w' => ∃ G' s', RS X G0 w0 G' s' a'.tmps w' ∧ a'.tmps.size = n ∧ a'.defers = ds ∧ runOps c ops mvs lns (i + 1) r s' K = some res) Q := by
    intro s1 hR1 hs
    refine Oper.wp_mono (fun a' w' hN => ?_) (stepO_sound (Q := Q) hT hC hR1 hs hd')
    obtain ⟨G', s', g1, g2, g3, g4⟩ := hN
    exact ⟨G', s', g1, g2.trans hn, g3.trans hds, g4⟩
  unfold wpOp
  simp only [hi]
  simp only [runOps] at h
  cases hgd : o.guard with
  | none =>
    simp only [hgd] at h
    rw [if_pos (by simp [Region.wanted, hgd])]
    exact .inl (go s hR h)
  | some jw =>
    obtain ⟨j, want⟩ := jw
    simp only [hgd, Option.bind_eq_some_iff] at h
    obtain ⟨g, hg, gv, hgv, h⟩ := h
    have hg' : (ops[j]?).bind (·.dst) = some g := by simpa [Option.bind_eq_some_iff] using hg
    split at h
    · rename_i b
      have hy := yielded_of hR hg' hgv
      have hR1 := hR.refine_ hgv
      have hw : Region.wanted o (yielded ops a.tmps) = (b == want) := by
        simp only [Region.wanted, hgd, hy]
        cases b <;> cases want <;> rfl
      have skip : ∀ (s1 : St), RS X G0 w0 G s1 a.tmps w → runOps c ops mvs lns (i + 1) r (s1.dst o.dst .unit) K = some res →
          ∃ G' s', RS X G0 w0 G' s' (a.put o.dst undef).tmps w ∧ (a.put o.dst undef).tmps.size = n ∧ (a.put o.dst undef).defers = ds ∧ runOps c ops mvs lns (i + 1) r s' K = some res := by
        intro s1 hR1 h1
        exact ⟨G, _, hR1.skip, (put_size _ _ _).trans hn, (put_defers _ _ _).trans hds, h1⟩
      rcases br_cases h with ⟨rfl, h⟩ | ⟨rfl, h⟩
      · cases want with
        | true =>
          rw [if_pos (by rw [hw]; rfl)]
          exact .inl (go _ hR1 h)
        | false =>
          rw [if_neg (by rw [hw]; simp)]
          exact skip _ hR1 h
      · cases want with
        | true =>
          rw [if_neg (by rw [hw]; simp)]
          exact skip _ hR1 h
        | false =>
          rw [if_pos (by rw [hw]; rfl)]
          exact .inl (go _ hR1 h)
    · have hy := yielded_unit hR hg' hgv
      rw [if_neg (by simp [Region.wanted, hgd, hy])]
      exact ⟨G, _, hR.skip, (put_size _ _ _).trans hn, (put_defers _ _ _).trans hds, h⟩
    · cases h

/-! ### How many are not listed -/
def unl (l : Array Bool) : Nat := l.toList.count false
theorem unl_set {l : Array Bool} {i : Nat} (h : l.getD i true = false) : unl (l.setIfInBounds i true) + 1 = unl l := by
  have hlt : i < l.size := by
    rcases Nat.lt_or_ge i l.size with h' | h'
    · exact h'
    · simp [Array.getElem?_eq_none h'] at h
  have hv : l.toList[i]'(by simpa using hlt) = false := by simpa [Array.getD, hlt] using h
  unfold unl
  rw [Array.toList_setIfInBounds, List.count_set (by simpa using hlt)]
  have hp : 0 < l.toList.count false := List.count_pos_iff.2 (by rw [← hv]; exact List.getElem_mem _)
  have h1 : (l.toList[i]'(by simpa using hlt) == false) = true := by rw [hv]; rfl
  rw [if_pos h1, if_neg (by decide)]
  omega
theorem unl_zero {l : Array Bool} (h : unl l = 0) (i : Nat) : l.getD i true = true := by
  unfold unl at h
  rw [List.count_eq_zero] at h
  rcases Nat.lt_or_ge i l.size with h' | h'
  · cases hv : l[i]'h' with
    | true => simp [Array.getD, h', hv]
    | false => exact absurd (by rw [← hv]; simp) h
  · simp [Array.getElem?_eq_none h']
theorem getD_two {l : Array Bool} {i : Nat} (h : i < l.size) (b b' : Bool) : l.getD i b = l.getD i b' := by simp [Array.getD, h]

/-! ### What okFree says -/
theorem okFree_spec {ops : Array Oper} {mvs : List Nat} {n : Nat} (h : okFree ops mvs n = true) : n ≤ ops.size ∧ (∀ (i : Nat) (o : Oper), ops[i]? = some o → ∀ e ∈ o.after, Region.binds .any e = true → e.on < i) ∧
    (∀ (i : Nat) (o : Oper), ops[i]? = some o → i < n → ∀ j, j < n → i ≠ j → (∀ d, dstAt ops j = some d → (d ∈ o.looksAt ops → (j < i ∧ onB o j = true) ∨ (i < j ∧ onJ ops j i = true)) ∧ o.dst ≠ some d) ∧
      ∀ t p, consO (memN i mvs) o = some t → ops[j]? = some p → t ∈ p.looksAt ops → j < i ∧ onB o j = true) ∧
    (∀ (i : Nat) (o : Oper), ops[i]? = some o → n ≤ i → (∀ j, j < i → onB o j = true) ∨ (i = n ∧ alOk ops mvs n o = true)) := by
  simp only [okFree, Bool.and_eq_true, List.all_eq_true, List.mem_range] at h
  obtain ⟨h0, h⟩ := h
  have key : ∀ (i : Nat) (o : Oper), ops[i]? = some o → i < ops.size := fun i o hi => (Array.getElem?_eq_some_iff.1 hi).1
  refine ⟨Nat.le_of_ble_eq_true h0, fun i o hi e he hbd => ?_, fun i o hi hin j hj hne => ?_, fun i o hi hin => ?_⟩
  · have := h i (key i o hi)
    simp only [hi, Bool.and_eq_true] at this
    have h1 := this.1
    rw [Array.all_eq_true_iff_forall_mem] at h1
    have h2 := h1 e he
    rw [hbd] at h2
    simp only [Bool.not_true, Bool.false_or] at h2
    exact Nat.le_of_ble_eq_true h2
  · have := h i (key i o hi)
    simp only [hi, Bool.and_eq_true, if_pos hin, List.all_eq_true, List.mem_range] at this
    have h1 := this.2 j hj
    rw [Bool.or_eq_true] at h1
    rcases h1 with h1 | h1
    · exact absurd (beq_nat.1 h1) hne
    · rw [Bool.and_eq_true] at h1
      obtain ⟨h1, h2⟩ := h1
      refine ⟨fun d hd => ?_, fun t p hc hp hm => ?_⟩
      · simp only [hd, Bool.or_eq_true, Bool.and_eq_true, bne_iff_ne, ne_eq] at h1
        refine ⟨fun hm => ?_, h1.2⟩
        rcases h1.1 with (h3 | h3) | h3
        · simp at h3; exact absurd hm h3
        · exact .inl ⟨Nat.le_of_ble_eq_true h3.1, h3.2⟩
        · exact .inr ⟨Nat.le_of_ble_eq_true h3.1, h3.2⟩
      · simp only [hc, hp, Bool.or_eq_true, Bool.and_eq_true] at h2
        rcases h2 with h3 | h3
        · simp at h3; exact absurd hm h3
        · exact ⟨Nat.le_of_ble_eq_true h3.1, h3.2⟩
  · have := h i (key i o hi)
    simp only [hi, Bool.and_eq_true, if_neg (Nat.not_lt.2 hin), Bool.or_eq_true, List.all_eq_true, List.mem_range] at this
    exact this.2.imp id fun h => ⟨beq_nat.1 h.1, h.2⟩
theorem onB_listed {o : Oper} {j : Nat} {listed : Array Bool} (h : onB o j = true) (hall : ∀ e ∈ o.after, Region.binds .any e = true → listed.getD e.on false = true) : listed.getD j false = true := by
  unfold onB at h
  obtain ⟨e, he, hb⟩ := Array.any_eq_true'.1 h
  simp only [Bool.and_eq_true] at hb
  have := hall e he hb.1
  rwa [beq_nat.1 hb.2] at this
/-- The tail, whose order is fixed. -/
theorem tail_sound {α : Type} {ops : Array Oper} {mvs lns : List Nat} {K : St → Option α} {res : α} {n N : Nat} {ds : List Deferred} (hT : TT P c) (hC : ∀ f e, lkN c.fns f = some e → CallOK P f e) (hdst : ∀ o ∈ ops.toList, ∀ t, o.dst = some t → t < N) (hok : okFree ops mvs n = true)
    (hQ : ∀ a' w' G' s', RS X G0 w0 G' s' a'.tmps w' → a'.tmps.size = N → a'.defers = ds → K s' = some res → Q .normal a' w') :
    ∀ (fuel k : Nat) (listed : Array Bool) (s : St) (a : Act) (w : World) (G : Gh), n ≤ k → unl listed ≤ fuel → listed.size = ops.size → (∀ j, j < ops.size → (listed.getD j true = true ↔ j < k)) →
      runOps c ops mvs lns k (ops.toList.drop k) s K = some res → RS X G0 w0 G s a.tmps w → a.tmps.size = N → a.defers = ds → wpAny P .any ops Q fuel listed a w := by
  obtain ⟨hn, _, _, hB⟩ := okFree_spec hok
  intro fuel
  have ready : ∀ (k : Nat) (listed : Array Bool), n ≤ k → listed.size = ops.size → (∀ j, j < ops.size → (listed.getD j true = true ↔ j < k)) → ∀ i ∈ Region.ready .any ops listed, i = k := by
    intro k listed hk hsz hL i hi
    obtain ⟨h0, o, ho, hall⟩ := mem_ready.1 hi
    have hlt := (Array.getElem?_eq_some_iff.1 ho).1
    have h1 : ¬ i < k := fun h => by have := (hL i hlt).2 h; rw [h0] at this; cases this
    rcases Nat.lt_or_ge k i with h2 | h2
    · have h3 := onB_listed ((hB i o ho (by omega)).resolve_right (by omega) k h2) hall
      have h4 := (hL k (by omega)).1 (by rw [getD_two (by omega) true false]; exact h3)
      omega
    · omega
  have nready : ∀ (k : Nat) (listed : Array Bool), n ≤ k → listed.size = ops.size → (∀ j, j < ops.size → (listed.getD j true = true ↔ j < k)) → Region.ready .any ops listed = [] → ops.size ≤ k := by
    intro k listed hk hsz hL hr
    rcases Nat.lt_or_ge k ops.size with h | h
    · have hk' : k ∈ Region.ready .any ops listed := by
        refine mem_ready.2 ⟨?_, ops[k], Array.getElem?_eq_getElem h, fun e he hbd => ?_⟩
        · have := hL k h
          cases hv : listed.getD k true with
          | false => rfl
          | true => have := this.1 hv; omega
        · have := (okFree_spec hok).2.1 k ops[k] (Array.getElem?_eq_getElem h) e he hbd
          rw [getD_two (by omega) false true]
          exact (hL e.on (by omega)).2 this
      rw [hr] at hk'; cases hk'
    · exact h
  have fin : ∀ (k : Nat) (listed : Array Bool) (s : St) (a : Act) (w : World) (G : Gh), ops.size ≤ k → runOps c ops mvs lns k (ops.toList.drop k) s K = some res → RS X G0 w0 G s a.tmps w → a.tmps.size = N → a.defers = ds → Q .normal a w := by
    intro k listed s a w G hk h hR hn hds
    rw [List.drop_eq_nil_of_le (by simpa using hk)] at h
    simp only [runOps] at h
    exact hQ a w G s hR hn hds h
  induction fuel with
  | zero =>
    intro k listed s a w G hk hu hsz hL h hR hN hds
    have hz : unl listed = 0 := by omega
    have hr : Region.ready .any ops listed = [] := by
      apply List.eq_nil_iff_forall_not_mem.2
      intro i hi
      have := (mem_ready.1 hi).1
      rw [unl_zero hz i] at this; cases this
    exact ⟨hr, fin k listed s a w G (nready k listed hk hsz hL hr) h hR hN hds⟩
  | succ fuel ih =>
    intro k listed s a w G hk hu hsz hL h hR hN hds
    refine ⟨fun hr => fin k listed s a w G (nready k listed hk hsz hL hr) h hR hN hds, fun i hi => ?_⟩
    have hik := ready k listed hk hsz hL i hi
    subst hik
    obtain ⟨h0, o, ho, hall⟩ := mem_ready.1 hi
    have hlt := (Array.getElem?_eq_some_iff.1 ho).1
    have hdr : ops.toList.drop i = o :: ops.toList.drop (i + 1) := by
      rw [List.drop_eq_getElem_cons (by simpa using hlt)]
      congr 1
      have := (Array.getElem?_eq_some_iff.1 ho).2
      simpa using this
    rw [hdr] at h
    have hmem : o ∈ ops.toList := by rw [← Array.getElem?_toList] at ho; exact List.mem_of_getElem? ho
    refine wpOp_mono (fun a' w' hh => ?_) (runOps_step (Q := Q) hT hC ho (hdst o hmem) h hR hN hds)
    obtain ⟨G', s', g1, g2, g3, g4⟩ := hh
    refine ih (i + 1) _ s' a' w' G' (by omega) (by have := unl_set h0; omega) (by simp [hsz]) (fun j hj => ?_) g4 g1 g2 g3
    by_cases e : i = j
    · subst e
      simp [Array.getD, hsz, hj]
    · rw [getD_set_ne true e, hL j hj]
      omega
/-- What has come is as in the text's order. -/
structure Head (X : Nat → Nat → Prop) (G0 : Gh) (w0 : World) (ops : Array Oper) (mvs : List Nat) (n N : Nat) (ds : List Deferred) (Ls : Nat → Nat → Option V) (ms : Nat → List (Nat × V)) (xs : Nat → V × Bool) (al : Bool) (listed : Array Bool) (a : Act) (w : World) (G : Gh) (E M : List (Nat × V)) : Prop where
  rs : RS X G0 w0 G ⟨E, M⟩ a.tmps w
  nol : noLent E = true
  size : a.tmps.size = N
  defs : a.defers = ds
  lsz : listed.size = ops.size
  late : ∀ j, n ≤ j → j < ops.size → listed.getD j true = (al && Nat.beq j n)
  closed : ∀ j (o : Oper), ops[j]? = some o → listed.getD j true = true → ∀ i, i < ops.size → onB o i = true → listed.getD i true = true
  old : ∀ t, (∀ j, j < n → listed.getD j true = true → dstAt ops j ≠ some t ∧ consR ops mvs xs j ≠ some t) → lk E t = Ls 0 t
  new : ∀ j t, j < n → dstAt ops j = some t → listed.getD j true = true → (∀ i, i < n → listed.getD i true = true → i ≠ j → consR ops mvs xs i = some t → i < j) → lk E t = some (xs j).1
  gone : ∀ j t, j < n → listed.getD j true = true → consR ops mvs xs j = some t → (∀ i, i < n → listed.getD i true = true → dstAt ops i = some t → i < j) → lk E t = none
  mold : ∀ k, (∀ j, j < n → listed.getD j true = true → ¬ wM mvs ops Ls xs j k) → lk M k = lk (ms 0) k
  mnew : ∀ j k, j < n → listed.getD j true = true → wM mvs ops Ls xs j k → (∀ i, i < n → listed.getD i true = true → wM mvs ops Ls xs i k → i ≤ j) → lk M k = lk (ms (j + 1)) k
theorem mem_looks {o : Oper} {ops : Array Oper} {t : Nat} (hx : Operand.tmp t ∈ o.op.operands) : t ∈ o.looksAt ops := by
  unfold Oper.looksAt
  exact List.mem_append_left _ (List.mem_filterMap.2 ⟨.tmp t, by simpa using hx, rfl⟩)
theorem consO_looks {mv : Bool} {o : Oper} {ops : Array Oper} {t : Nat} (h : consO mv o = some t) : t ∈ o.looksAt ops := by
  refine mem_looks ?_
  obtain ⟨dst, op, ty, pos, after, guard⟩ := o
  have key : ∀ args : Array Operand, headT mv args.toList = some t → Operand.tmp t ∈ args := by
    intro args h
    rw [← Array.mem_toList_iff]
    cases hx : args.toList with
    | nil => rw [hx] at h; cases h
    | cons x r =>
      rw [hx] at h
      cases x with
      | tmp u =>
        simp only [headT, tmpOf] at h
        obtain ⟨_, h⟩ := cond_then h
        injection h with h; subst h; simp
      | _ => cases h
  unfold consO at h
  split at h
  · rename_i f args tys hop
    simp only at hop; subst hop
    simp [Op.operands, Call.operands, key args h]
  · rename_i args tys hop
    simp only at hop; subst hop
    simp [Op.operands, Call.operands, key args h]
  · rename_i x hop
    simp only at hop; subst hop
    have := key #[x] (by simpa [headT] using h)
    simpa [Op.operands] using this
  · rename_i x hop
    simp only at hop; subst hop
    have := key #[x] (by simpa [headT] using h)
    simpa [Op.operands] using this
  · rename_i q a x hop
    simp only at hop; subst hop
    have := key #[x] (by simpa [headT] using h)
    simp only [Array.mem_toList_iff, List.mem_singleton, Array.mem_singleton] at this
    simp [Op.operands, this]
  · cases h
theorem consR_spec {ops : Array Oper} {mvs : List Nat} {xs : Nat → V × Bool} {j t : Nat} (h : consR ops mvs xs j = some t) : ∃ o, ops[j]? = some o ∧ consO (memN j mvs) o = some t := by
  unfold consR at h
  split at h
  · rename_i o h1
    split at h
    · exact ⟨o, h1, h⟩
    · cases h
  · cases h
theorem Gives.congr {ops : Array Oper} {mvs : List Nat} {m m' : List (Nat × V)} {i : Nat} {o : Oper} {L L' : Nat → Option V} {x : V × Bool} (h : ∀ t ∈ o.looksAt ops, L t = L' t) (hG : Gives c ops mvs m i o L x m') : Gives c ops mvs m i o L' x m' := by
  have hs : stepG c (memN i mvs) o L m prK = stepG c (memN i mvs) o L' m prK := stepG_congr fun t hx => h t (mem_looks hx)
  unfold Gives at hG ⊢
  split at hG
  · rw [← hs]; exact hG
  · rename_i j want hgd
    obtain ⟨g, gv, h1, h2, h3⟩ := hG
    refine ⟨g, gv, h1, ?_, by rw [← hs]; exact h3⟩
    rw [← h g (by unfold Oper.looksAt; exact List.mem_append_right _ (by simp [hgd, h1]))]
    exact h2
/-- The head, whose order is free, and the tail. -/
theorem head_core {α : Type} {al : Bool} {n n2 : Nat} (hn2 : n2 = if al then n + 1 else n) {ops : Array Oper} {mvs lns : List Nat} {K : St → Option α} {res : α} {N : Nat} {ds : List Deferred} {s1 : St} {pr : List (List Nat)} {Ls : Nat → Nat → Option V} {ms : Nat → List (Nat × V)} {xs : Nat → V × Bool} (hT : TT P c) (hC : ∀ f e, lkN c.fns f = some e → CallOK P f e) (hdst : ∀ o ∈ ops.toList, ∀ t, o.dst = some t → t < N) (hok : okFree ops mvs n = true) (hpr : okPre ops pr = true)
    (hQ : ∀ a' w' G' s', RS X G0 w0 G' s' a'.tmps w' → a'.tmps.size = N → a'.defers = ds → K s' = some res → Q .normal a' w')
    (htr : Tr c ops mvs pr Ls ms xs 0 n) (hLn : Ls n = lk s1.env) (hmn : lk (ms n) = lk s1.mem) (hd1 : noDup s1.env = true) (hd2 : noDup s1.mem = true) (hrun : runOps c ops mvs lns n2 (ops.toList.drop n2) s1 K = some res)
    (hal : al = false → ∀ (o : Oper), ops[n]? = some o → alOk ops mvs n o = true → ∀ (fuel : Nat) (listed : Array Bool) (a : Act) (w : World) (G : Gh) (E M : List (Nat × V)), unl listed ≤ fuel + 1 → Head X G0 w0 ops mvs n N ds Ls ms xs al listed a w G E M → n ∈ Region.ready .any ops listed → wpOp P ops Q n (fun a' w' => wpAny P .any ops Q fuel (listed.setIfInBounds n true) a' w') a w) :
    ∀ (fuel : Nat) (listed : Array Bool) (a : Act) (w : World) (G : Gh) (E M : List (Nat × V)), unl listed ≤ fuel → Head X G0 w0 ops mvs n N ds Ls ms xs al listed a w G E M → wpAny P .any ops Q fuel listed a w := by
  obtain ⟨hn, hA, hF, hB⟩ := okFree_spec hok
  have uniq : ∀ j t, j < n → dstAt ops j = some t → ∀ j', j' < n → j' ≠ j → dstAt ops j' ≠ some t := by
    intro j t hj ht j' hj' hne h
    have hlt : j' < ops.size := by omega
    have := ((hF j' ops[j'] (Array.getElem?_eq_getElem hlt) hj' j hj hne).1 t ht).2
    simp [dstAt, Array.getElem?_eq_getElem hlt] at h
    exact this h
  -- who takes t comes behind all that look at it; who writes it comes ahead or behind
  have onJ_spec : ∀ {j i : Nat}, onJ ops j i = true → ∃ p, ops[j]? = some p ∧ onB p i = true := by
    intro j i h
    unfold onJ at h
    split at h
    · rename_i p hp; exact ⟨p, hp, h⟩
    · cases h
  have consDst : ∀ j t, j < n → consR ops mvs xs j = some t → ∀ i, i < n → i ≠ j → dstAt ops i = some t → (i < j ∧ ∃ o, ops[j]? = some o ∧ onB o i = true) ∨ (j < i ∧ ∃ o, ops[i]? = some o ∧ onB o j = true) := by
    intro j t hj hc i hi hne hd
    obtain ⟨o, ho, hco⟩ := consR_spec hc
    rcases ((hF j o ho hj i hi (Ne.symm hne)).1 t hd).1 (consO_looks hco) with h | h
    · exact .inl ⟨h.1, o, ho, h.2⟩
    · exact .inr ⟨h.1, onJ_spec h.2⟩
  have consLook : ∀ j t, j < n → consR ops mvs xs j = some t → ∀ i (p : Oper), i < n → i ≠ j → ops[i]? = some p → t ∈ p.looksAt ops → i < j ∧ ∃ o, ops[j]? = some o ∧ onB o i = true := by
    intro j t hj hc i p hi hne hp hm
    obtain ⟨o, ho, hco⟩ := consR_spec hc
    have := (hF j o ho hj i hi (Ne.symm hne)).2 t p hco hp hm
    exact ⟨this.1, o, ho, this.2⟩
  -- two that meet in memory stand one behind the other
  have meet : ∀ p j k, p < j → j < n → k ∈ (fpT mvs ops Ls xs p).1 → k ∈ (fpT mvs ops Ls xs j).1 → ((fpT mvs ops Ls xs p).2 = true ∨ (fpT mvs ops Ls xs j).2 = true) → p ∈ nthL pr j := by
    intro p j k hpj hj h1 h2 h3
    exact apart_meet (htr.far p j (Nat.zero_le _) hpj hj) h2 h1 h3.symm
  have closedP : ∀ (listed : Array Bool), listed.size = ops.size → (∀ j (o : Oper), ops[j]? = some o → listed.getD j true = true → ∀ i, i < ops.size → onB o i = true → listed.getD i true = true) → ∀ j, j < ops.size → listed.getD j true = true → ∀ i, i ∈ nthL pr j → listed.getD i true = true := by
    intro listed hsz hcl j
    induction j using Nat.strongRecOn with
    | _ j ih =>
      intro hj hl i hi
      have ho := Array.getElem?_eq_getElem hj
      obtain ⟨e, he, hb, h⟩ := okPre_spec hpr ho hi
      have hej := hA j _ ho e he hb
      have hel : listed.getD e.on true = true := hcl j _ ho hl e.on (by omega) (Array.any_eq_true'.2 ⟨e, he, by simp [hb]⟩)
      rcases h with h | h
      · rw [← h]; exact hel
      · exact ih e.on hej (by omega) hel i h
  -- all of the head is listed
  have full : ∀ (fuel : Nat) (listed : Array Bool) (a : Act) (w : World) (G : Gh) (E M : List (Nat × V)), unl listed ≤ fuel → Head X G0 w0 ops mvs n N ds Ls ms xs al listed a w G E M → (∀ j, j < n → listed.getD j true = true) → wpAny P .any ops Q fuel listed a w := by
    intro fuel listed a w G E M hu hh hall
    have hlk : lk s1.env = lk E := by
      rw [← hLn]
      funext t
      by_cases hc : ∃ j, j < n ∧ consR ops mvs xs j = some t ∧ ∀ i, i < n → dstAt ops i = some t → i < j
      · obtain ⟨j, hj, hc, hd⟩ := hc
        rw [hh.gone j t hj (hall j hj) hc fun i hi _ h => hd i hi h]
        refine htr.gone (Nat.zero_le _) (htr.at_cut (Nat.zero_le _) hj hc fun h => by have := hd j hj h; omega) n (by omega) (Nat.le_refl _) fun q h1 h2 hd' => ?_
        have := hd q h2 hd'
        omega
      · by_cases ht : ∃ j, j < n ∧ dstAt ops j = some t
        · obtain ⟨j, hj, ht⟩ := ht
          have hu2 : ∀ i, i < n → i ≠ j → consR ops mvs xs i = some t → i < j := fun i hi hne h => by
            rcases Nat.lt_or_ge i j with h1 | h1
            · exact h1
            · refine absurd ⟨i, hi, h, fun q hq hqd => ?_⟩ hc
              have : q = j := Classical.byContradiction fun e => uniq j t hj ht q hq e hqd
              omega
          rw [htr.keep (Nat.zero_le (j + 1)) n (by omega) (Nat.le_refl _) fun q h1 h2 => ⟨uniq j t hj ht q h2 (by omega), fun h => by have := hu2 q h2 (by omega) h; omega⟩, htr.at_dst (Nat.zero_le _) hj ht]
          exact (hh.new j t hj ht (hall j hj) (fun i hi _ hne => hu2 i hi hne)).symm
        · have hno : ∀ j, j < n → dstAt ops j ≠ some t ∧ consR ops mvs xs j ≠ some t := fun j hj => ⟨fun h => ht ⟨j, hj, h⟩, fun h => hc ⟨j, hj, h, fun i hi hd => absurd ⟨i, hi, hd⟩ ht⟩⟩
          rw [htr.keep (Nat.le_refl 0) n (by omega) (Nat.le_refl _) (fun j _ hj => hno j hj), hh.old t (fun j hj _ => hno j hj)]
    have hlm : lk s1.mem = lk M := by
      rw [← hmn]
      funext k
      rcases last_ex (fun j => wM mvs ops Ls xs j k) n with h | ⟨j, hj, hw, hmax⟩
      · rw [htr.memKeep hC (Nat.le_refl 0) n (by omega) (Nat.le_refl _) (fun j _ hj => h j hj), hh.mold k (fun j hj _ => h j hj)]
      · rw [htr.memKeep hC (Nat.zero_le (j + 1)) n (by omega) (Nat.le_refl _) (fun q h1 h2 hq => by have := hmax q h2 hq; omega), hh.mnew j k hj (hall j hj) hw (fun i hi _ hwi => hmax i hi hwi)]
    have hR1 : RS X G0 w0 G s1 a.tmps w := by
      exact hh.rs.same2 hh.nol hd1 hlk hd2 hlm
    refine tail_sound hT hC hdst hok hQ fuel n2 listed s1 a w G (by subst hn2; split <;> omega) hu hh.lsz (fun j hj => ⟨fun h => ?_, fun h => ?_⟩) hrun hR1 hh.size hh.defs
    · rcases Nat.lt_or_ge j n with h' | h'
      · subst hn2; split <;> omega
      · rw [hh.late j h' hj, Bool.and_eq_true] at h
        have := beq_nat.1 h.2
        rw [h.1] at hn2; simp at hn2; omega
    · rcases Nat.lt_or_ge j n with h' | h'
      · exact hall j h'
      · rw [hh.late j h' hj]
        cases al with
        | true => simp at hn2; have : j = n := by omega
                  subst this; simp
        | false => simp at hn2; omega
  -- one that is not listed, and has all that it is after
  have some1 : ∀ (listed : Array Bool) (a : Act) (w : World) (G : Gh) (E M : List (Nat × V)), Head X G0 w0 ops mvs n N ds Ls ms xs al listed a w G E M → ¬ (∀ j, j < n → listed.getD j true = true) → ∃ i, i ∈ Region.ready .any ops listed := by
    intro listed a w G E M hh hnot
    have : ∃ j, j < n ∧ listed.getD j true = false := by
      apply Classical.byContradiction
      intro h
      exact hnot fun j hj => by
        cases hv : listed.getD j true with
        | true => rfl
        | false => exact absurd ⟨j, hj, hv⟩ h
    obtain ⟨j, hj⟩ := this
    induction j using Nat.strongRecOn with
    | _ j ih =>
      by_cases hp : ∃ j', j' < j ∧ listed.getD j' true = false
      · obtain ⟨j', hj', hv⟩ := hp
        exact ih j' hj' ⟨by omega, hv⟩
      · have hlt : j < ops.size := by omega
        refine ⟨j, mem_ready.2 ⟨hj.2, ops[j], Array.getElem?_eq_getElem hlt, fun e he hbd => ?_⟩⟩
        have hej := hA j ops[j] (Array.getElem?_eq_getElem hlt) e he hbd
        cases hv : listed.getD e.on true with
        | false => exact absurd ⟨e.on, hej, hv⟩ hp
        | true => rw [getD_two (by have := hh.lsz; omega) false true]; exact hv
  intro fuel
  induction fuel with
  | zero =>
    intro listed a w G E M hu hh
    exact full 0 listed a w G E M hu hh fun j _ => unl_zero (by omega) j
  | succ fuel ih =>
    intro listed a w G E M hu hh
    by_cases hall : ∀ j, j < n → listed.getD j true = true
    · exact full (fuel + 1) listed a w G E M hu hh hall
    · refine ⟨fun hr => ?_, fun i hi => ?_⟩
      · obtain ⟨i, hi⟩ := some1 listed a w G E M hh hall
        rw [hr] at hi; cases hi
      · obtain ⟨h0, o, ho, hafter⟩ := mem_ready.1 hi
        have hlt := (Array.getElem?_eq_some_iff.1 ho).1
        have lst : ∀ j, j < ops.size → onB o j = true → listed.getD j true = true := fun j hj hon => by
          have := onB_listed hon hafter
          rwa [getD_two (by have := hh.lsz; omega) false true] at this
        have lstP : ∀ j, j ∈ nthL pr i → listed.getD j true = true := fun j hj => by
          obtain ⟨e, he, hb, h⟩ := okPre_spec hpr ho hj
          have hei := hA i o ho e he hb
          have hel := lst e.on (by omega) (Array.any_eq_true'.2 ⟨e, he, by simp [hb]⟩)
          rcases h with h | h
          · rw [← h]; exact hel
          · exact closedP listed hh.lsz hh.closed e.on (by omega) hel j h
        by_cases hin : i < n
        case neg =>
          rcases hB i o ho (by omega) with h | ⟨h, hao⟩
          · exact absurd (fun j hj => lst j (by omega) (h j (by omega))) hall
          · subst h
            cases al with
            | true => rw [hh.late i (Nat.le_refl _) hlt] at h0; simp at h0
            | false => exact hal rfl o ho hao fuel listed a w G E M hu hh hi
        have hdi : dstAt ops i = o.dst := by simp [dstAt, ho]
        obtain ⟨o', m1, e1, e3, em, eL⟩ := htr.step i (Nat.zero_le _) hin
        rw [ho] at e1
        injection e1 with e1; subst e1
        obtain ⟨x, hx⟩ : ∃ x, x = xs i := ⟨_, rfl⟩
        have hci : consR ops mvs xs i = if x.2 then consO (memN i mvs) o else none := by
          unfold consR
          simp only [ho, hx]
        -- who looks at t here comes before who takes it
        have claim : ∀ t ∈ o.looksAt ops, ∀ j, j < n → j ≠ i → consR ops mvs xs j = some t → listed.getD j true = false ∧ i < j := by
          intro t ht j hj hne hc
          obtain ⟨h1, p, hp, hon⟩ := consLook j t hj hc i o hin (Ne.symm hne) ho ht
          refine ⟨?_, h1⟩
          cases hv : listed.getD j true with
          | false => rfl
          | true =>
            have := hh.closed j p hp hv i hlt hon
            rw [h0] at this; cases this
        have agree : ∀ t ∈ o.looksAt ops, Ls i t = lk E t := by
          intro t ht
          by_cases hj : ∃ j, j < n ∧ j ≠ i ∧ dstAt ops j = some t
          · obtain ⟨j, hj, hne, hd⟩ := hj
            rcases ((hF i o ho hin j hj (Ne.symm hne)).1 t hd).1 ht with ⟨hji, hon⟩ | ⟨hji, hon⟩
            · have hl := lst j (by omega) hon
              rw [htr.keep (Nat.zero_le (j + 1)) i (by omega) (by omega) (fun j' h1 h2 =>
                ⟨uniq j t hj hd j' (by omega) (by omega), fun hc => by have := (claim t ht j' (by omega) (by omega) hc).2; omega⟩), htr.at_dst (Nat.zero_le _) hj hd]
              refine (hh.new j t hj hd hl (fun i' hi' hl' _ hc => ?_)).symm
              by_cases e : i' = i
              · subst e; rw [h0] at hl'; cases hl'
              · have := (claim t ht i' hi' e hc).1
                rw [hl'] at this; cases this
            · -- it is written behind this step
              obtain ⟨p, hp, hon⟩ := onJ_spec hon
              have hnl : listed.getD j true = false := by
                cases hv : listed.getD j true with
                | false => rfl
                | true => have := hh.closed j p hp hv i hlt hon; rw [h0] at this; cases this
              rw [htr.keep (Nat.le_refl 0) i (by omega) (by omega) (fun j' _ hj' =>
                ⟨uniq j t hj hd j' (by omega) (by omega), fun hc => by have := (claim t ht j' (by omega) (by omega) hc).2; omega⟩), hh.old t (fun j' hj' hl => ?_)]
              have e : j' ≠ i := fun e => by subst e; rw [h0] at hl; cases hl
              have e' : j' ≠ j := fun e => by subst e; rw [hnl] at hl; cases hl
              refine ⟨uniq j t hj hd j' hj' e', fun hc => ?_⟩
              have := (claim t ht j' hj' e hc).1
              rw [hl] at this; cases this
          · have hno : ∀ j, j < n → j ≠ i → dstAt ops j ≠ some t := fun j hj2 hne h => hj ⟨j, hj2, hne, h⟩
            rw [htr.keep (Nat.le_refl 0) i (by omega) (by omega) (fun j _ hj' =>
              ⟨hno j (by omega) (by omega), fun hc => by have := (claim t ht j (by omega) (by omega) hc).2; omega⟩), hh.old t (fun j hj' hl => ?_)]
            have e : j ≠ i := fun e => by subst e; rw [h0] at hl; cases hl
            refine ⟨hno j hj' e, fun hc => ?_⟩
            have := (claim t ht j hj' e hc).1
            rw [hl] at this; cases this
        have hG := Gives.congr agree e3
        rw [← hx] at hG
        have hfi : fpT mvs ops Ls xs i = if x.2 then fpO (memN i mvs) o (lk E) else ([], false) := by
          unfold fpT
          rw [ho]
          simp only [← hx]
          rw [fpO_congr (L := Ls i) (L' := lk E) fun t ht => agree t (mem_looks ht)]
        -- memory, where this step looks
        have magree : ∀ k ∈ (fpT mvs ops Ls xs i).1, lk (ms i) k = lk M k := by
          intro k hk
          have before : ∀ j, j < i → wM mvs ops Ls xs j k → listed.getD j true = true := fun j hj hw => lstP j (meet j i k hj hin hw.2 hk (.inl hw.1))
          have behind : ∀ j, i < j → j < n → wM mvs ops Ls xs j k → listed.getD j true = false := fun j hj hjn hw => by
            cases hv : listed.getD j true with
            | false => rfl
            | true =>
              have hjs : j < ops.size := by omega
              have := closedP listed hh.lsz hh.closed j hjs hv i (meet i j k hj hjn hk hw.2 (.inr hw.1))
              rw [h0] at this; cases this
          have at_i : ∀ j, j < n → listed.getD j true = true → wM mvs ops Ls xs j k → j < i := fun j hj hl hw => by
            rcases Nat.lt_trichotomy j i with h | h | h
            · exact h
            · subst h; rw [h0] at hl; cases hl
            · rw [behind j h hj hw] at hl; cases hl
          rcases last_ex (fun j => wM mvs ops Ls xs j k) i with h | ⟨j, hj, hw, hmax⟩
          · rw [htr.memKeep hC (Nat.le_refl 0) i (by omega) (by omega) (fun j _ hj => h j hj), hh.mold k (fun j hj hl hw => h j (at_i j hj hl hw) hw)]
          · rw [htr.memKeep hC (Nat.zero_le (j + 1)) i (by omega) (by omega) (fun q h1 h2 hq => by have := hmax q h2 hq; omega), hh.mnew j k (by omega) (before j hj hw) hw (fun q hq hl hwq => hmax q (at_i q hq hl hwq) hwq)]
        have next : ∀ (a' : Act) (w' : World) (G' : Gh) (E' M' : List (Nat × V)), RS X G0 w0 G' ⟨E', M'⟩ a'.tmps w' → a'.tmps.size = N → a'.defers = ds → noLent E' = true → lk E' = afterL (lk E) (memN i mvs) o x →
            (∀ k, wM mvs ops Ls xs i k → lk M' k = lk (ms (i + 1)) k) → (∀ k, ¬ wM mvs ops Ls xs i k → lk M' k = lk M k) → wpAny P .any ops Q fuel (listed.setIfInBounds i true) a' w' := by
          intro a' w' G' E' M' g1 g2 g3 g4 g5 g6 g7
          have hset : (listed.setIfInBounds i true).getD i true = true := by simp [Array.getD, hh.lsz, hlt]
          have hmono : ∀ j, listed.getD j true = true → (listed.setIfInBounds i true).getD j true = true := fun j hj => by
            by_cases e : i = j
            · subst e; exact hset
            · rw [getD_set_ne true e]; exact hj
          refine ih _ a' w' G' E' M' (by have := unl_set h0; omega) ⟨g1, g4, g2, g3, by simp [hh.lsz], fun j hj hj' => ?_, fun j p hp hl i' hi' hon => ?_, fun t ht => ?_, fun j t hj hd hl hu => ?_, fun j t hj hl hc hd => ?_, fun k hk => ?_, fun j k hj hl hw hmax => ?_⟩
          · rw [getD_set_ne true (by omega)]; exact hh.late j hj hj'
          · by_cases e : i = j
            · subst e
              rw [ho] at hp; injection hp with hp; subst hp
              exact hmono i' (lst i' hi' hon)
            · rw [getD_set_ne true e] at hl
              exact hmono i' (hh.closed j p hp hl i' hi' hon)
          · have hi' := ht i hin hset
            rw [hdi, hci] at hi'
            rw [g5, afterL_other hi'.1 hi'.2]
            exact hh.old t fun j hj hl => ht j hj (hmono j hl)
          · rw [g5]
            by_cases e : i = j
            · subst e
              rw [hdi] at hd
              rw [← hx]
              exact afterL_dst hd
            · have hne : o.dst ≠ some t := fun h => uniq j t hj hd i hin e (hdi.trans h)
              rw [getD_set_ne true e] at hl
              have hci' : consR ops mvs xs i ≠ some t := fun hc => by
                have hij := hu i hin hset e hc
                rcases consDst i t hin hc j hj (Ne.symm e) hd with h | ⟨_, p, hp, hon⟩
                · omega
                · have := hh.closed j p hp hl i hlt hon
                  rw [h0] at this; cases this
              rw [hci] at hci'
              rw [afterL_other hne hci']
              exact hh.new j t hj hd hl (fun i' hi' hl' hne' => hu i' hi' (hmono i' hl') hne')
          · rw [g5]
            by_cases e : i = j
            · subst e
              have hd' : o.dst ≠ some t := fun h => by have := hd i hin hset (hdi.trans h); omega
              rw [hci] at hc
              exact afterL_cut hd' hc
            · rw [getD_set_ne true e] at hl
              have hz := hh.gone j t hj hl hc fun i' hi' hl' hd' => hd i' hi' (hmono i' hl') hd'
              have hne : o.dst ≠ some t := fun h => by
                have hij := hd i hin hset (hdi.trans h)
                rcases consDst j t hj hc i hin e (hdi.trans h) with ⟨_, p, hp, hon⟩ | ⟨h', _⟩
                · have := hh.closed j p hp hl i hlt hon
                  rw [h0] at this; cases this
                · omega
              by_cases hcut : (if x.2 then consO (memN i mvs) o else none) = some t
              · exact afterL_cut hne hcut
              · rw [afterL_other hne hcut]; exact hz
          · rw [g7 k (hk i hin hset)]
            exact hh.mold k fun j hj hl => hk j hj (hmono j hl)
          · by_cases e : i = j
            · subst e; exact g6 k hw
            · rw [getD_set_ne true e] at hl
              rw [g7 k fun hwi => by
                have hij := hmax i hin hset hwi
                have hjs : j < ops.size := by omega
                have := closedP listed hh.lsz hh.closed j hjs hl i (meet i j k (by omega) hj hwi.2 hw.2 (.inl hwi.1))
                rw [h0] at this; cases this]
              exact hh.mnew j k hj hl hw fun q hq hlq hwq => hmax q hq (hmono q hlq) hwq
        have hmem : o ∈ ops.toList := by rw [← Array.getElem?_toList] at ho; exact List.mem_of_getElem? ho
        have hdN : ∀ t, o.dst = some t → t < a.tmps.size := fun t ht => by rw [hh.size]; exact hdst o hmem t ht
        have does : x.2 = true → stepG c (memN i mvs) o (lk E) (ms i) prK = some (x.1, m1) → notL x.1 = true → o.wp P a w (wpAny P .any ops Q fuel (listed.setIfInBounds i true)) Q := by
          intro hx2 hs hv
          have hfi' : fpT mvs ops Ls xs i = fpO (memN i mvs) o (lk E) := by rw [hfi, if_pos hx2]
          obtain ⟨m2, l1, l2, l3⟩ := stepG_local hC hs (m' := M) fun k hk => magree k (by rw [hfi']; exact hk)
          refine Oper.wp_mono (fun a' w' hN => ?_) (stepG_sound (Q := Q) (s := ⟨E, M⟩) hT hC hh.rs l1 hdN)
          obtain ⟨G', s', g1, g2, g3, g4⟩ := hN
          injection g4 with g4; subst g4
          have hn2 := noLent_rmO (consO (memN i mvs) o) hh.nol
          have hlk : lk (({ env := rmO E (consO (memN i mvs) o), mem := m2 } : St).dst o.dst x.1).env = afterL (lk E) (memN i mvs) o x ∧ noLent (({ env := rmO E (consO (memN i mvs) o), mem := m2 } : St).dst o.dst x.1).env = true ∧ (({ env := rmO E (consO (memN i mvs) o), mem := m2 } : St).dst o.dst x.1).mem = m2 := by
            unfold afterL
            rw [hx2]
            simp only [if_true]
            cases hd : o.dst with
            | none => exact ⟨by rw [updL_none]; exact lk_rmO E _, hn2, rfl⟩
            | some d => exact ⟨by rw [← lk_rmO]; exact lk_set hn2, noLent_set hn2 hv, rfl⟩
          have e : ∀ S : St, S.mem = m2 → RS X G0 w0 G' S a'.tmps w' → RS X G0 w0 G' ⟨S.env, m2⟩ a'.tmps w' := by
            rintro ⟨_, _⟩ rfl h; exact h
          exact next a' w' G' _ m2 (e _ hlk.2.2 g1) (g2.trans hh.size) (g3.trans hh.defs) hlk.2.1 hlk.1 (fun k hk => by
            rw [l2 k (by rw [← hfi']; exact hk.2), em]) (fun k hk => (l3 k (by rw [← hfi']; exact hk)).2)
        have skip : x = (.unit, false) → wpAny P .any ops Q fuel (listed.setIfInBounds i true) (a.put o.dst undef) w := by
          intro hx2
          have hsk := hh.rs.skip (d := o.dst)
          have e : afterL (lk E) (memN i mvs) o x = updL (lk E) o.dst (some .unit) := by rw [hx2]; rfl
          have hnw : ∀ k, ¬ wM mvs ops Ls xs i k := fun k hw => by
            have := hw.1
            rw [hfi, hx2] at this; cases this
          cases hd : o.dst with
          | none =>
            rw [hd] at hsk
            exact next _ w G E M hsk hh.size hh.defs hh.nol (by rw [e, hd, updL_none]) (fun k hk => absurd hk (hnw k)) (fun _ _ => rfl)
          | some d =>
            rw [hd] at hsk
            exact next _ w G _ M hsk ((put_size _ _ _).trans hh.size) ((put_defers _ _ _).trans hh.defs) (noLent_set hh.nol rfl) (by rw [e, hd]; exact lk_set hh.nol) (fun k hk => absurd hk (hnw k)) (fun _ _ => rfl)
        unfold wpOp
        simp only [ho]
        unfold Gives at hG
        cases hgd : o.guard with
        | none =>
          simp only [hgd] at hG
          obtain ⟨g1, g2, g3⟩ := hG
          rw [if_pos (by simp [Region.wanted, hgd])]
          exact .inl (does g1 g2 g3)
        | some jw =>
          obtain ⟨j, want⟩ := jw
          simp only [hgd] at hG
          obtain ⟨g, gv, g1, g2, g3⟩ := hG
          rcases g3 with ⟨rfl, f1, f2, f3⟩ | ⟨hgv, g3⟩
          · have hy := yielded_of hh.rs g1 g2
            rw [if_pos (by simp [Region.wanted, hgd, hy])]
            exact .inl (does f1 f2 f3)
          · rcases hgv with rfl | rfl
            · have hy := yielded_of hh.rs g1 g2
              rw [if_neg (by simp only [Region.wanted, hgd, hy]; cases want <;> simp)]
              exact skip g3.1
            · have hy := yielded_unit hh.rs g1 g2
              rw [if_neg (by simp [Region.wanted, hgd, hy])]
              exact skip g3.1
/-! ### A variable that may be made early or late -/
def nub : List (Nat × V) → List (Nat × V)
  | [] => []
  | (k, v) :: r => (k, v) :: rm (nub r) k
theorem lk_nub : ∀ (E : List (Nat × V)) (t : Nat), lk (nub E) t = lk E t
  | [], _ => rfl
  | (k, v) :: r, t => by
    show lk ((k, v) :: rm (nub r) k) t = _
    rw [lk_cons, lk_cons]
    by_cases h : k = t
    · rw [if_pos h, if_pos h]
    · rw [if_neg h, if_neg h, lk_rm_other h, lk_nub r t]
theorem noDup_cons {k : Nat} {v : V} {r : List (Nat × V)} (h1 : k ∉ keys r) (h2 : noDup r = true) : noDup ((k, v) :: r) = true := by
  simp only [noDup, Bool.and_eq_true, Bool.not_eq_true']
  refine ⟨?_, h2⟩
  cases hm : memN k (r.map (·.1)) with
  | false => rfl
  | true =>
    exfalso
    have : ∀ l : List Nat, memN k l = true → k ∈ l := by
      intro l
      induction l with
      | nil => intro h; cases h
      | cons q l ih =>
        intro h
        simp only [memN, Bool.or_eq_true] at h
        rcases h with h | h
        · have := beq_nat.1 h; subst this; simp
        · exact List.mem_cons_of_mem _ (ih h)
    exact h1 (this _ hm)
theorem noDup_rm (k : Nat) : ∀ (r : List (Nat × V)), noDup r = true → noDup (rm r k) = true
  | [], _ => rfl
  | (q, v) :: r, h => by
    have h' := h
    simp only [noDup, Bool.and_eq_true, Bool.not_eq_true'] at h
    rw [rm_cons]
    split
    · exact noDup_rm k r h.2
    · refine noDup_cons (fun hm => ?_) (noDup_rm k r h.2)
      exact memN_mem _ _ h.1 (keys_rm k r q hm).1
theorem noDup_nub : ∀ (E : List (Nat × V)), noDup (nub E) = true
  | [] => rfl
  | (k, v) :: r => noDup_cons (fun hm => (keys_rm k _ k hm).2 rfl) (noDup_rm k _ (noDup_nub r))
theorem noRef_mem {d : Nat} : ∀ {m : List (Nat × V)} {k : Nat} {v : V}, noRef d m = true → lk m k = some v → memN d v.refs = false
  | [], _, _, _, h => by cases h
  | (q, u) :: r, k, v, h, hl => by
    simp only [noRef, Bool.and_eq_true, Bool.not_eq_true'] at h
    rw [lk_cons] at hl
    split at hl
    · injection hl with hl; subst hl; exact h.1
    · exact noRef_mem h.2 hl
theorem noRef_of {d : Nat} : ∀ (m : List (Nat × V)), (∀ k v, (k, v) ∈ m → memN d v.refs = false) → noRef d m = true
  | [], _ => rfl
  | (k, v) :: r, h => by
    simp only [noRef, Bool.and_eq_true, Bool.not_eq_true']
    exact ⟨h k v (by simp), noRef_of r fun q u hq => h q u (by simp [hq])⟩
theorem alOk_spec {ops : Array Oper} {mvs : List Nat} {n : Nat} {o : Oper} (h : alOk ops mvs n o = true) : ∃ T d, o.op = .alloc T ∧ o.dst = some d ∧ o.guard = none ∧ ∀ j, j < n → dstAt ops j ≠ some d ∧ memN j mvs = false ∧ ∀ p, ops[j]? = some p → d ∉ p.looksAt ops := by
  unfold alOk at h
  split at h
  · rename_i T d h1 h2 h3
    simp only [List.all_eq_true, List.mem_range, Bool.and_eq_true, bne_iff_ne, ne_eq, Bool.not_eq_true'] at h
    refine ⟨T, d, h1, h2, h3, fun j hj => ⟨(h j hj).1.1, (h j hj).1.2, fun p hp => ?_⟩⟩
    have := (h j hj).2
    rw [hp] at this
    simpa using this
  · cases h
theorem consO_false {o : Oper} : consO false o = none := by
  have hh : ∀ l : List Operand, headT false l = none := by
    intro l
    cases l with
    | nil => rfl
    | cons x r => cases x <;> rfl
  have ht : ∀ x : Operand, tmpOf false x = none := fun x => by cases x <;> rfl
  unfold consO
  split <;> first | exact hh _ | exact ht _ | rfl
theorem alNo_spec {ops : Array Oper} {n d : Nat} {T : TypeId} {env : List (Nat × V)} {o : Oper} (h : alNo ops n env = true) (ho : ops[n]? = some o) (h1 : o.op = .alloc T) (h2 : o.dst = some d) : noRef d env = true := by
  obtain ⟨dst, op, ty, pos, after, guard⟩ := o
  simp only at h1 h2; subst h1; subst h2
  unfold alNo at h
  rw [ho] at h; exact h
theorem alM_spec {ops : Array Oper} {n d : Nat} {T : TypeId} {past : List (Nat × (List Nat × Bool))} {o : Oper} (h : alM ops n past = true) (ho : ops[n]? = some o) (h1 : o.op = .alloc T) (h2 : o.dst = some d) : ∀ x ∈ past, x.2.2 = false := by
  obtain ⟨dst, op, ty, pos, after, guard⟩ := o
  simp only at h1 h2; subst h1; subst h2
  unfold alM at h
  rw [ho] at h
  intro x hx
  simpa using List.all_eq_true.1 h x hx
theorem refsAt_val {L : Nat → Option V} {x : Operand} {k : Nat} (h : k ∈ refsAt L x) : ∃ t v, x = .tmp t ∧ L t = some v ∧ k ∈ v.refs := by
  cases x with
  | tmp t =>
    simp only [refsAt] at h
    split at h
    · rename_i v hv; exact ⟨t, v, rfl, hv, h⟩
    · cases h
  | _ => cases h
theorem fpO_val {mv : Bool} {o : Oper} {L : Nat → Option V} {k : Nat} (h : k ∈ (fpO mv o L).1) : ∃ t v, L t = some v ∧ k ∈ v.refs := by
  unfold fpO at h
  split at h
  · obtain ⟨t, v, _, h1, h2⟩ := refsAt_val h; exact ⟨t, v, h1, h2⟩
  · obtain ⟨t, v, _, h1, h2⟩ := refsAt_val h; exact ⟨t, v, h1, h2⟩
  · simp only [List.mem_append, List.mem_flatMap] at h
    rcases h with h | ⟨x, _, h⟩
    · obtain ⟨t, v, _, h1, h2⟩ := refsAt_val h; exact ⟨t, v, h1, h2⟩
    · obtain ⟨t, v, _, h1, h2⟩ := refsAt_val h; exact ⟨t, v, h1, h2⟩
  · cases h
/-- A variable more, to which nobody leads, where memory is not turned. -/
theorem Tr.more (hC : ∀ f e, lkN c.fns f = some e → CallOK P f e) {ops : Array Oper} {mvs : List Nat} {pr : List (List Nat)} {Ls : Nat → Nat → Option V} {ms : Nat → List (Nat × V)} {xs : Nat → V × Bool} {n d : Nat} {z u : V} (h : Tr c ops mvs pr Ls ms xs 0 n)
    (hn : ∀ j, j < n → ∀ (o : Oper), ops[j]? = some o → d ∉ o.looksAt ops ∧ o.dst ≠ some d) (hw : ∀ j k, j < n → ¬ wM mvs ops Ls xs j k) (hv : ∀ j, j ≤ n → ∀ t v, Ls j t = some v → d ∉ v.refs) :
    Tr c ops mvs pr (fun j t => if t = d then some u else Ls j t) (fun j => (d, z) :: ms j) xs 0 n := by
  have hfp : ∀ j, j < n → fpT mvs ops (fun j t => if t = d then some u else Ls j t) xs j = fpT mvs ops Ls xs j := fun j hj => by
    unfold fpT
    cases ho : ops[j]? with
    | none => rfl
    | some o =>
      simp only
      rw [fpO_congr (L' := Ls j) fun t ht => ?_]
      have : t ≠ d := fun e => by subst e; exact (hn j hj o ho).1 (mem_looks ht)
      simp only [if_neg this]
  refine ⟨fun j h1 h2 => ?_, fun p j h1 h2 h3 => ?_⟩
  · obtain ⟨o, m1, h3, h4, h5, h6⟩ := h.step j h1 h2
    obtain ⟨hn1, hn2⟩ := hn j h2 o h3
    have agree : ∀ t ∈ o.looksAt ops, Ls j t = (fun t => if t = d then some u else Ls j t) t := fun t ht => by
      have : t ≠ d := fun e => by subst e; exact hn1 ht
      simp only [if_neg this]
    have after : (fun t => if t = d then some u else Ls (j + 1) t) = afterL (fun t => if t = d then some u else Ls j t) (memN j mvs) o (xs j) := by
      rw [h6]
      funext t
      by_cases ht : t = d
      · subst ht
        rw [if_pos rfl, afterL_other hn2 (fun h => by
          split at h
          · exact hn1 (consO_looks h)
          · cases h), if_pos rfl]
      · rw [if_neg ht]
        unfold afterL
        have hcut : ∀ q : Option Nat, cutL (fun t => if t = d then some u else Ls j t) q t = cutL (Ls j) q t := fun q => by
          cases q with
          | none => show (if t = d then some u else Ls j t) = Ls j t; rw [if_neg ht]
          | some q => show (bif Nat.beq q t then none else (if t = d then some u else Ls j t)) = (bif Nat.beq q t then none else Ls j t); rw [if_neg ht]
        simp only [updL, hcut]
    have hG := Gives.congr agree h4
    have hmem : ∀ m2, stepG c (memN j mvs) o (fun t => if t = d then some u else Ls j t) (ms j) prK = some ((xs j).1, m2) → (xs j).2 = true → lk m2 = lk (ms (j + 1)) → ∃ m3, stepG c (memN j mvs) o (fun t => if t = d then some u else Ls j t) ((d, z) :: ms j) prK = some ((xs j).1, m3) ∧ lk m3 = lk ((d, z) :: ms (j + 1)) := by
      intro m2 hs hx hm2
      have hfo : fpT mvs ops (fun j t => if t = d then some u else Ls j t) xs j = fpO (memN j mvs) o (fun t => if t = d then some u else Ls j t) := by
        unfold fpT; rw [h3]; simp only [hx, if_true]
      have hno : ∀ k, ¬ ((fpO (memN j mvs) o (fun t => if t = d then some u else Ls j t)).2 = true ∧ k ∈ (fpO (memN j mvs) o (fun t => if t = d then some u else Ls j t)).1) := fun k hk => by
        rw [← hfo, hfp j h2] at hk
        exact hw j k h2 hk
      obtain ⟨m3, g1, _, g3⟩ := stepG_local hC hs (m' := (d, z) :: ms j) fun k hk => by
        rw [lk_cons, if_neg]
        intro e; subst e
        rw [← hfo, hfp j h2] at hk
        have : d ∈ (fpO (memN j mvs) o (Ls j)).1 := by
          unfold fpT at hk; rw [h3] at hk; simpa only [hx, if_true] using hk
        obtain ⟨t, v, ht, hv'⟩ := fpO_val this
        exact hv j (by omega) t v ht hv'
      refine ⟨m3, g1, ?_⟩
      funext k
      obtain ⟨g4, g5⟩ := g3 k (hno k)
      rw [g5, lk_cons, lk_cons, ← hm2, g4]
    obtain ⟨m3, hG3, hm3⟩ : ∃ m3, Gives c ops mvs ((d, z) :: ms j) j o (fun t => if t = d then some u else Ls j t) (xs j) m3 ∧ lk m3 = lk ((d, z) :: ms (j + 1)) := by
      unfold Gives at hG ⊢
      split at hG
      · obtain ⟨q1, q2, q3⟩ := hG
        obtain ⟨m3, g1, g2⟩ := hmem m1 q2 q1 h5
        exact ⟨m3, ⟨q1, g1, q3⟩, g2⟩
      · obtain ⟨g, gv, p1, p2, p3 | p3⟩ := hG
        · obtain ⟨m3, g1, g2⟩ := hmem m1 p3.2.2.1 p3.2.1 h5
          exact ⟨m3, ⟨g, gv, p1, p2, .inl ⟨p3.1, p3.2.1, g1, p3.2.2.2⟩⟩, g2⟩
        · refine ⟨(d, z) :: ms j, ⟨g, gv, p1, p2, .inr ⟨p3.1, p3.2.1, rfl⟩⟩, ?_⟩
          funext k
          rw [lk_cons, lk_cons, ← h5, p3.2.2]
    exact ⟨o, m3, h3, hG3, hm3, after⟩
  · rw [hfp j h3, hfp p (by omega)]; exact h.far p j h1 h2 h3
/-- The head, whose order is free, and the tail. -/
theorem head_sound {α : Type} {ops : Array Oper} {mvs lns : List Nat} {K : St → Option α} {res : α} {n N : Nat} {ds : List Deferred} {s1 : St} {pr : List (List Nat)} {Ls : Nat → Nat → Option V} {ms : Nat → List (Nat × V)} {xs : Nat → V × Bool} {past : List (Nat × (List Nat × Bool))} (hT : TT P c) (hC : ∀ f e, lkN c.fns f = some e → CallOK P f e) (hdst : ∀ o ∈ ops.toList, ∀ t, o.dst = some t → t < N) (hok : okFree ops mvs n = true) (hpr : okPre ops pr = true)
    (hQ : ∀ a' w' G' s', RS X G0 w0 G' s' a'.tmps w' → a'.tmps.size = N → a'.defers = ds → K s' = some res → Q .normal a' w') (hno : alNo ops n s.env = true)
    (htr : Tr c ops mvs pr Ls ms xs 0 n) (hL0 : Ls 0 = lk s.env) (hm0 : ms 0 = s.mem) (hLn : Ls n = lk s1.env) (hmn : ms n = s1.mem) (hpast : ∀ j, j < n → (fpT mvs ops Ls xs j).1 = [] ∨ (j, fpT mvs ops Ls xs j) ∈ past) (halm : alM ops n past = true)
    (hd1 : noDup s1.env = true) (hd2 : noDup s1.mem = true) (hnl1 : noLent s1.env = true) (hrun : runOps c ops mvs lns n (ops.toList.drop n) s1 K = some res) :
    ∀ (fuel : Nat) (listed : Array Bool) (a : Act) (w : World) (G : Gh) (E M : List (Nat × V)), unl listed ≤ fuel → Head X G0 w0 ops mvs n N ds Ls ms xs false listed a w G E M → wpAny P .any ops Q fuel listed a w := by
  obtain ⟨hn, hA, hF, hB⟩ := okFree_spec hok
  refine head_core (al := false) (n2 := n) (by simp) hT hC hdst hok hpr hQ htr hLn (by rw [hmn]) hd1 hd2 hrun fun _ o ho hao fuel listed a w G E M hu hh hi => ?_
  obtain ⟨T, d, ho1, ho2, ho3, hdj⟩ := alOk_spec hao
  have hns := alNo_spec hno ho ho1 ho2
  have hpw := alM_spec halm ho ho1 ho2
  have hlt := (Array.getElem?_eq_some_iff.1 ho).1
  have hdr : ops.toList.drop n = o :: ops.toList.drop (n + 1) := by
    rw [List.drop_eq_getElem_cons (by simpa using hlt)]
    congr 1
    have := (Array.getElem?_eq_some_iff.1 ho).2
    simpa using this
  rw [hdr] at hrun
  simp only [runOps, ho3] at hrun
  -- memory is not turned
  have hw : ∀ j k, j < n → ¬ wM mvs ops Ls xs j k := fun j k hj hwk => by
    rcases hpast j hj with h | h
    · rw [wM, h] at hwk; cases hwk.2
    · have := hpw _ h; rw [hwk.1] at this; cases this
  have hms : ∀ j, j ≤ n → lk (ms j) = lk s.mem := fun j hj => by
    funext k
    rw [← hm0]
    exact htr.memKeep hC (Nat.le_refl 0) j (by omega) hj fun q _ hq => hw q k (by omega)
  have hm : lk s1.mem = lk s.mem := by rw [← hmn]; exact hms n (Nat.le_refl _)
  have hM : lk M = lk s.mem := by
    funext k
    rw [hh.mold k (fun j hj _ => hw j k hj), hm0]
  -- what the text's order says of it
  obtain ⟨z, hz, hrun⟩ : ∃ z, c.zero T = some z ∧ (bif Nat.blt d 1000000 && (lk s1.mem d).isNone && noRef d s1.env && noRef d s1.mem then runOps c ops mvs lns (n + 1) (ops.toList.drop (n + 1)) ({ s1 with mem := (d, z) :: s1.mem }.set d (.ref d [])) K else none) = some res := by
    unfold stepO at hrun
    rw [ho1] at hrun
    simp only [ho2, Option.bind_eq_some_iff] at hrun
    obtain ⟨z, hz, hrun⟩ := hrun
    exact ⟨z, hz, hrun⟩
  obtain ⟨hchk, hrun⟩ := cond_then hrun
  have hchk' := hchk
  simp only [Bool.and_eq_true, Option.isNone_iff_eq_none] at hchk'
  obtain ⟨⟨⟨c1, c2⟩, c3⟩, c4⟩ := hchk'
  have mvn : ∀ j, j < n → ∀ t, consR ops mvs xs j ≠ some t := fun j hj t h => by
    obtain ⟨p, hp, hc⟩ := consR_spec h
    rw [(hdj j hj).2.1, consO_false] at hc; cases hc
  have uniq : ∀ j t, j < n → dstAt ops j = some t → ∀ j', j' < n → j' ≠ j → dstAt ops j' ≠ some t := by
    intro j t hj ht j' hj' hne h
    have hlt : j' < ops.size := by omega
    have := ((hF j' ops[j'] (Array.getElem?_eq_getElem hlt) hj' j hj hne).1 t ht).2
    simp [dstAt, Array.getElem?_eq_getElem hlt] at h
    exact this h
  have last : ∀ j t, j < n → dstAt ops j = some t → lk s1.env t = some (xs j).1 := fun j t hj hd => by
    rw [← hLn, htr.keep (Nat.zero_le (j + 1)) n (by omega) (Nat.le_refl _) (fun q h1 h2 => ⟨uniq j t hj hd q h2 (by omega), mvn q h2 t⟩), htr.at_dst (Nat.zero_le _) hj hd]
  have notIn : ∀ {v : V}, memN d v.refs = false → d ∉ v.refs := fun h => memN_mem _ _ h
  -- nobody leads to it
  have vals : ∀ j, j ≤ n → ∀ t v, Ls j t = some v → d ∉ v.refs := fun j hj t v hv => by
    by_cases hq : ∃ q, q < j ∧ dstAt ops q = some t
    · obtain ⟨q, hq, hd⟩ := hq
      rw [htr.keep (Nat.zero_le (q + 1)) j (by omega) hj (fun p h1 h2 => ⟨uniq q t (by omega) hd p (by omega) (by omega), mvn p (by omega) t⟩), htr.at_dst (Nat.zero_le _) (by omega) hd] at hv
      have := last q t (by omega) hd
      rw [hv] at this
      exact notIn (noRef_mem c3 this)
    · rw [htr.keep (Nat.le_refl 0) j (by omega) hj (fun p _ h2 => ⟨fun h => hq ⟨p, h2, h⟩, mvn p (by omega) t⟩), hL0] at hv
      exact notIn (noRef_mem hns hv)
  have nref : noRef d (nub E) = true := noRef_of _ fun k v hk => by
    have hkv := lk_noDup _ k v (noDup_nub E) hk
    rw [lk_nub] at hkv
    by_cases hj : ∃ j, j < n ∧ listed.getD j true = true ∧ dstAt ops j = some k
    · obtain ⟨j, hj, hl, hd⟩ := hj
      have e1 := hh.new j k hj hd hl (fun i' hi' _ _ h => absurd h (mvn i' hi' k))
      have e2 := last j k hj hd
      rw [hkv] at e1
      rw [← e1] at e2
      exact noRef_mem c3 e2
    · have e1 := hh.old k fun j hj2 hl => ⟨fun h => hj ⟨j, hj2, hl, h⟩, mvn j hj2 k⟩
      rw [hkv, hL0] at e1
      exact noRef_mem hns e1.symm
  have mref : noRef d (nub M) = true := noRef_of _ fun k v hk => by
    have hkv := lk_noDup _ k v (noDup_nub M) hk
    rw [lk_nub, hM, ← hm] at hkv
    exact noRef_mem c4 hkv
  have hR2 : RS X G0 w0 G ⟨nub E, nub M⟩ a.tmps w := hh.rs.same2 hh.nol (noDup_nub E) (by funext t; exact lk_nub E t) (noDup_nub M) (by funext t; exact lk_nub M t)
  have hnlE : noLent (nub E) = true := by
    have : ∀ E : List (Nat × V), noLent E = true → noLent (nub E) = true := by
      intro E
      induction E with
      | nil => intro _; rfl
      | cons q E ih =>
        obtain ⟨k, v⟩ := q
        intro h
        have h' := h
        simp only [noLent, Bool.and_eq_true] at h'
        show noLent ((k, v) :: rm (nub E) k) = true
        simp only [noLent, Bool.and_eq_true]
        exact ⟨h'.1, noLent_rm _ k (ih h'.2)⟩
    exact this E hh.nol
  have hstep : stepO c false false o ⟨nub E, nub M⟩ some = some ({ (⟨nub E, nub M⟩ : St) with mem := (d, z) :: nub M }.set d (.ref d [])) := by
    unfold stepO
    rw [ho1]
    simp only [ho2, hz, Option.bind_some]
    have : (Nat.blt d 1000000 && (lk (nub M) d).isNone && noRef d (nub E) && noRef d (nub M)) = true := by
      simp only [Bool.and_eq_true, Option.isNone_iff_eq_none]
      rw [lk_nub, hM, ← hm]
      exact ⟨⟨⟨c1, c2⟩, nref⟩, mref⟩
    rw [this]; rfl
  have hmem : o ∈ ops.toList := by rw [← Array.getElem?_toList] at ho; exact List.mem_of_getElem? ho
  unfold wpOp
  simp only [ho]
  rw [if_pos (by simp [Region.wanted, ho3])]
  refine .inl (Oper.wp_mono (fun a' w' hN => ?_) (stepO_sound (Q := Q) hT hC hR2 hstep (fun t ht => by rw [hh.size]; exact hdst o hmem t ht)))
  obtain ⟨G', s', g1, g2, g3, g4⟩ := hN
  injection g4 with g4; subst g4
  -- from here on it is there
  have htr' := htr.more hC (d := d) (z := z) (u := .ref d []) (fun j hj p hp => ⟨(hdj j hj).2.2 p hp, fun h => (hdj j hj).1 (by simp [dstAt, hp, h])⟩) hw vals
  have hfp : ∀ j, j < n → fpT mvs ops (fun j t => if t = d then some (V.ref d []) else Ls j t) xs j = fpT mvs ops Ls xs j := fun j hj => by
    unfold fpT
    cases hp : ops[j]? with
    | none => rfl
    | some p =>
      simp only
      rw [fpO_congr (L' := Ls j) fun t ht => ?_]
      have : t ≠ d := fun e => by subst e; exact (hdj j hj).2.2 p hp (mem_looks ht)
      simp only [if_neg this]
  have hw' : ∀ j k, j < n → ¬ wM mvs ops (fun j t => if t = d then some (V.ref d []) else Ls j t) xs j k := fun j k hj h => by
    unfold wM at h
    rw [hfp j hj] at h
    exact hw j k hj h
  have hset : ∀ t, lk ((d, V.ref d []) :: rmW (nub E) d) t = if t = d then some (V.ref d []) else lk E t := fun t => by
    rw [lk_set hnlE]
    simp only [updL, Option.some.injEq]
    by_cases h : t = d
    · rw [if_pos h, if_pos h.symm]
    · rw [if_neg h, if_neg (fun e => h e.symm), lk_nub]
  have hset2 : (listed.setIfInBounds n true).getD n true = true := by simp [Array.getD, hh.lsz, hlt]
  have h0 := (mem_ready.1 hi).1
  have hmono : ∀ j, listed.getD j true = true → (listed.setIfInBounds n true).getD j true = true := fun j hj => by
    by_cases e : n = j
    · subst e; exact hset2
    · rw [getD_set_ne true e]; exact hj
  refine head_core (al := true) (n2 := n + 1) (s1 := { s1 with mem := (d, z) :: s1.mem }.set d (.ref d [])) (by simp) hT hC hdst hok hpr hQ htr' ?_ ?_ ?_ ?_ hrun (fun h => by cases h) fuel _ a' w' G' ((d, .ref d []) :: rmW (nub E) d) ((d, z) :: nub M) (by have := unl_set h0; omega)
    ⟨g1, noLent_set hnlE rfl, g2.trans hh.size, g3.trans hh.defs, by simp [hh.lsz], fun j hj hj' => ?_, fun j p hp hl i' hi' hon => ?_, fun t ht => ?_, fun j t hj hd hl hu => ?_, fun j t hj hl hc hd => absurd hc (mvn j hj t), fun k _ => ?_, fun j k hj _ hwk _ => absurd hwk (hw' j k hj)⟩
  · show (fun t => if t = d then some (V.ref d []) else Ls n t) = lk ((d, .ref d []) :: rmW s1.env d)
    rw [lk_set hnl1, hLn]
    funext t
    simp only [updL, Option.some.injEq]
    by_cases h : t = d
    · rw [if_pos h, if_pos h.symm]
    · rw [if_neg h, if_neg (fun e => h e.symm)]
  · show lk ((d, z) :: ms n) = lk ((d, z) :: s1.mem)
    rw [hmn]
  · show noDup ((d, .ref d []) :: rmW s1.env d) = true
    rw [rmW_noLent _ _ hnl1]
    exact noDup_cons (fun h => (keys_rm d _ d h).2 rfl) (noDup_rm d _ hd1)
  · show noDup ((d, z) :: s1.mem) = true
    exact noDup_cons (lk_none _ _ c2) hd2
  · by_cases e : n = j
    · subst e; rw [hset2]; simp
    · rw [getD_set_ne true e, hh.late j hj hj']
      have : Nat.beq j n = false := by cases hb : Nat.beq j n with
        | false => rfl
        | true => exact absurd (beq_nat.1 hb).symm e
      rw [this]; rfl
  · by_cases e : n = j
    · subst e
      rw [ho] at hp; injection hp with hp; subst hp
      obtain ⟨_, o', ho', hall⟩ := mem_ready.1 hi
      rw [ho] at ho'; injection ho' with ho'; subst ho'
      have := onB_listed hon hall
      rw [getD_two (by have := hh.lsz; omega) false true] at this
      exact hmono i' this
    · rw [getD_set_ne true e] at hl
      exact hmono i' (hh.closed j p hp hl i' hi' hon)
  · rw [hset]
    by_cases h : t = d
    · simp only [if_pos h]
    · simp only [if_neg h]
      exact hh.old t fun j hj hl => ht j hj (hmono j hl)
  · have htd : t ≠ d := fun e => by subst e; exact (hdj j hj).1 hd
    rw [hset, if_neg htd]
    rw [getD_set_ne true (by omega)] at hl
    exact hh.new j t hj hd hl (fun i' hi' _ _ h => absurd h (mvn i' hi' t))
  · show lk ((d, z) :: nub M) k = lk ((d, z) :: ms 0) k
    rw [lk_cons, lk_cons, lk_nub, hM, hm0]
end Go.Proofs.YtoikjekpckhgeaaGreat.Pal
end
section
/- What was the call's own is data from here on. -/
namespace Go.Proofs.YtoikjekpckhgeaaGreat.Pal
open Go
variable [MonoC]
variable {P : Program} {X Y : Nat → Nat → Prop} {G0 G G' : Gh} {w0 w w' : World} {s : St} {a : Act} {c : Cx} {Q : Exit → Act → World → Prop}

theorem All2.len {e : Ty} {I : Im} {xs : List e.D} {cc : List Value} (h : All2 (DRep I e) xs cc) : cc.length = xs.length * e.cells := All2.length (fun x c => DRep.length e x c) xs cc h
theorem cell_of {g : Nat} {cells : Array Value} {t : TypeId} {fr : Nat × Nat} (h : w.heap[g]? = some (.cells cells t fr)) (o : Nat) : w.cell? ⟨g, o, none⟩ = cells[o]? := by
  simp only [World.cell?, h]; simp
theorem RS.frz1 {tmps : Array Value} {t : Nat} {e : Ty} {xs : List e.D} (hR : RS X G0 w0 G s tmps w) (hl : lk s.env t = some (.raw e xs)) : ∃ G', RS X G0 w0 G' ⟨(t, .own e xs) :: rm s.env t, s.mem⟩ tmps w := by
  obtain ⟨hB, tE, tM, h1, h2, h3, h4⟩ := hR
  obtain ⟨t1, t2, hc, ⟨cs, ⟨ad, len, cap, e1, e2, e3, e4⟩, hx⟩, hE⟩ := EnvRep.find t s.env tE _ h1 hl trivial
  rcases e4 with ⟨hcap, rfl⟩ | ⟨g, ha, rfl, ⟨cells, ty, cc, hg, hs, hA, hcc⟩, hI, hO⟩
  · exact ⟨G, hB, [] ++ t2, tM, (EnvRep.cons (v := .own e xs) trivial).2 ⟨[], t2, rfl, ⟨cs, ⟨ad, len, cap, e1, e2, e3, .inl ⟨hcap, rfl⟩⟩, hx⟩, hE⟩, h2, fun g => by have := hc g; have := h3 g; simp; omega, fun g hg => h4 g (by have := hc g; simp at hg; omega)⟩
  · have hcl := hA.len
    let G' : Gh := { G with I := fun b o => if b = g then cc[o]? else G.I b o }
    have hg1 : cnt g t2 = 0 ∧ cnt g tM = 0 := by
      have h5 := hc g; have h6 := h3 g
      have : cnt g [g] = 1 := by simp [cnt]
      omega
    have hEv : Ev (fun b _ => b = g) G w G' w := by
      refine ⟨Evo.refl _ w, fun b o v hv => ?_, fun b o v hv => ?_, fun _ _ _ => rfl⟩
      · show (if b = g then cc[o]? else G.I b o) = some v
        by_cases hb : b = g
        · subst hb; rw [hI o] at hv; cases hv
        · rw [if_neg hb]; exact hv
      · by_cases hb : b = g
        · exact .inr (.inr hb)
        · refine .inl ?_
          have : (if b = g then cc[o]? else G.I b o) = some v := hv
          rwa [if_neg hb] at this
    have hW : Wf G' w := by
      refine ⟨fun b o v hv => ?_, fun b o v hv => ?_, hB.wf.lt⟩
      · have hv' : (if b = g then cc[o]? else G.I b o) = some v := hv
        by_cases hb : b = g
        · subst hb; rw [if_pos rfl] at hv'; rw [cell_of hg]; exact hcc o v hv'
        · rw [if_neg hb] at hv'; exact hB.wf.holds b o v hv'
      · have hv' : (if b = g then cc[o]? else G.I b o) = some v := hv
        by_cases hb : b = g
        · subst hb; exact hO o
        · rw [if_neg hb] at hv'; exact hB.wf.io b o v hv'
    have hgt : 0 < cnt g tE := by
      have := hc g
      have : cnt g [g] = 1 := by simp [cnt]
      omega
    have hB' := hB.step hEv hW (fun _ => rfl) (fun b o hb he => by
      subst he
      rcases h4 b (by omega) with h | h
      · omega
      · exact h o)
    have hE' : EnvRep G' w tmps (rm s.env t) t2 := EnvRep.ev hEv _ t2 (fun _ _ => rfl) (fun g' hg' _ he => by subst he; have := cnt_pos.1 hg'; omega) hE
    have hM' : MemRep G' w s.mem tM := MemRep.ev hEv _ tM (fun _ _ => rfl) (fun _ _ => rfl) (fun g' hg' _ he => by subst he; have := cnt_pos.1 hg'; omega) (fun k _ b o hk he => by subst he; rw [hO o] at hk; cases hk) h2
    have hat : AtI G'.I g 0 cc := fun j v hj => by show (if g = g then cc[0 + j]? else _) = _; rw [if_pos rfl, Nat.zero_add]; exact hj
    refine ⟨G', hB', [g] ++ t2, tM, (EnvRep.cons (v := .own e xs) trivial).2 ⟨[g], t2, rfl, ⟨cs, ⟨ad, len, cap, e1, e2, e3, .inr ⟨g, ha, rfl, ?_, ⟨cells, ty, hg, hs⟩, fun o ho => ?_, hO⟩⟩, hx⟩, hE'⟩, hM', fun g' => by have h5 := hc g'; have h6 := h3 g'; rw [cnt_append]; omega, fun g' hg' => h4 g' (by have h5 := hc g'; rw [cnt_append] at hg'; omega)⟩
    · exact Elems.mono (Im.le_refl _) (fun x c h => DRep.mono hEv.le e x c h) (All2.elems (fun x c => DRep.length e x c) xs cc g 0 hA hat)
    · show (if g = g then cc[o]? else _) = none
      rw [if_pos rfl, List.getElem?_eq_none (by rw [hcl, e2]; exact ho)]
theorem RS.frz {tmps : Array Value} : ∀ (l : List Nat) (s : St) (G : Gh), RS X G0 w0 G s tmps w → ∃ G', RS X G0 w0 G' (s.frz l) tmps w
  | [], s, G, h => ⟨G, h⟩
  | t :: l, s, G, h => by
    show ∃ G', RS X G0 w0 G' { s with env := Pal.frz s.env (t :: l) } tmps w
    unfold Pal.frz
    split
    · rename_i e xs hl
      obtain ⟨G1, h1⟩ := h.frz1 hl
      exact RS.frz l ⟨_, s.mem⟩ G1 h1
    · exact RS.frz l s G h
theorem flat_DRep {I J : Im} : ∀ (τ : Ty) (x : τ.D) (cs : List Value), flat τ = true → DRep I τ x cs → DRep J τ x cs
  | .int _, _, _, _, h => h
  | .bool, _, _, _, h => h
  | .str, _, _, _, h => h
  | .slc e, _, _, hf, _ => by simp [flat] at hf
  | .arr n e, xs, cs, hf, ⟨h1, h2⟩ => ⟨h1, All2.mono (fun x c => flat_DRep e x c hf) _ _ h2⟩
  | .pair a b, x, cs, hf, ⟨c1, c2, h, h1, h2⟩ => by
    simp only [flat, Bool.and_eq_true] at hf
    exact ⟨c1, c2, h, flat_DRep a _ _ hf.1 h1, flat_DRep b _ _ hf.2 h2⟩
/-- A list that is new, and that nobody else looks at. -/
theorem thaw {e : Ty} {xs : List e.D} {x : Value} {ts : List Nat} (hf : flat e = true) (hW : Wf G w) (hnew : ∀ g, 0 < cnt g ts → w0.heap.size ≤ g) (hW0 : Wf G0 w0) (hE : Ev X G0 w0 G w) (h : TRep G w (.own e xs) x ts) :
    ∃ G', Ev X G0 w0 G' w ∧ Wf G' w ∧ G'.ρ = G.ρ ∧ TRep G' w (.raw e xs) x ts := by
  obtain ⟨cs, ⟨ad, len, cap, e1, e2, e3, e4⟩, hx⟩ := h
  rcases e4 with ⟨hcap, rfl⟩ | ⟨g, ha, rfl, hel, ⟨cells, t, hg, hs⟩, hI, hO⟩
  · exact ⟨G, hE, hW, rfl, cs, ⟨ad, len, cap, e1, e2, e3, .inl ⟨hcap, rfl⟩⟩, hx⟩
  · have hgn := hnew g (by simp [cnt])
    let G' : Gh := { G with I := fun b o => if b = g then none else G.I b o }
    have hI' : ∀ b o v, G'.I b o = some v → b ≠ g ∧ G.I b o = some v := fun b o v hv => by
      have : (if b = g then none else G.I b o) = some v := hv
      by_cases hb : b = g
      · rw [if_pos hb] at this; cases this
      · rw [if_neg hb] at this; exact ⟨hb, this⟩
    refine ⟨G', ⟨hE.evo, fun b o v hv => ?_, fun b o v hv => hE.grow b o v (hI' b o v hv).2, hE.own⟩, ⟨fun b o v hv => hW.holds b o v (hI' b o v hv).2, fun b o v hv => hW.io b o v (hI' b o v hv).2, hW.lt⟩, rfl, cs, ⟨ad, len, cap, e1, e2, e3, .inr ⟨g, ha, rfl, ?_, fun o => by show (if g = g then none else _) = none; rw [if_pos rfl], hO⟩⟩, hx⟩
    · have hb := World.block_lt_of_cell? w0 _ (hW0.holds b o v hv)
      show (if b = g then none else G.I b o) = some v
      have hb' : b < w0.heap.size := hb
      rw [if_neg (by omega)]
      exact hE.le b o v hv
    · obtain ⟨cc, hA, hat⟩ := Elems.all2 (fun x c => DRep.length e x c) xs g 0 hel
      refine ⟨cells, t, cc, hg, hs, All2.mono (fun x c => flat_DRep e x c hf) _ _ hA, fun j v hj => ?_⟩
      have := hat j v hj
      rw [Nat.zero_add] at this
      rw [← cell_of hg]; exact hW.holds g j v this
theorem Ev.mono {Y : Nat → Nat → Prop} (h : Ev X G w G' w') (k : ∀ b o, X b o → Y b o) : Ev Y G w G' w' :=
  ⟨⟨h.evo.os, h.evo.tape, h.evo.output, h.evo.size, fun b hb => (h.evo.block b hb).mono fun j => k b j, h.evo.drawn⟩, h.le, fun b o v hv => (h.grow b o v hv).imp id fun h => h.imp id (k b o), h.own⟩
end Go.Proofs.YtoikjekpckhgeaaGreat.Pal
end
section
/- Code: what the abstract run answers, the machine's run ends in. -/
namespace Go.Proofs.YtoikjekpckhgeaaGreat.Pal
open Go
variable [MonoC]
variable {P : Program} {X Y : Nat → Nat → Prop} {G0 G G' : Gh} {w0 w w' : World} {s : St} {a : Act} {c : Cx} {Q : Exit → Act → World → Prop}

/-- What is asked of a code's text. -/
def okCode (c : Cx) (N : Nat) : Code → Bool
  | .region id ops dr => ops.toList.all (fun o => match o.dst with | some t => Nat.blt t N | none => true) && (!dr || match lkN c.regs id with | some ri => okFree ops ri.moves ri.quiet && okPre ops ri.pre | none => true)
  | .seq a b => okCode c N a && okCode c N b
  | .cond _ a b => okCode c N a && okCode c N b
  | .block _ b => okCode c N b
  | .loop b => okCode c N b
  | _ => true
def Ex.toExit : Ex → Exit
  | .normal => .normal
  | .exit i => .exit i
  | .ret => .ret
/-- What is known where the code is left. -/
def Left {α : Type} (X : Nat → Nat → Prop) (G0 : Gh) (w0 : World) (N : Nat) (ds : List Deferred) (K : Ex → St → Option α) (res : α) (Q : Exit → Act → World → Prop) : Prop :=
  ∀ e a' w' G' s', RS X G0 w0 G' s' a'.tmps w' → a'.tmps.size = N → a'.defers = ds → K e s' = some res → Q e.toExit a' w'
section
variable {α : Type} {K : Ex → St → Option α} {res : α} {N : Nat} {ds : List Deferred}
theorem thenK_left {Q1 : Act → World → Prop} {g : St → Option α} (hL : Left X G0 w0 N ds K res Q) (h : ∀ a' w' G' s', RS X G0 w0 G' s' a'.tmps w' → a'.tmps.size = N → a'.defers = ds → g s' = some res → Q1 a' w') :
    Left X G0 w0 N ds (thenK g K) res (Exit.then Q1 Q) := by
  intro e a' w' G' s' h1 h2 h3 h4
  cases e with
  | normal => exact h a' w' G' s' h1 h2 h3 h4
  | exit i => exact hL (.exit i) a' w' G' s' h1 h2 h3 h4
  | ret => exact hL .ret a' w' G' s' h1 h2 h3 h4
theorem blockK_left {id : Nat} (hL : Left X G0 w0 N ds K res Q) : Left X G0 w0 N ds (blockK id K) res (Exit.inBlock id Q) := by
  intro e a' w' G' s' h1 h2 h3 h4
  cases e with
  | normal => exact hL .normal a' w' G' s' h1 h2 h3 h4
  | ret => exact hL .ret a' w' G' s' h1 h2 h3 h4
  | exit i =>
    simp only [blockK] at h4
    show Exit.inBlock id Q (.exit i) a' w'
    simp only [Exit.inBlock]
    by_cases e : i = id
    · rw [if_pos e]
      have : Nat.beq i id = true := beq_nat.2 e
      rw [this] at h4
      exact hL .normal a' w' G' s' h1 h2 h3 h4
    · rw [if_neg e]
      have : Nat.beq i id = false := by rw [Bool.eq_false_iff]; intro z; exact e (Nat.eq_of_beq_eq_true z)
      rw [this] at h4
      exact hL (.exit i) a' w' G' s' h1 h2 h3 h4
end
theorem run_sound (hT : TT P c) (hC : ∀ f e, lkN c.fns f = some e → CallOK P f e) (hm : P.follows .mixedOrders = true) {N : Nat} {ds : List Deferred} {α : Type} {res : α} :
    ∀ (code : Code), okCode c N code = true → ∀ (K : Ex → St → Option α) (Q : Exit → Act → World → Prop) (s : St) (a : Act) (w : World) (G : Gh), Left X G0 w0 N ds K res Q →
      run c code s K = some res → RS X G0 w0 G s a.tmps w → a.tmps.size = N → a.defers = ds → code.wp P Q a w := by
  intro code
  induction code with
  | skip =>
    intro _ K Q s a w G hL h hR hN hd
    exact wp_skip (hL .normal a w G s hR hN hd h)
  | exit id =>
    intro _ K Q s a w G hL h hR hN hd
    exact wp_exit (hL (.exit id) a w G s hR hN hd h)
  | ret =>
    intro _ K Q s a w G hL h hR hN hd
    exact wp_ret (hL .ret a w G s hR hN hd h)
  | seq x y ihx ihy =>
    intro hok K Q s a w G hL h hR hN hd
    simp only [okCode, Bool.and_eq_true] at hok
    refine wp_seq (ihx hok.1 (thenK (fun s' => run c y s' K) K) _ s a w G (thenK_left hL fun a' w' G' s' h1 h2 h3 h4 => ihy hok.2 K Q s' a' w' G' hL h4 h1 h2 h3) h hR hN hd)
  | cond x y z ihx ihy =>
    intro hok K Q s a w G hL h hR hN hd
    simp only [okCode, Bool.and_eq_true] at hok
    change ((opd none s x).bind fun v => match v with
      | .dat .bool t => br t (run c y s K) (run c z s K)
      | _ => none) = some res at h
    rw [Option.bind_eq_some_iff] at h
    obtain ⟨v, hv, h⟩ := h
    have hr := opd_rep hR hv
    split at h
    · rename_i t
      rcases br_cases h with ⟨rfl, h⟩ | ⟨rfl, h⟩
      · exact wp_cond_true hr.dat_bool (ihx hok.1 K Q s a w G hL h hR hN hd)
      · exact wp_cond_false hr.dat_bool (ihy hok.2 K Q s a w G hL h hR hN hd)
    · cases h
  | block id b ih =>
    intro hok K Q s a w G hL h hR hN hd
    exact wp_block (ih hok (blockK id K) _ s a w G (blockK_left hL) h hR hN hd)
  | loop b ih =>
    intro hok K Q s a w G hL h hR hN hd
    change ((lkN c.regs (firstReg b)).bind fun ri => rounds (firstReg b) (run c b) (prune ri.head ri.headM) K c.fuel (prune ri.head ri.headM s)) = some res at h
    rw [Option.bind_eq_some_iff] at h
    obtain ⟨ri, _, h⟩ := h
    have key : ∀ (n : Nat) (s : St) (a : Act) (w : World) (G : Gh), rounds (firstReg b) (run c b) (prune ri.head ri.headM) K n s = some res → RS X G0 w0 G s a.tmps w → a.tmps.size = N → a.defers = ds → Code.rounds P b Q n a w := by
      intro n
      induction n with
      | zero => intro s a w G h; cases h
      | succ n ihn =>
        intro s a w G h hR hN hd
        rw [rounds_succ]
        refine ih hok _ _ s a w G (thenK_left hL fun a' w' G' s' h1 h2 h3 h4 => ?_) h hR hN hd
        exact ihn _ a' w' G' h4 (h1.prune _ _) h2 h3
    exact wp_loop_rounds c.fuel (key c.fuel _ a w G h (hR.prune _ _) hN hd)
  | region id ops dr =>
    intro hok K Q s a w G hL h hR hN hd
    simp only [okCode, Bool.and_eq_true, List.all_eq_true] at hok
    obtain ⟨hd1, hfr⟩ := hok
    have hdst : ∀ o ∈ ops.toList, ∀ t, o.dst = some t → t < N := by
      intro o ho t ht
      have := hd1 o ho
      rw [ht] at this
      exact Nat.le_of_ble_eq_true this
    change ((lkN c.regs id).bind fun ri =>
      bif dr then bif noLent (s.frz ri.frz).env && alNo ops ri.quiet (s.frz ri.frz).env then runQ c ops ri.moves ri.pre 0 ri.quiet [] ops.toList (s.frz ri.frz) fun past r s1 => bif noDup s1.env && noDup s1.mem && alM ops ri.quiet past then runOps c ops ri.moves ri.lends ri.quiet r s1 fun s' => K .normal (prune ri.live ri.mem { s' with env := settle s'.env }) else none else none
      else runOps c ops ri.moves ri.lends 0 ops.toList (s.frz ri.frz) fun s' => K .normal (prune ri.live ri.mem { s' with env := settle s'.env })) = some res at h
    rw [Option.bind_eq_some_iff] at h
    obtain ⟨ri, hri, h⟩ := h
    obtain ⟨G, hR⟩ := RS.frz ri.frz s G hR
    generalize hsz : s.frz ri.frz = s at h hR
    clear hsz
    have hQ : ∀ a' w' G' s', RS X G0 w0 G' s' a'.tmps w' → a'.tmps.size = N → a'.defers = ds → (fun s' : St => K .normal (prune ri.live ri.mem { s' with env := settle s'.env })) s' = some res → Q .normal a' w' := by
      intro a' w' G' s' h1 h2 h3 h4
      exact hL .normal a' w' G' _ (h1.settle.prune _ _) h2 h3 h4
    cases dr with
    | false =>
      simp only [cond_false] at h
      refine wp_region ?_
      rw [List.range_eq_range']
      have := runOps_sound (n := N) hT hC hdst hQ ops.toList 0 s a w G (by simp) h hR hN hd
      simpa using this
    | true =>
      simp only [cond_true] at h
      obtain ⟨hnl, h⟩ := cond_then h
      rw [Bool.and_eq_true] at hnl
      obtain ⟨hnl, hno⟩ := hnl
      have hfr0 : (okFree ops ri.moves ri.quiet && okPre ops ri.pre) = true := by
        simp only [Bool.not_true, Bool.false_or, hri] at hfr; exact hfr
      rw [Bool.and_eq_true] at hfr0
      obtain ⟨hfr', hpr⟩ := hfr0
      have hq := (okFree_spec hfr').1
      obtain ⟨Ls, ms, xs, s1, past, e2, e4, e5, f1, f2, f3, f4, _, f6, _⟩ := runQ_trace hC ri.quiet ops.toList 0 [] s (by simp) h hnl
      have hmin : 0 + min ri.quiet ops.toList.length = ri.quiet := by rw [Nat.zero_add, Nat.min_eq_left (by simpa using hq)]
      rw [hmin] at e5 f3 f4 f6
      obtain ⟨hnd, e2⟩ := cond_then e2
      simp only [Bool.and_eq_true] at hnd
      refine wp_region_any hm ?_
      refine head_sound (s := s) (s1 := s1) (G0 := G0) (w0 := w0) (X := X) hT hC hdst hfr' hpr hQ hno e5 f1 f2 f3 f4 (fun j hj => f6 j (Nat.zero_le _) hj) hnd.2 hnd.1.1 hnd.1.2 e4 e2 ops.size (Array.replicate ops.size false) a _ G s.env s.mem ?_ ⟨?_, hnl, hN, hd, by simp, fun j _ hj => by simp [Array.getD, hj], fun j o ho hl => ?_, fun _ _ => by rw [f1], fun j t hj _ hl => ?_, fun j t hj hl => ?_, fun _ _ => by rw [f2], fun j k hj hl => ?_⟩
      · unfold unl
        simp
      · exact hR.drew
      · have : j < ops.size := (Array.getElem?_eq_some_iff.1 ho).1
        simp [Array.getD, this] at hl
      · have : j < ops.size := by omega
        simp [Array.getD, this] at hl
      · have : j < ops.size := by omega
        simp [Array.getD, this] at hl
      · have : j < ops.size := by omega
        simp [Array.getD, this] at hl
  | _ =>
    intro _ K Q s a w G hL h hR hN hd
    cases h
end Go.Proofs.YtoikjekpckhgeaaGreat.Pal
end
section
/- Functions: what the abstract run of a body gives, the function's call gives. -/
namespace Go.Proofs.YtoikjekpckhgeaaGreat.Pal
open Go
variable [MonoC]
variable {P : Program} {X Y : Nat → Nat → Prop} {G0 G G' : Gh} {w0 w w' : World} {s : St} {a : Act} {c : Cx} {Q : Exit → Act → World → Prop}

/-! ### Data among what is handed over -/
def AsL : List Ty → List V → List V → Prop
  | [], vs, us => vs = [] ∧ us = []
  | τ :: r, vs, us => ∃ v vs' y us', vs = v :: vs' ∧ us = .dat τ y :: us' ∧ V.as τ v = some y ∧ AsL r vs' us'
theorem dec_asL : ∀ (ts : List Ty) (vs : List V) (x : Dl ts), Dl.dec ts vs = some x → AsL ts vs (Dl.enc ts x)
  | [], [], x, _ => ⟨rfl, rfl⟩
  | [], _ :: _, x, h => by simp [Dl.dec] at h
  | [τ], [], x, h => by simp [Dl.dec] at h
  | [τ], [v], x, h => ⟨v, [], x, [], rfl, rfl, h, rfl, rfl⟩
  | [τ], _ :: _ :: _, x, h => by simp [Dl.dec] at h
  | τ :: τ' :: r, [], x, h => by simp [Dl.dec] at h
  | τ :: τ' :: r, v :: vs, x, h => by
    simp only [Dl.dec, Option.bind_eq_some_iff] at h
    obtain ⟨x1, h1, y, h2, h3⟩ := h
    injection h3 with h3; subst h3
    exact ⟨v, vs, x1, _, rfl, rfl, h1, dec_asL (τ' :: r) vs y h2⟩
theorem AsL.lengths : ∀ {ts : List Ty} {vs us : List V}, AsL ts vs us → vs.length = ts.length ∧ us.length = ts.length
  | [], _, _, ⟨h1, h2⟩ => by subst h1; subst h2; exact ⟨rfl, rfl⟩
  | τ :: r, _, _, ⟨v, vs, y, us, h1, h2, _, h4⟩ => by subst h1; subst h2; have := AsL.lengths h4; simp [this]
theorem AsL.split : ∀ {t1 t2 : List Ty} {v1 v2 us : List V}, AsL (t1 ++ t2) (v1 ++ v2) us → v1.length = t1.length → AsL t1 v1 (us.take t1.length) ∧ AsL t2 v2 (us.drop t1.length)
  | [], t2, v1, v2, us, h, hl => by
    have : v1 = [] := List.eq_nil_of_length_eq_zero hl
    subst this
    exact ⟨⟨rfl, rfl⟩, h⟩
  | τ :: r, t2, [], v2, us, h, hl => by simp at hl
  | τ :: r, t2, v :: v1, v2, us, h, hl => by
    obtain ⟨v', vs', y, us', h1, h2, h3, h4⟩ := h
    simp only [List.cons_append, List.cons.injEq] at h1
    obtain ⟨rfl, rfl⟩ := h1
    subst h2
    obtain ⟨g1, g2⟩ := AsL.split h4 (by simpa using hl)
    exact ⟨⟨v, v1, y, us'.take r.length, rfl, rfl, h3, g1⟩, g2⟩
theorem pull_ref {r : List Ar} {n : Nat} {vs ds : List V} (h : Ar.pull (.ref :: r) n vs = some ds) : ∃ vs', vs = .ref (1000000 + n) [] :: vs' ∧ Ar.pull r (n + 1) vs' = some ds := by
  cases vs with
  | nil => simp [Ar.pull] at h
  | cons v vs =>
    cases v <;> try (simp [Ar.pull] at h; done)
    rename_i k p
    cases p with
    | cons _ _ => simp [Ar.pull] at h
    | nil =>
      simp only [Ar.pull] at h
      obtain ⟨hb, h⟩ := cond_then h
      exact ⟨vs, by rw [beq_nat.1 hb], h⟩
theorem pull_fn {g m : Nat} {r : List Ar} {n : Nat} {vs ds : List V} (h : Ar.pull (.fn g m :: r) n vs = some ds) : ∃ caps vs', vs = .fn g caps :: vs' ∧ capsAt n m caps = true ∧ Ar.pull r (n + m) vs' = some ds := by
  cases vs with
  | nil => simp [Ar.pull] at h
  | cons v vs =>
    cases v <;> try (simp [Ar.pull] at h; done)
    rename_i g' caps
    simp only [Ar.pull] at h
    obtain ⟨hb, h2⟩ := cond_then h
    simp only [Bool.and_eq_true] at hb
    have e := beq_nat.1 hb.1
    exact ⟨caps, vs, by rw [e], hb.2, h2⟩
theorem pull_length : ∀ (ars : List Ar) (n : Nat) (args ds : List V), Ar.pull ars n args = some ds → ds.length = (arTys ars).length ∧ args.length = ars.length
  | [], _, [], ds, h => by simp [Ar.pull] at h; subst h; exact ⟨rfl, rfl⟩
  | [], _, _ :: _, ds, h => by simp [Ar.pull] at h
  | .dat τ :: r, n, [], ds, h => by simp [Ar.pull] at h
  | .dat τ :: r, n, v :: vs, ds, h => by
    simp only [Ar.pull, Option.map_eq_some_iff] at h
    obtain ⟨us, h, rfl⟩ := h
    have := pull_length r n vs us h
    simp [arTys, this]
  | .ref :: r, n, vs, ds, h => by
    obtain ⟨vs', rfl, h2⟩ := pull_ref h
    have := pull_length r _ _ ds h2
    simp [arTys, this]
  | .fn g m :: r, n, vs, ds, h => by
    obtain ⟨caps, vs', rfl, _, h2⟩ := pull_fn h
    have := pull_length r _ _ ds h2
    simp [arTys, this]
theorem capsAt_eq {n m : Nat} {caps : List (Nat × List Step)} (h : capsAt n m caps = true) : caps = (List.range m).map fun i => (1000000 + n + i, []) := by
  simp only [capsAt, Bool.and_eq_true] at h
  obtain ⟨h1, h2⟩ := h
  have hl := beq_nat.1 h1
  apply List.ext_getElem
  · simp [hl]
  · intro i hi hi'
    rw [List.all_eq_true] at h2
    have hm : i < m := by omega
    have := h2 (caps[i], i) (by
      rw [List.mem_iff_getElem]
      exact ⟨i, by simp [hl]; exact hm, by simp⟩)
    simp only [Bool.and_eq_true, List.isEmpty_iff] at this
    simp only [List.getElem_map, List.getElem_range]
    exact Prod.ext (beq_nat.1 this.1) this.2
theorem TRep.forget {τ : Ty} {v : V} {y : τ.D} {x : Value} {ts : List Nat} (hv : V.as τ v = some y) (h : TRep G w v x ts) : TRep G w (.dat τ y) x [] := (h.as_ hv).trep
theorem lay_rep : ∀ (ars : List Ar) (n : Nat) (args ds us : List V) (argv : List Value) (ts : List Nat), Ar.pull ars n args = some ds → AsL (arTys ars) ds us → ArgsRep G w args argv ts → ArgsRep G w (Ar.lay ars n us) argv []
  | [], _, [], ds, us, argv, ts, h, hA, ⟨h1, h2⟩ => ⟨h1, rfl⟩
  | [], _, _ :: _, ds, us, argv, ts, h, _, _ => by simp [Ar.pull] at h
  | .dat τ :: r, n, [], ds, us, argv, ts, h, _, _ => by simp [Ar.pull] at h
  | .dat τ :: r, n, v :: vs, ds, us, argv, ts, h, hA, ⟨x, xs, t1, t2, e1, e2, h1, h2⟩ => by
    simp only [Ar.pull, Option.map_eq_some_iff] at h
    obtain ⟨ds', h, rfl⟩ := h
    obtain ⟨v', vs', y, us', g1, g2, g3, g4⟩ := hA
    simp only [List.cons.injEq] at g1
    obtain ⟨rfl, rfl⟩ := g1
    subst g2
    exact ⟨x, xs, [], [], e1, rfl, h1.forget g3, lay_rep r n vs ds' us' xs t2 h g4 h2⟩
  | .ref :: r, n, vs, ds, us, argv, ts, h, hA, hh => by
    obtain ⟨vs', rfl, hh2⟩ := pull_ref h
    obtain ⟨x, xs, t1, t2, e1, e2, h1, h2⟩ := hh
    obtain ⟨cs, ⟨k1, k2, k3⟩, k4⟩ := h1
    exact ⟨x, xs, [], [], e1, rfl, ⟨cs, ⟨k1, k2, rfl⟩, k4⟩, lay_rep _ _ _ ds us xs t2 hh2 hA h2⟩
  | .fn g m :: r, n, vs, ds, us, argv, ts, h, hA, hh => by
    obtain ⟨caps, vs', rfl, hc, hh2⟩ := pull_fn h
    obtain ⟨x, xs, t1, t2, e1, e2, h1, h2⟩ := hh
    have e := capsAt_eq hc
    subst e
    obtain ⟨cs, ⟨vs, k1, k2, k3⟩, k4⟩ := h1
    exact ⟨x, xs, [], [], e1, rfl, ⟨cs, ⟨vs, k1, k2, rfl⟩, k4⟩, lay_rep _ _ _ ds us xs t2 hh2 hA h2⟩
theorem args_env {tmps : Array Value} : ∀ (vs : List V) (argv : List Value) (k : Nat), ArgsRep G w vs argv [] → (∀ i v, argv[i]? = some v → tmps.getD (k + i) undef = v) → EnvRep G w tmps (number k vs) []
  | [], _, _, _, _ => rfl
  | v :: vs, argv, k, ⟨x, xs, t1, t2, e1, e2, h1, h2⟩, ht => by
    subst e1
    have : t1 = [] ∧ t2 = [] := by simpa using e2.symm
    obtain ⟨rfl, rfl⟩ := this
    have h0 := ht 0 x rfl
    refine (EnvRep.cons (notLent_of_TRep h1)).2 ⟨[], [], rfl, by rw [← h0] at h1; simpa using h1, args_env vs xs (k + 1) h2 fun i v hv => ?_⟩
    have := ht (i + 1) v (by simpa using hv)
    rwa [show k + (i + 1) = k + 1 + i by omega] at this
theorem objs_as : ∀ (ts : List Ty) (vs us : List V) (k : Nat) (tk : List Nat), AsL ts vs us → MemRep G w (number k vs) tk → MemRep G w (number k us) []
  | [], _, _, _, _, ⟨h1, h2⟩, _ => by subst h2; rfl
  | τ :: r, _, _, k, tk, ⟨v, vs, y, us, e1, e2, h3, h4⟩, hM => by
    subst e1; subst e2
    obtain ⟨t1, t2, cs, e, g1, g2, g3, g4⟩ := hM
    have hc := (as_cells τ v y h3).1
    exact ⟨[], [], cs, rfl, ⟨as_rep τ v y cs t1 h3 g1, rfl⟩, g2, by show OwnsAt G w k τ.cells; rw [← hc]; exact g3, objs_as r vs us (k + 1) t2 h4 g4⟩

/-! ### Results -/
def Rs.noNew : Rs → Bool
  | .new => false
  | .raw _ => false
  | .n2 _ => false
  | .t2 a b => a.noNew && b.noNew
  | _ => true
theorem enc_rep (n : Nat) : ∀ (ρ : Rs) (v : V) (x : ρ.D) (cs : List Value) (ts : List Nat), ρ.noNew = true → Rs.dec n ρ v = some x → VRep G w v cs ts →
    (ρ.enc n x).agg = v.agg ∧ ∃ ts', (∀ g, cnt g ts' ≤ cnt g ts) ∧ VRep G w (ρ.enc n x) cs ts'
  | .dat τ, v, x, cs, ts, _, h, hv => ⟨(as_cells τ v x h).2.symm, [], fun g => by simp, as_rep τ v x cs ts h hv, rfl⟩
  | .own e, v, x, cs, ts, _, h, hv => by
    cases v <;> simp only [Rs.dec, reduceCtorEq] at h
    split at h
    · rename_i e2; subst e2
      injection h with h; subst h
      exact ⟨rfl, ts, fun _ => Nat.le_refl _, hv⟩
    · cases h
  | .t2 .new b, v, x, cs, ts, hn, _, _ => by simp [Rs.noNew] at hn
  | .t2 (.dat τ) b, v, x, cs, ts, hn, h, hv => by
    cases v <;> simp only [Rs.dec, reduceCtorEq] at h
    rename_i va vb
    simp only [Option.bind_eq_some_iff] at h
    obtain ⟨x1, h1, y, h2, h3⟩ := h
    injection h3 with h3; subst h3
    obtain ⟨xa, xb, ca, cb, t1, t2, e1, e2, g1, g2, g3, g4⟩ := hv
    simp only [Rs.noNew, Bool.true_and] at hn
    obtain ⟨k1, t2', k2, k3⟩ := enc_rep n b vb y cb t2 hn h2 g3
    refine ⟨rfl, [] ++ t2', fun g => by have := k2 g; subst e2; simp; omega, xa, xb, ca, cb, [], t2', e1, rfl, ⟨as_rep τ va x1 ca t1 h1 g1, rfl⟩, ?_, k3, ?_⟩
    · rw [show (V.dat τ x1).agg = va.agg from (as_cells τ va x1 h1).2.symm]; exact g2
    · rw [k1]; exact g4
  | .t2 (.own e) b, v, x, cs, ts, hn, h, hv => by simp [Rs.dec] at h
  | .t2 (.raw e) b, v, x, cs, ts, hn, h, hv => by simp [Rs.dec] at h
  | .raw e, v, x, cs, ts, hn, _, _ => by simp [Rs.noNew] at hn
  | .t2 (.t2 p q) b, v, x, cs, ts, hn, h, hv => by simp [Rs.dec] at h
  | .t2 .unit b, v, x, cs, ts, hn, h, hv => by simp [Rs.dec] at h
  | .new, v, x, cs, ts, hn, _, _ => by simp [Rs.noNew] at hn
  | .unit, v, x, cs, ts, _, h, hv => by
    cases v <;> simp only [Rs.dec, reduceCtorEq] at h
    exact ⟨rfl, ts, fun _ => Nat.le_refl _, hv⟩
  | .n2 c, v, x, cs, ts, hn, _, _ => by simp [Rs.noNew] at hn
  | .t2 (.n2 c) b, v, x, cs, ts, hn, h, hv => by simp [Rs.dec] at h
  | .t2 (.t3 _ _ _) b, v, x, cs, ts, hn, h, hv => by simp [Rs.dec] at h
  | .t3 a b c, v, x, cs, ts, _, h, hv => by
    cases v <;> simp only [Rs.dec, reduceCtorEq] at h
    rename_i va vb vc
    simp only [Option.bind_eq_some_iff] at h
    obtain ⟨x1, h1, x2, h2, x3, h3, h4⟩ := h
    injection h4 with h4; subst h4
    obtain ⟨xa, xb, xc, ca, cb, cc, t1, t2, t3, e1, e2, g1, g2, g3, g4, g5, g6⟩ := hv
    refine ⟨rfl, [], fun g => by simp, xa, xb, xc, ca, cb, cc, [], [], [], e1, rfl, ⟨as_rep a va x1 ca t1 h1 g1, rfl⟩, ?_, ⟨as_rep b vb x2 cb t2 h2 g3, rfl⟩, ?_, ⟨as_rep c vc x3 cc t3 h3 g5, rfl⟩, ?_⟩
    · rw [show (V.dat a x1).agg = va.agg from (as_cells a va x1 h1).2.symm]; exact g2
    · rw [show (V.dat b x2).agg = vb.agg from (as_cells b vb x2 h2).2.symm]; exact g4
    · rw [show (V.dat c x3).agg = vc.agg from (as_cells c vc x3 h3).2.symm]; exact g6
def Rs.okR : Rs → Bool
  | .raw _ => true
  | ρ => ρ.noNew
theorem leads_spec {m : List (Nat × V)} {n : Nat} {v : V} {os : List V} {p : V × List V} {ρ : Rs} (hn : ρ.okR = true) (h : leads m n v os = some p) (hd : (Rs.dec n ρ p.1).isSome = true) : p = (v, os) ∧ v.refs = [] := by
  have hr : ∀ k, (Rs.dec n ρ (.ref k [])).isSome = false := by
    intro k
    cases ρ with
    | t2 a b => cases a <;> simp [Rs.okR, Rs.noNew] at hn <;> simp [Rs.dec]
    | new => simp [Rs.okR, Rs.noNew] at hn
    | n2 c => simp [Rs.okR, Rs.noNew] at hn
    | _ => simp [Rs.dec, V.as]
  have hr2 : ∀ k b, (Rs.dec n ρ (.tup2 (.ref k []) b)).isSome = false := by
    intro k b
    cases ρ with
    | t2 a b => cases a <;> simp [Rs.okR, Rs.noNew] at hn <;> simp [Rs.dec, V.as]
    | new => simp [Rs.okR, Rs.noNew] at hn
    | n2 c => simp [Rs.okR, Rs.noNew] at hn
    | _ => simp [Rs.dec, V.as]
  have hr3 : ∀ k k' b, (Rs.dec n ρ (.tup3 (.ref k []) (.ref k' []) b)).isSome = false := by
    intro k k' b
    cases ρ with
    | t2 a b => cases a <;> simp [Rs.okR, Rs.noNew] at hn <;> simp [Rs.dec, V.as]
    | new => simp [Rs.okR, Rs.noNew] at hn
    | n2 c => simp [Rs.okR, Rs.noNew] at hn
    | _ => simp [Rs.dec, V.as]
  have no : ∀ {β : Type} {b : Bool} {x : Option β} {r : β}, (bif b then none else x) = some r → x = some r := by
    intro β b x r h
    cases b
    · exact h
    · cases h
  unfold leads at h
  split at h
  · have h := no h
    simp only [Option.bind_eq_some_iff] at h
    obtain ⟨u, _, h⟩ := h
    obtain ⟨_, h⟩ := cond_then h
    injection h with h; subst h
    rw [hr] at hd; cases hd
  · have h := no h
    simp only [Option.bind_eq_some_iff] at h
    obtain ⟨u, _, h⟩ := h
    obtain ⟨_, h⟩ := cond_then h
    injection h with h; subst h
    rw [hr2] at hd; cases hd
  · have h := no h
    simp only [Option.bind_eq_some_iff] at h
    obtain ⟨u, _, u', _, h⟩ := h
    obtain ⟨_, h⟩ := cond_then h
    injection h with h; subst h
    rw [hr3] at hd; cases hd
  · obtain ⟨h1, h2⟩ := cond_then h
    injection h2 with h2
    exact ⟨h2.symm, by simpa using h1⟩
theorem objs_rep : ∀ (n k : Nat) (m : List (Nat × V)) (ts : List Nat) (os : List V), MemRep G w m ts → objsOf m k n = some os → os.length = n ∧ ∃ t2, (∀ g, cnt g t2 ≤ cnt g ts) ∧ MemRep G w (number k os) t2
  | 0, k, m, ts, os, _, h => by simp only [objsOf, Option.some.injEq] at h; subst h; exact ⟨rfl, [], fun g => by simp, rfl⟩
  | n + 1, k, m, ts, os, hM, h => by
    simp only [objsOf, Option.bind_eq_some_iff, Option.some.injEq] at h
    obtain ⟨v, hv, vs, hvs, rfl⟩ := h
    obtain ⟨t1, t2, cs, e1, e2, e3, e4, e5⟩ := MemRep.find k m ts v hM hv
    have oth : ∀ (n q : Nat), k < q → objsOf (Pal.rm m k) q n = objsOf m q n := by
      intro n
      induction n with
      | zero => intro q _; rfl
      | succ n ih => intro q hq; simp only [objsOf, lk_rm_other (show k ≠ q by omega), ih (q + 1) (by omega)]
    obtain ⟨f1, t3, f2, f3⟩ := objs_rep n (k + 1) (Pal.rm m k) t2 vs e5 (by rw [oth n (k + 1) (by omega)]; exact hvs)
    exact ⟨by simp [f1], t1 ++ t3, fun g => by have := e1 g; have := f2 g; simp; omega, t1, t3, cs, rfl, e2, e3, e4, f3⟩
def takeR : ResultVar → Option Nat
  | .tmp t => some t
  | _ => none
def apartR (a b : ResultVar) : Bool := match takeR a, takeR b with
  | some x, some y => !(Nat.beq x y)
  | _, _ => true
def okRes : List ResultVar → Bool
  | [] => true
  | [.tmp _] => true
  | [.cell _ _] => true
  | [a, b] => apartR a b
  | [a, b, d] => apartR a b && (apartR a d && apartR b d)
  | _ => false
theorem plain_one {v : V} {cs : List Value} {x : Value} {ts : List Nat} (h : VRep G w v cs ts) (ht : isTup v = false) (hx : if v.agg then x = .agg cs.toArray else cs = [x]) : ofCells v.agg cs x := by
  unfold ofCells
  cases hag : v.agg with
  | true => simp [hag] at hx ⊢; exact hx
  | false =>
    simp [hag] at hx ⊢
    exact ⟨hx, h.plain v cs ts ht x (by simp [hx])⟩
def noLentV : V → Prop
  | .tup2 a b => notLent a ∧ notLent b
  | .tup3 a b d => notLent a ∧ notLent b ∧ notLent d
  | v => notLent v
theorem dec_nl1 {n : Nat} {ρ : Rs} {v : V} (h : (Rs.dec n ρ v).isSome = true) : notLent v := by
  cases v <;> try trivial
  cases ρ with
  | t2 a b => cases a <;> simp [Rs.dec] at h
  | _ => simp [Rs.dec, V.as] at h
theorem as_nl {τ : Ty} {v : V} {x : τ.D} (h : V.as τ v = some x) : notLent v := by
  cases v <;> try trivial
  simp [V.as] at h
theorem dec_nl {n : Nat} {ρ : Rs} {v : V} (hn : ρ.okR = true) (h : (Rs.dec n ρ v).isSome = true) : noLentV v := by
  have h1 := dec_nl1 h
  cases v <;> try exact h1
  · rename_i a b
    cases ρ with
    | t2 p q =>
      cases p <;> simp [Rs.okR, Rs.noNew] at hn <;> simp [Rs.dec] at h
      rename_i τ
      rw [Option.isSome_iff_exists] at h
      obtain ⟨z, h⟩ := h
      simp only [Option.bind_eq_some_iff] at h
      obtain ⟨x, hx, y, hy, _⟩ := h
      exact ⟨as_nl hx, dec_nl1 (n := n) (ρ := q) (by rw [hy]; rfl)⟩
    | new => simp [Rs.okR, Rs.noNew] at hn
    | n2 c => simp [Rs.okR, Rs.noNew] at hn
    | _ => simp [Rs.dec, V.as] at h
  · rename_i a b d
    cases ρ with
    | t3 p q r =>
      rw [Option.isSome_iff_exists] at h
      obtain ⟨z, h⟩ := h
      simp only [Rs.dec, Option.bind_eq_some_iff] at h
      obtain ⟨x, hx, y, hy, u, hu, _⟩ := h
      exact ⟨as_nl hx, as_nl hy, as_nl hu⟩
    | t2 p q => cases p <;> simp [Rs.okR, Rs.noNew] at hn <;> simp [Rs.dec] at h
    | new => simp [Rs.okR, Rs.noNew] at hn
    | n2 c => simp [Rs.okR, Rs.noNew] at hn
    | _ => simp [Rs.dec, V.as] at h
def rdRes (tmps : Array Value) : ResultVar → Sem Value
  | .tmp t => pure (tmps.getD t undef)
  | .cell a t => do loadVar t (← asAddr (tmps.getD a undef))
def cutR (r : ResultVar) (env : List (Nat × V)) : List (Nat × V) := match takeR r with
  | some t => Pal.rm env t
  | none => env
theorem cutR_lk {a b : ResultVar} (h : apartR a b = true) (env : List (Nat × V)) (t : Nat) (ht : takeR b = some t) : lk (cutR a env) t = lk env t := by
  unfold cutR
  cases ha : takeR a with
  | none => rfl
  | some x =>
    unfold apartR at h
    rw [ha, ht] at h
    have h : (!(Nat.beq x t)) = true := h
    exact lk_rm_other (fun e => by rw [Bool.not_eq_true', Bool.eq_false_iff] at h; exact h (beq_nat.2 e)) env
theorem res_one (hT : TT P c) {tmps : Array Value} {v : V} {tE tE' tM : List Nat} {env' : List (Nat × V)} (hE : EnvRep G w tmps s.env tE) (hM : MemRep G w s.mem tM) (hE' : EnvRep G w tmps env' tE') {r : ResultVar} (hv : resV c s r = some v)
    (hl : ∀ t, takeR r = some t → lk env' t = lk s.env t) (hnl : notLent v) : ∃ y t1 t2, (rdRes tmps r).run P w = .ok y w ∧ TRep G w v y t1 ∧ (∀ g, cnt g t1 + cnt g t2 ≤ cnt g tE') ∧ EnvRep G w tmps (cutR r env') t2 := by
  cases r with
  | tmp t =>
    simp only [resV] at hv
    obtain ⟨t1, t2, e1, e2, e3⟩ := EnvRep.find t env' tE' v hE' (by rw [hl t rfl]; exact hv) hnl
    exact ⟨tmps.getD t undef, t1, t2, rfl, e2, e1, e3⟩
  | cell x ty =>
    simp only [resV, Option.bind_eq_some_iff] at hv
    obtain ⟨ly, hly, av, hav, h⟩ := hv
    cases av with
    | ref k p =>
      simp only [Option.bind_eq_some_iff] at h
      obtain ⟨u, hu, z, hz, h⟩ := h
      obtain ⟨hb, h⟩ := cond_then h
      injection h with h; subst h
      simp only [Bool.and_eq_true] at hb
      obtain ⟨t1, t2, _, e2, _⟩ := EnvRep.find x s.env tE _ hE hav trivial
      obtain ⟨hp1, hp2⟩ := e2.ref_
      obtain ⟨t1, t2, cs, _, g1, g2, _, _⟩ := MemRep.find k s.mem tM u hM hu
      obtain ⟨c1, cu, c2, tu, e1, e2, _, e4⟩ := get_rep p u z cs t1 g1 hz hp2
      have hcu : CellsAt w (G.ρ k).1 ((G.ρ k).2 + offs p) cu := by
        intro j y hj
        have := g2 (offs p + j) y (by rw [e1, List.getElem?_append_right (by omega), List.getElem?_append_left (by have := (List.getElem?_eq_some_iff.1 hj).1; omega)]; rw [← hj]; congr 1; omega)
        rwa [← Nat.add_assoc] at this
      obtain ⟨y, hy, hyu⟩ := load_run (P := P) hT hly e4 hcu (beq_nat.1 hb.1) (by simpa using hb.2)
      refine ⟨y, [], tE', ?_, TRep.copy ⟨cu, e4, hyu⟩, fun g => by simp, hE'⟩
      have hy' : (asAddr (tmps.getD x undef) >>= loadVar ty : Sem Value).run P w = .ok y w := by rw [hp1]; exact hy
      exact hy'
    | _ => cases h
theorem results_rep {fn : Func} (hT : TT P c) {tmps : Array Value} {v : V} {tE : List Nat} (hok : okRes fn.results.toList = true) (hE : EnvRep G w tmps s.env tE) {tM : List Nat} (hM : MemRep G w s.mem tM) (h : resAll c s fn.results.toList = some v) (hnl : noLentV v) :
    ∃ y ts, (results fn tmps).run P w = .ok y w ∧ TRep G w v y ts ∧ ∀ g, cnt g ts ≤ cnt g tE := by
  obtain ⟨l, hl⟩ : ∃ l, fn.results = l.toArray := ⟨fn.results.toList, by simp⟩
  rw [hl] at hok h
  simp only [List.toList_toArray] at hok h
  have one : ∀ r, l = [r] → ∃ y ts, (results fn tmps).run P w = .ok y w ∧ TRep G w v y ts ∧ ∀ g, cnt g ts ≤ cnt g tE := by
    rintro r rfl
    have hnl : notLent v := by cases v <;> first | trivial | exact hnl
    have h : resV c s r = some v := h
    obtain ⟨y, t1, t2, e1, e2, e3, _⟩ := res_one hT hE hM hE h (fun _ _ => rfl) hnl
    refine ⟨y, t1, ?_, e2, fun g => by have := e3 g; omega⟩
    have hr : (results fn tmps).run P w = (rdRes tmps r).run P w := by cases r <;> simp [results, hl, rdRes]
    rw [hr]; exact e1
  match l, hl, hok, h with
  | [], hl, _, h =>
    simp only [resAll, Option.some.injEq] at h; subst h
    exact ⟨.tuple #[], [], by simp [results, hl], ⟨_, ⟨rfl, rfl⟩, rfl⟩, fun g => by simp⟩
  | [r], hl, _, h => exact one r rfl
  | [a, b], hl, hok, h =>
    have hok : apartR a b = true := by cases a <;> exact hok
    simp only [resAll, Option.bind_eq_some_iff] at h
    obtain ⟨va, ha, vb, hb, h⟩ := h
    have h : (isTup va || isTup vb) = false ∧ V.tup2 va vb = v := by
      cases hc : (isTup va || isTup vb) with
      | false => rw [hc] at h; injection h with h; exact ⟨rfl, h⟩
      | true => rw [hc] at h; cases h
    obtain ⟨hc, rfl⟩ := h
    simp only [Bool.or_eq_false_iff] at hc
    obtain ⟨ya, t1, t2, ra, ⟨ca, e2, e2'⟩, e1, e3⟩ := res_one hT hE hM hE ha (fun _ _ => rfl) hnl.1
    obtain ⟨yb, t3, t4, rb, ⟨cb, f2, f2'⟩, f1, _⟩ := res_one hT hE hM e3 hb (cutR_lk hok s.env) hnl.2
    refine ⟨.tuple #[ya, yb], t1 ++ t3, ?_, ⟨_, ⟨_, _, ca, cb, t1, t3, rfl, rfl, e2, plain_one e2 hc.1 e2', f2, plain_one f2 hc.2 f2'⟩, rfl⟩, fun g => by have := e1 g; have := f1 g; simp; omega⟩
    have hr : (results fn tmps).run P w = ((do let x ← rdRes tmps a; let y ← rdRes tmps b; pure (.tuple #[x, y])) : Sem Value).run P w := by
      cases a <;> cases b <;> simp [results, hl, rdRes]
    rw [hr]
    simp only [Sem.run_bind, ra, rb, Result.andThen_ok, Sem.run_pure]
  | [a, b, d], hl, hok, h =>
    have hok : (apartR a b && (apartR a d && apartR b d)) = true := by cases a <;> exact hok
    simp only [Bool.and_eq_true] at hok
    simp only [resAll, Option.bind_eq_some_iff] at h
    obtain ⟨va, ha, vb, hb, vd, hd, h⟩ := h
    have h : (isTup va || isTup vb || isTup vd) = false ∧ V.tup3 va vb vd = v := by
      cases hc : (isTup va || isTup vb || isTup vd) with
      | false => rw [hc] at h; injection h with h; exact ⟨rfl, h⟩
      | true => rw [hc] at h; cases h
    obtain ⟨hc, rfl⟩ := h
    simp only [Bool.or_eq_false_iff] at hc
    obtain ⟨ya, t1, t2, ra, ⟨ca, e2, e2'⟩, e1, e3⟩ := res_one hT hE hM hE ha (fun _ _ => rfl) hnl.1
    obtain ⟨yb, t3, t4, rb, ⟨cb, f2, f2'⟩, f1, f3⟩ := res_one hT hE hM e3 hb (cutR_lk hok.1 s.env) hnl.2.1
    obtain ⟨yd, t5, t6, rd', ⟨cd, k2, k2'⟩, k1, _⟩ := res_one hT hE hM f3 hd (fun t ht => by rw [cutR_lk hok.2.2 _ t ht, cutR_lk hok.2.1 _ t ht]) hnl.2.2
    refine ⟨.tuple #[ya, yb, yd], t1 ++ (t3 ++ t5), ?_, ⟨_, ⟨_, _, _, ca, cb, cd, t1, t3, t5, rfl, rfl, e2, plain_one e2 hc.1.1 e2', f2, plain_one f2 hc.1.2 f2', k2, plain_one k2 hc.2 k2'⟩, rfl⟩, fun g => by have := e1 g; have := f1 g; have := k1 g; simp; omega⟩
    have hr : (results fn tmps).run P w = ((do let x ← rdRes tmps a; let y ← rdRes tmps b; let z ← rdRes tmps d; pure (.tuple #[x, y, z])) : Sem Value).run P w := by
      cases a <;> cases b <;> cases d <;> simp [results, hl, rdRes]
    rw [hr]
    simp only [Sem.run_bind, ra, rb, rd', Result.andThen_ok, Sem.run_pure]
  | _ :: _ :: _ :: _ :: _, _, hok, _ => simp [okRes] at hok

/-! ### The whole -/
theorem dec_len : ∀ (ts : List Ty) (vs : List V) (x : Dl ts), Dl.dec ts vs = some x → vs.length = ts.length := fun ts vs x h => (dec_asL ts vs x h).lengths.1
theorem entry_nat {σ : Sg} {F : σ.In → Option σ.Out} (α : Type) (args objs : List V) (K : V → List V → Option α) : (σ.entry F).run α args objs K = ((σ.entry F).val args objs).bind fun p => K p.1 p.2 := by
  unfold Entry.val
  show ((Ar.pull σ.args 0 args).bind fun ds => _) = (Option.bind ((Ar.pull σ.args 0 args).bind fun ds => _) _)
  refine bind_nat fun ds => bind_nat fun x => ?_
  cases F x <;> rfl
theorem entry_val {σ : Sg} {F : σ.In → Option σ.Out} {args objs os : List V} {v : V} (h : (σ.entry F).val args objs = some (v, os)) :
    ∃ ds x r, Ar.pull σ.args 0 args = some ds ∧ Dl.dec (arTys σ.args ++ σ.objs) (ds ++ objs) = some x ∧ F x = some r ∧ v = encOutV σ.res σ.objs.length σ.outs r ∧ os = encOutO σ.res σ.outs r := by
  unfold Entry.val at h
  change ((Ar.pull σ.args 0 args).bind fun ds => (Dl.dec (arTys σ.args ++ σ.objs) (ds ++ objs)).bind fun x => bnd (F x) fun r => some (encOutV σ.res σ.objs.length σ.outs r, encOutO σ.res σ.outs r)) = _ at h
  rw [Option.bind_eq_some_iff] at h
  obtain ⟨ds, h1, h⟩ := h
  rw [Option.bind_eq_some_iff] at h
  obtain ⟨x, h2, h⟩ := h
  cases hF : F x with
  | none => rw [hF] at h; cases h
  | some r =>
    rw [hF] at h
    simp only [bnd, Option.some.injEq, Prod.mk.injEq] at h
    exact ⟨ds, x, r, h1, h2, hF, h.1.symm, h.2.symm⟩
theorem decOut_rep {ρ : Rs} {n : Nat} : ∀ {ts : List Ty} {v : V} {os : List V} {r : outD ρ ts}, decOut ρ n ts v os = some r → ∃ x, Rs.dec n ρ v = some x ∧ encOutV ρ n ts r = ρ.enc n x ∧ AsL ts os (encOutO ρ ts r)
  | [], v, [], r, h => ⟨r, h, rfl, rfl, rfl⟩
  | [], v, _ :: _, r, h => by simp [decOut] at h
  | τ :: q, v, os, r, h => by
    simp only [decOut, Option.bind_eq_some_iff] at h
    obtain ⟨x, hx, y, hy, h⟩ := h
    injection h with h; subst h
    exact ⟨x, hx, rfl, dec_asL _ _ _ hy⟩
/-- A result, as it is handed over. -/
theorem enc_any {n : Nat} {ρ : Rs} {v : V} {x : ρ.D} {y : Value} {ts : List Nat} (hok : ρ.okR = true) (hz : Rs.dec n ρ v = some x) (hW : Wf G w) (hnew : ∀ g, 0 < cnt g ts → w0.heap.size ≤ g) (hW0 : Wf G0 w0) (hE : Ev X G0 w0 G w) (hT : TRep G w v y ts) :
    ∃ G' ts', Ev X G0 w0 G' w ∧ Wf G' w ∧ G'.ρ = G.ρ ∧ (∀ g, cnt g ts' ≤ cnt g ts) ∧ TRep G' w (ρ.enc n x) y ts' ∧ (ρ.noNew = true → G' = G) := by
  by_cases hn : ρ.noNew = true
  · obtain ⟨cs, m2, m3⟩ := hT
    obtain ⟨n1, ts', n2, n3⟩ := enc_rep n ρ v x cs ts hn hz m2
    exact ⟨G, ts', hE, hW, rfl, n2, ⟨cs, n3, by rw [n1]; exact m3⟩, fun _ => rfl⟩
  · cases ρ with
    | raw e =>
      cases v <;> simp only [Rs.dec, reduceCtorEq] at hz
      · split at hz
        · rename_i e1; subst e1
          obtain ⟨hf, hz⟩ := cond_then hz
          injection hz with hz; subst hz
          obtain ⟨G', g1, g2, g3, g4⟩ := thaw hf hW hnew hW0 hE hT
          exact ⟨G', ts, g1, g2, g3, fun _ => Nat.le_refl _, g4, fun h => absurd h hn⟩
        · cases hz
      · split at hz
        · rename_i e1; subst e1
          injection hz with hz; subst hz
          exact ⟨G, ts, hE, hW, rfl, fun _ => Nat.le_refl _, hT, fun h => absurd h hn⟩
        · cases hz
    | _ => exact absurd hok hn
/-! ### A result that leads to something new -/
def Gh.named (G : Gh) (k q : Nat) : Gh := { I := G.I, O := fun b o => if G.O b o = some k then some q else G.O b o, ρ := fun x => if x = q then G.ρ k else G.ρ x }
theorem named_ev {k q : Nat} (h : Ev X G0 w0 G w) (hk : ∀ b o, b < w0.heap.size → G.O b o ≠ some k) : Ev X G0 w0 (G.named k q) w :=
  ⟨h.evo, h.le, h.grow, fun b o hb => by
    show (if G.O b o = some k then some q else G.O b o) = _
    rw [if_neg (hk b o hb)]; exact h.own b o hb⟩
theorem named_none {k q b o : Nat} (h : G.O b o = none) : (G.named k q).O b o = none := by
  show (if G.O b o = some k then some q else G.O b o) = none
  rw [h]; simp
theorem named_wf {k q : Nat} (h : Wf G w) : Wf (G.named k q) w :=
  ⟨h.holds, fun b o v hv => named_none (h.io b o v hv), fun b o x hx => by
    have hx : (if G.O b o = some k then some q else G.O b o) = some x := hx
    split at hx
    · rename_i e; exact h.lt b o k e
    · exact h.lt b o x hx⟩
theorem named_ρ {k q x : Nat} (h : x ≠ q) : (G.named k q).ρ x = G.ρ x := by
  show (if x = q then G.ρ k else G.ρ x) = _
  rw [if_neg h]
theorem named_mem {k n : Nat} (hk : k < 1000000) : ∀ (us : List V) (j : Nat) (ts : List Nat), (∀ u ∈ us, u.refs = []) → j + us.length ≤ n → (∀ g ∈ ts, ∀ o, G.O g o = none) → MemRep G w (number (1000000 + j) us) ts → MemRep (G.named k (1000000 + n)) w (number (1000000 + j) us) ts
  | [], _, _, _, _, _, h => h
  | u :: us, j, ts, hr, hl, hO, ⟨t1, t2, cs, e, h1, h2, h3, h4⟩ => by
    simp only [List.length_cons] at hl
    subst e
    have hρ : (G.named k (1000000 + n)).ρ (1000000 + j) = G.ρ (1000000 + j) := named_ρ (by omega)
    refine ⟨t1, t2, cs, rfl, VRep.swap (G := G) (G' := G.named k (1000000 + n)) (fun _ _ => rfl) u cs t1 (hr u (by simp)) (fun g hg o => named_none (hO g (by simp [hg]) o)) h1, by rw [hρ]; exact h2, fun i hi => ?_, named_mem hk us (j + 1) t2 (fun v hv => hr v (by simp [hv])) (by omega) (fun g hg => hO g (by simp [hg])) h4⟩
    rw [hρ]
    obtain ⟨g1, g2⟩ := h3 i hi
    refine ⟨?_, g2⟩
    show (if _ = some k then some (1000000 + n) else _) = _
    rw [g1, if_neg (by intro e; injection e with e; omega)]
def Rs.isNew : Rs → Bool
  | .new => true
  | .t2 .new b => b.noNew
  | _ => false
def okNew (σ : Sg) : Bool := σ.res.isNew && Nat.beq σ.outs.length (σ.objs.length + 1) && (match σ.outs.drop σ.objs.length with | [τ] => Nat.blt 0 τ.cells | _ => false)
def Rs.isN2 : Rs → Bool
  | .n2 c => c.noNew
  | _ => false
def okNew2 (σ : Sg) : Bool := σ.res.isN2 && Nat.beq σ.outs.length (σ.objs.length + 2) && (match σ.outs.drop σ.objs.length with | [τ, τ'] => Nat.blt 0 τ.cells && Nat.blt 0 τ'.cells | _ => false)
/-- What is asked of a function's results. -/
def okOld (σ : Sg) : Bool := (σ.res.okR && (σ.res.noNew || σ.outs.isEmpty)) || okNew σ
def okOut (σ : Sg) : Bool := okOld σ || okNew2 σ
theorem enc_refs (n : Nat) : ∀ (b : Rs) (z : b.D), b.noNew = true → (b.enc n z).refs = [] := by
  intro b
  induction b with
  | t2 p q ihp ihq =>
    intro z hb
    cases p with
    | dat τ' =>
      simp only [Rs.noNew, Bool.true_and] at hb
      show V.refs (.dat τ' z.1) ++ V.refs (q.enc n z.2) = []
      rw [ihq z.2 hb]; rfl
    | new => simp [Rs.noNew] at hb
    | n2 _ => simp [Rs.noNew] at hb
    | _ => rfl
  | new => intro z hb; simp [Rs.noNew] at hb
  | n2 _ => intro z hb; simp [Rs.noNew] at hb
  | raw e => intro z hb; simp [Rs.noNew] at hb
  | _ => intro z hb; rfl
theorem leads_new2 {m : List (Nat × V)} {n : Nat} {v : V} {os : List V} {p : V × List V} {ρ : Rs} (hn : ρ.isN2 = true) (h : leads m n v os = some p) (hd : (Rs.dec n ρ p.1).isSome = true) :
    ∃ k k' u u' b vb, k < 1000000 ∧ k' < 1000000 ∧ k ≠ k' ∧ lk m k = some u ∧ lk m k' = some u' ∧ p.2 = os ++ [u, u'] ∧ v = .tup3 (.ref k []) (.ref k' []) vb ∧ ρ = .n2 b ∧ b.noNew = true ∧ p.1 = .tup3 (.ref (1000000 + n) []) (.ref (1000000 + (n + 1)) []) vb ∧ vb.refs = [] := by
  have no : ∀ {β : Type} {b : Bool} {x : Option β} {r : β}, (bif b then none else x) = some r → b = false ∧ x = some r := by
    intro β b x r h
    cases b
    · exact ⟨rfl, h⟩
    · cases h
  cases ρ with
  | n2 c =>
    unfold leads at h
    split at h
    · obtain ⟨_, h⟩ := no h
      simp only [Option.bind_eq_some_iff] at h
      obtain ⟨u, hu, h⟩ := h
      obtain ⟨_, h⟩ := cond_then h
      injection h with h; subst h
      simp [Rs.dec] at hd
    · obtain ⟨_, h⟩ := no h
      simp only [Option.bind_eq_some_iff] at h
      obtain ⟨u, hu, h⟩ := h
      obtain ⟨_, h⟩ := cond_then h
      injection h with h; subst h
      simp [Rs.dec] at hd
    · rename_i k k' vb
      obtain ⟨hb, h⟩ := no h
      simp only [Option.bind_eq_some_iff] at h
      obtain ⟨u, hu, u', hu', h⟩ := h
      obtain ⟨_, h⟩ := cond_then h
      injection h with h; subst h
      simp only [Bool.or_eq_false_iff, Bool.not_eq_false', List.isEmpty_iff] at hb
      have lt : ∀ k, Nat.ble 1000000 k = false → k < 1000000 := fun k hq => Nat.lt_of_not_le fun hle => by rw [Nat.ble_eq_true_of_le hle] at hq; cases hq
      exact ⟨k, k', u, u', c, vb, lt k hb.1.1.1, lt k' hb.1.1.2, (fun e : k = k' => by have := hb.1.2; rw [beq_nat.2 e] at this; cases this), hu, hu', rfl, rfl, rfl, hn, rfl, hb.2⟩
    · rename_i h1 h2 h3
      obtain ⟨hr, h⟩ := cond_then h
      injection h with h; subst h
      exfalso
      have hr : v.refs = [] := by simpa using hr
      cases v <;> try (simp only [Rs.dec] at hd; cases hd; done)
  | _ => simp [Rs.isN2] at hn
theorem dat_refs : ∀ (ts : List Ty) (vs us : List V), AsL ts vs us → ∀ u ∈ us, u.refs = []
  | [], _, _, ⟨_, h⟩, u, hu => by subst h; cases hu
  | τ :: r, _, _, ⟨v, vs, y, us, _, e, _, h⟩, u, hu => by
    subst e
    rcases List.mem_cons.1 hu with rfl | hu
    · rfl
    · exact dat_refs r vs us h u hu
theorem leads_new {m : List (Nat × V)} {n : Nat} {v : V} {os : List V} {p : V × List V} {ρ : Rs} (hn : ρ.isNew = true) (h : leads m n v os = some p) (hd : (Rs.dec n ρ p.1).isSome = true) :
    ∃ k u, k < 1000000 ∧ lk m k = some u ∧ p.2 = os ++ [u] ∧ ((v = .ref k [] ∧ ρ = .new) ∨ ∃ b vb, v = .tup2 (.ref k []) vb ∧ ρ = .t2 .new b ∧ b.noNew = true ∧ p.1 = .tup2 (.ref (1000000 + n) []) vb ∧ vb.refs = []) := by
  have no : ∀ {β : Type} {b : Bool} {x : Option β} {r : β}, (bif b then none else x) = some r → b = false ∧ x = some r := by
    intro β b x r h
    cases b
    · exact ⟨rfl, h⟩
    · cases h
  unfold leads at h
  split at h
  · rename_i k
    obtain ⟨hb, h⟩ := no h
    simp only [Option.bind_eq_some_iff] at h
    obtain ⟨u, hu, h⟩ := h
    obtain ⟨_, h⟩ := cond_then h
    injection h with h; subst h
    have hk : k < 1000000 := by
      cases hq : Nat.ble 1000000 k with
      | true => rw [hq] at hb; cases hb
      | false => exact Nat.lt_of_not_le fun hle => by rw [Nat.ble_eq_true_of_le hle] at hq; cases hq
    refine ⟨k, u, hk, hu, rfl, .inl ⟨rfl, ?_⟩⟩
    cases ρ with
    | new => rfl
    | t2 a b => cases a <;> simp [Rs.isNew] at hn <;> simp [Rs.dec] at hd
    | _ => simp [Rs.isNew] at hn
  · rename_i k vb
    obtain ⟨hb, h⟩ := no h
    simp only [Option.bind_eq_some_iff] at h
    obtain ⟨u, hu, h⟩ := h
    obtain ⟨_, h⟩ := cond_then h
    injection h with h; subst h
    simp only [Bool.or_eq_false_iff, Bool.not_eq_false', List.isEmpty_iff] at hb
    have hk : k < 1000000 := by
      have hq := hb.1
      exact Nat.lt_of_not_le fun hle => by rw [Nat.ble_eq_true_of_le hle] at hq; cases hq
    refine ⟨k, u, hk, hu, rfl, .inr ?_⟩
    cases ρ with
    | new => simp [Rs.dec] at hd
    | t2 a b =>
      cases a with
      | new => exact ⟨b, vb, rfl, rfl, hn, rfl, hb.2⟩
      | _ => simp [Rs.isNew] at hn
    | _ => simp [Rs.isNew] at hn
  · obtain ⟨_, h⟩ := no h
    simp only [Option.bind_eq_some_iff] at h
    obtain ⟨u, hu, u', hu', h⟩ := h
    obtain ⟨_, h⟩ := cond_then h
    injection h with h; subst h
    exfalso
    cases ρ with
    | new => simp [Rs.dec] at hd
    | t2 a b =>
      cases a with
      | new => simp [Rs.dec] at hd
      | _ => simp [Rs.isNew] at hn
    | _ => simp [Rs.isNew] at hn
  · rename_i h1 h2 h3
    obtain ⟨hr, h⟩ := cond_then h
    injection h with h; subst h
    exfalso
    have hr : v.refs = [] := by simpa using hr
    cases ρ with
    | new =>
      cases v <;> simp only [Rs.dec] at hd <;> first | (cases hd; done) | (simp [V.refs] at hr)
    | t2 a b =>
      cases a with
      | new =>
        cases v <;> simp only [Rs.dec] at hd <;> first | (cases hd; done) | (rename_i x y; cases x <;> simp only at hd <;> first | (cases hd; done) | (simp [V.refs] at hr; done))
      | _ => simp [Rs.isNew] at hn
    | _ => simp [Rs.isNew] at hn
/-- A function whose body does what is said. -/
theorem fn_ok' {f : FuncId} {fn : Func} {code : Code} {σ : Sg} {F : σ.In → Option σ.Out} (hT : TT P c)
    (hf : P.funcs[f]? = some fn) (hb : fn.body = some code) (hnm : (fn.name == "runtime.NumGoroutine") = false) (hargs : Nat.ble σ.args.length fn.ntmps = true) (hres : okRes fn.results.toList = true) (hnew : okOut σ = true)
    (hwp : ∀ (x : σ.In) (r : σ.Out), F x = some r → ∀ (X : Nat → Nat → Prop) (G : Gh) (w : World) (tmps : Array Value) (Q : Exit → Act → World → Prop),
      RS X G w G (st0 (Ar.lay σ.args 0 ((Dl.enc (arTys σ.args ++ σ.objs) x).take (arTys σ.args).length)) ((Dl.enc (arTys σ.args ++ σ.objs) x).drop (arTys σ.args).length)) tmps w → tmps.size = fn.ntmps →
      Left X G w fn.ntmps [] (σ.K c fn.results.toList) r Q → code.wp P Q { tmps := tmps, defers := [] } w) : CallOK P f (σ.entry F) := by
  refine ⟨fun α args objs K => entry_nat α args objs K, fun args objs vr os hval X G w argv tA tM hW hX hA hM hcnt htok => ?_⟩
  obtain ⟨ds, x, r, h1, h2, h3, rfl, rfl⟩ := entry_val hval
  obtain ⟨hl1, hl2⟩ := pull_length _ _ _ _ h1
  obtain ⟨hs1, hs2⟩ := (dec_asL _ _ _ h2).split hl1
  have hobj : objs.length = σ.objs.length := hs2.lengths.1
  have hargv : argv.length = args.length := by
    have : ∀ (args : List V) (argv : List Value) (ts : List Nat), ArgsRep G w args argv ts → argv.length = args.length := by
      intro args
      induction args with
      | nil => intro argv ts h; simp [h.1]
      | cons v vs ih => intro argv ts ⟨x, xs, t1, t2, e1, _, _, h2⟩; simp [e1, ih xs t2 h2]
    exact this args argv tA hA
  refine .inl ⟨?_, ?_⟩
  · unfold callFunc
    have hnm' : ¬ fn.name = "runtime.NumGoroutine" := by simpa using hnm
    simp [hf, hnm', hb]
  · have hlen : args.length ≤ fn.ntmps := by have := Nat.le_of_ble_eq_true hargs; omega
    refine calls_of_wp hf hb ?_
    let X0 : Nat → Nat → Prop := fun b o => G.O b o ≠ none
    have hX0 : ∀ b o, X0 b o → X b o := fun b o h => by
      cases hk : G.O b o with
      | none => exact absurd hk h
      | some k => exact (hX b o k hk).1
    have hB : Base X0 G w G w := ⟨Ev.refl X0 G w, hW, fun _ => rfl, fun b o k _ hk => by show G.O b o ≠ none; rw [hk]; simp⟩
    have hE : EnvRep G w (argv.toArray ++ Array.replicate (fn.ntmps - argv.toArray.size) undef) (number 0 (Ar.lay σ.args 0 ((Dl.enc (arTys σ.args ++ σ.objs) x).take (arTys σ.args).length))) [] := by
      refine args_env _ argv 0 (lay_rep _ _ _ _ _ _ _ h1 hs1 hA) fun i v hv => ?_
      have hi := (List.getElem?_eq_some_iff.1 hv).1
      rw [Nat.zero_add, Array.getD_eq_getD_getElem?, Array.getElem?_append_left (by simpa using hi)]
      simp [hv]
    have hM' := objs_as (G := G) (w := w) _ _ _ 1000000 tM hs2 hM
    have hR : RS X0 G w G (st0 (Ar.lay σ.args 0 ((Dl.enc (arTys σ.args ++ σ.objs) x).take (arTys σ.args).length)) ((Dl.enc (arTys σ.args ++ σ.objs) x).drop (arTys σ.args).length)) (argv.toArray ++ Array.replicate (fn.ntmps - argv.toArray.size) undef) w :=
      ⟨hB, [], [], hE, hM', fun g => by simp, fun g hg => by simp at hg⟩
    refine hwp x r h3 X0 G w _ _ hR (by simp; omega) ?_
    intro e a' w' G' s' g1 g2 g3 g4
    have hmain : ∃ y, (results fn a'.tmps).run P w' = .ok y w' ∧ ∃ G', Post X G w objs.length (encOutV σ.res σ.objs.length σ.outs r) (encOutO σ.res σ.outs r) y argv.head? G' w' := by
      have g4' : ((resAll c s' fn.results.toList).bind fun v => (objsOf s'.mem 1000000 σ.objs.length).bind fun os => (leads s'.mem σ.objs.length v os).bind fun p => decOut σ.res σ.objs.length σ.outs p.1 p.2) = some r := by
        cases e with
        | exit i => cases g4
        | normal => exact g4
        | ret => exact g4
      simp only [Option.bind_eq_some_iff] at g4'
      obtain ⟨v, hv, os, hos, p, hp, hd⟩ := g4'
      obtain ⟨z, hz, hz1, hz2⟩ := decOut_rep hd
      unfold okOut at hnew
      rw [Bool.or_eq_true] at hnew
      rcases hnew with hnew | hnew
      case inr =>
        obtain ⟨hB', tE, tMm, k1, k2, k3, k4⟩ := g1
        simp only [okNew2, Bool.and_eq_true] at hnew
        obtain ⟨⟨hn1, hn2⟩, hn3⟩ := hnew
        have hn2 := Nat.eq_of_beq_eq_true hn2
        obtain ⟨τ, τ', hτ, hτc, hτc'⟩ : ∃ τ τ', σ.outs.drop σ.objs.length = [τ, τ'] ∧ 0 < τ.cells ∧ 0 < τ'.cells := by
          split at hn3
          · rename_i τ τ' e
            simp only [Bool.and_eq_true] at hn3
            exact ⟨τ, τ', e, Nat.le_of_ble_eq_true hn3.1, Nat.le_of_ble_eq_true hn3.2⟩
          · cases hn3
        obtain ⟨k, k', u, u', b, vb, hk, hk', hkk, hu, hu', hp2, rfl, hρs, hbn, hp1, hvr⟩ := leads_new2 hn1 hp (by rw [hz]; rfl)
        have hnl : noLentV (.tup3 (.ref k []) (.ref k' []) vb) := by
          refine ⟨trivial, trivial, ?_⟩
          have hzs : (Rs.dec σ.objs.length σ.res p.1).isSome = true := by rw [hz]; rfl
          rw [hρs, hp1] at hzs
          simp only [Rs.dec] at hzs
          refine dec_nl1 (n := σ.objs.length) (ρ := b) ?_
          cases hq : (Nat.beq (1000000 + σ.objs.length) (1000000 + σ.objs.length) && Nat.beq (1000000 + (σ.objs.length + 1)) (1000000 + (σ.objs.length + 1))) with
          | true => rw [hq] at hzs; exact hzs
          | false => rw [hq] at hzs; cases hzs
        obtain ⟨y, ts, m1, m2, m4⟩ := results_rep (P := P) (s := s') hT hres k1 k2 hv hnl
        obtain ⟨q1, t2, q2, q3⟩ := objs_rep _ _ _ _ _ k2 hos
        obtain ⟨u1, u2, ucs, _, v1, v2, v3, v4⟩ := MemRep.find k s'.mem tMm u k2 hu
        obtain ⟨u1', u2', ucs', _, v1', v2', v3', _⟩ := MemRep.find k' s'.mem tMm u' k2 hu'
        have hOk : ∀ k, k < 1000000 → ∀ b o, b < w.heap.size → G'.O b o ≠ some k := fun k hk b o hb h => by
          rw [hB'.ev.own b o hb] at h
          have := (hX b o k h).2; omega
        obtain ⟨EO, hEO⟩ : ∃ l, l = encOutO σ.res σ.outs r := ⟨_, rfl⟩
        rw [hp2, ← hEO] at hz2
        have hz3 : AsL (σ.outs.take σ.objs.length ++ [τ, τ']) (os ++ [u, u']) EO := by rw [← hτ, List.take_append_drop]; exact hz2
        have htl : (σ.outs.take σ.objs.length).length = σ.objs.length := by rw [List.length_take]; omega
        obtain ⟨s1, s2⟩ := hz3.split (by rw [htl]; exact q1)
        rw [htl] at s1 s2
        obtain ⟨uv, uvs, uy, ur, e1, e2, e3, uv', uvs', uy', ur', e1', e2', e3', e4', e5'⟩ := s2
        simp only [List.cons.injEq] at e1
        obtain ⟨rfl, rfl⟩ := e1
        simp only [List.cons.injEq] at e1'
        obtain ⟨rfl, rfl⟩ := e1'
        subst e5'; subst e2'
        have hcu := (as_cells τ u uy e3).1
        have hcu' := (as_cells τ' u' uy' e3').1
        have own0 := v3 0 (by omega)
        have own0' := v3' 0 (by omega)
        have hnewb : w.heap.size ≤ (G'.ρ k).1 := Nat.le_of_not_lt fun hlt => hOk k hk _ _ hlt (by simpa using own0.1)
        have hnewb' : w.heap.size ≤ (G'.ρ k').1 := Nat.le_of_not_lt fun hlt => hOk k' hk' _ _ hlt (by simpa using own0'.1)
        have fresh : ∀ g, 0 < cnt g tE → w.heap.size ≤ g := fun g hg => by
          rcases k4 g (by omega) with h | h
          · exact h
          · have h5 := (EnvRep.owned _ _ k1 g hg).2 0
            by_cases hlt : g < w.heap.size
            · rw [hB'.ev.own g 0 hlt] at h5; exact absurd h5 (h 0)
            · omega
        obtain ⟨Gn, hGn⟩ : ∃ Gn, Gn = (G'.named k (1000000 + σ.objs.length)).named k' (1000000 + (σ.objs.length + 1)) := ⟨_, rfl⟩
        have hρ1 : Gn.ρ (1000000 + σ.objs.length) = G'.ρ k := by
          rw [hGn, named_ρ (by omega)]
          show (if _ then _ else _) = _; rw [if_pos rfl]
        have hρ2 : Gn.ρ (1000000 + (σ.objs.length + 1)) = G'.ρ k' := by
          rw [hGn]
          show (if _ then (G'.named k (1000000 + σ.objs.length)).ρ k' else _) = _
          rw [if_pos rfl, named_ρ (by omega)]
        have hO1 : ∀ b o, G'.O b o = some k → Gn.O b o = some (1000000 + σ.objs.length) := fun b o h => by
          rw [hGn]
          have h1 : (G'.named k (1000000 + σ.objs.length)).O b o = some (1000000 + σ.objs.length) := by
            show (if _ = some k then some (1000000 + σ.objs.length) else _) = _
            rw [if_pos h]
          show (if (G'.named k (1000000 + σ.objs.length)).O b o = some k' then _ else _) = _
          rw [h1, if_neg (by intro e; injection e with e; omega)]
        have hO2 : ∀ b o, G'.O b o = some k' → Gn.O b o = some (1000000 + (σ.objs.length + 1)) := fun b o h => by
          rw [hGn]
          have h1 : (G'.named k (1000000 + σ.objs.length)).O b o = some k' := by
            show (if G'.O b o = some k then some (1000000 + σ.objs.length) else G'.O b o) = _
            rw [h, if_neg (by intro e; injection e with e; exact hkk e.symm)]
          show (if (G'.named k (1000000 + σ.objs.length)).O b o = some k' then _ else _) = _
          rw [h1, if_pos rfl]
        have hOn : ∀ b o, G'.O b o = none → Gn.O b o = none := fun b o h => by rw [hGn]; exact named_none (named_none h)
        have hval : ∃ tv, (∀ g, cnt g tv ≤ cnt g ts) ∧ TRep Gn w' (encOutV σ.res σ.objs.length σ.outs r) y tv := by
          rw [hz1]
          have hadr : Gn.addr (1000000 + σ.objs.length) [] = G'.addr k [] := by unfold Gh.addr; rw [hρ1]
          have hadr' : Gn.addr (1000000 + (σ.objs.length + 1)) [] = G'.addr k' [] := by unfold Gh.addr; rw [hρ2]
          obtain ⟨cs, ⟨va, vb', vd, ca, cb, cd, t1, t2, t3, c1, c2, c3, c4, c5, c6, c8, c9⟩, c7⟩ := m2
          rw [hp1] at hz
          clear hz1 hn1
          revert z
          rw [hρs]
          intro z hz
          simp only [Rs.dec] at hz
          obtain ⟨_, hz⟩ := cond_then hz
          obtain ⟨hag, tb, hcb, hvb⟩ := enc_rep σ.objs.length b vb z cd t3 hbn hz c8
          obtain ⟨d1, d2, d3⟩ := c3
          obtain ⟨d4, d5, d6⟩ := c5
          subst d3; subst d6
          have hrefs : (b.enc σ.objs.length z).refs = [] := enc_refs _ b z hbn
          refine ⟨tb, fun g => by have := hcb g; subst c2; simp; omega, cs, ⟨va, vb', vd, ca, cb, cd, [], [], tb, c1, rfl, ⟨by rw [hadr]; exact d1, trivial, rfl⟩, c4, ⟨by rw [hadr']; exact d4, trivial, rfl⟩, c6, ?_, ?_⟩, c7⟩
          · refine VRep.swap (G := G') (G' := Gn) (fun _ _ => by rw [hGn]; rfl) _ _ _ hrefs (fun g hg o => hOn _ _ ?_) hvb
            have h1 := cnt_pos.1 hg
            have h2 := hcb g
            have h3 : cnt g t3 ≤ cnt g tE := by have := m4 g; rw [c2] at this; simp at this; omega
            exact (EnvRep.owned _ _ k1 g (by omega)).2 o
          · rw [hag]; exact c9
        obtain ⟨tv, htv, hval⟩ := hval
        rw [← hEO]
        refine ⟨y, m1, Gn, ?_, ?_, ?_, tv, [], [], hval, ?_, ?_, fun g => ?_, fun g hg => .inl (fresh g ?_)⟩
        · rw [hGn]
          refine (named_ev (named_ev hB'.ev (hOk k hk)) fun b o hb h => ?_).mono hX0
          have h : (if G'.O b o = some k then some (1000000 + σ.objs.length) else G'.O b o) = some k' := h
          split at h
          · injection h with h; omega
          · exact hOk k' hk' b o hb h
        · rw [hGn]; exact named_wf (named_wf hB'.wf)
        · intro j hj
          rw [hGn, named_ρ (by omega), named_ρ (by omega)]; exact hB'.par j
        · rw [hobj]
          have hob := objs_as (G := G') (w := w') _ _ _ 1000000 t2 s1 q3
          have h1 := named_mem (G := G') (w := w') (k := k) (n := σ.objs.length) hk (EO.take σ.objs.length) 0 [] (dat_refs _ _ _ s1) (by rw [List.length_take]; omega) (fun g hg => by cases hg) hob
          have h2 := named_mem (G := G'.named k (1000000 + σ.objs.length)) (w := w') (k := k') (n := σ.objs.length + 1) hk' (EO.take σ.objs.length) 0 [] (dat_refs _ _ _ s1) (by rw [List.length_take]; omega) (fun g hg => by cases hg) h1
          rw [hGn]; exact h2
        · rw [hobj, e2]
          refine ⟨by rw [hρ1]; exact hnewb, by rw [hρ2]; exact hnewb', [], [], ucs, rfl, ⟨by rw [hGn]; exact (as_rep τ u uy ucs u1 e3 v1 : DRep G'.I τ uy ucs), rfl⟩, by rw [hρ1]; exact v2, fun j hj => ?_, [], [], ucs', rfl, ⟨by rw [hGn]; exact (as_rep τ' u' uy' ucs' u1' e3' v1' : DRep G'.I τ' uy' ucs'), rfl⟩, by rw [hρ2]; exact v2', fun j hj => ?_, rfl⟩
          · rw [hρ1]
            obtain ⟨g1, g2⟩ := v3 j (by rw [hcu]; exact hj)
            exact ⟨hO1 _ _ g1, g2⟩
          · rw [hρ2]
            obtain ⟨g1, g2⟩ := v3' j (by rw [hcu']; exact hj)
            exact ⟨hO2 _ _ g1, g2⟩
        · have := htv g; have := m4 g; have := k3 g; simp; omega
        · have := htv g; have := m4 g; simp at hg; omega
      unfold okOld at hnew
      rw [Bool.or_eq_true] at hnew
      rcases hnew with hnew | hnew
      case inr =>
        obtain ⟨hB', tE, tMm, k1, k2, k3, k4⟩ := g1
        simp only [okNew, Bool.and_eq_true] at hnew
        obtain ⟨⟨hn1, hn2⟩, hn3⟩ := hnew
        have hn2 := Nat.eq_of_beq_eq_true hn2
        obtain ⟨τ, hτ, hτc⟩ : ∃ τ, σ.outs.drop σ.objs.length = [τ] ∧ 0 < τ.cells := by
          split at hn3
          · rename_i τ e; exact ⟨τ, e, Nat.le_of_ble_eq_true hn3⟩
          · cases hn3
        obtain ⟨k, u, hk, hu, hp2, hcase⟩ := leads_new hn1 hp (by rw [hz]; rfl)
        have hnl : noLentV v := by
          rcases hcase with ⟨rfl, _⟩ | ⟨b, vb, rfl, hρ, _, hp1, _⟩
          · trivial
          · refine ⟨trivial, ?_⟩
            have hzs : (Rs.dec σ.objs.length σ.res p.1).isSome = true := by rw [hz]; rfl
            rw [hρ, hp1] at hzs
            simp only [Rs.dec] at hzs
            refine dec_nl1 (n := σ.objs.length) (ρ := b) ?_
            cases hq : Nat.beq (1000000 + σ.objs.length) (1000000 + σ.objs.length) with
            | true => rw [hq] at hzs; exact hzs
            | false => rw [hq] at hzs; cases hzs
        obtain ⟨y, ts, m1, m2, m4⟩ := results_rep (P := P) (s := s') hT hres k1 k2 hv hnl
        obtain ⟨q1, t2, q2, q3⟩ := objs_rep _ _ _ _ _ k2 hos
        obtain ⟨u1, u2, ucs, _, v1, v2, v3, _⟩ := MemRep.find k s'.mem tMm u k2 hu
        have hOk : ∀ b o, b < w.heap.size → G'.O b o ≠ some k := fun b o hb h => by
          rw [hB'.ev.own b o hb] at h
          have := (hX b o k h).2; omega
        obtain ⟨EO, hEO⟩ : ∃ l, l = encOutO σ.res σ.outs r := ⟨_, rfl⟩
        rw [hp2, ← hEO] at hz2
        have hz3 : AsL (σ.outs.take σ.objs.length ++ [τ]) (os ++ [u]) EO := by rw [← hτ, List.take_append_drop]; exact hz2
        have htl : (σ.outs.take σ.objs.length).length = σ.objs.length := by rw [List.length_take]; omega
        obtain ⟨s1, s2⟩ := hz3.split (by rw [htl]; exact q1)
        rw [htl] at s1 s2
        obtain ⟨uv, uvs, uy, ur, e1, e2, e3, e4, e5⟩ := s2
        injection e1 with e1 e1'
        subst e1
        subst e5
        have hcu := (as_cells τ u uy e3).1
        have own0 := v3 0 (by omega)
        have hnewb : w.heap.size ≤ (G'.ρ k).1 := Nat.le_of_not_lt fun hlt => hOk _ _ hlt (by simpa using own0.1)
        have fresh : ∀ g, 0 < cnt g tE → w.heap.size ≤ g := fun g hg => by
          rcases k4 g (by omega) with h | h
          · exact h
          · have h5 := (EnvRep.owned _ _ k1 g hg).2 0
            by_cases hlt : g < w.heap.size
            · rw [hB'.ev.own g 0 hlt] at h5; exact absurd h5 (h 0)
            · omega
        have hval : ∃ tv, (∀ g, cnt g tv ≤ cnt g ts) ∧ TRep (G'.named k (1000000 + σ.objs.length)) w' (encOutV σ.res σ.objs.length σ.outs r) y tv := by
          rw [hz1]
          have hρ : (G'.named k (1000000 + σ.objs.length)).ρ (1000000 + σ.objs.length) = G'.ρ k := by
            show (if _ then _ else _) = _; rw [if_pos rfl]
          have hadr : (G'.named k (1000000 + σ.objs.length)).addr (1000000 + σ.objs.length) [] = G'.addr k [] := by
            unfold Gh.addr; rw [hρ]
          rcases hcase with ⟨hv', hρs⟩ | ⟨b, vb, hv', hρs, hbn, hp1, hvr⟩
          · subst hv'
            obtain ⟨cs, ⟨c1, c2, c3⟩, c4⟩ := m2
            subst c3
            refine ⟨[], fun g => by simp, cs, ?_, ?_⟩
            · rw [show σ.res.enc σ.objs.length z = .ref (1000000 + σ.objs.length) [] by
                clear hz1 hz
                revert z
                rw [hρs]; intro z; rfl]
              exact ⟨by rw [hadr]; exact c1, trivial, rfl⟩
            · rw [show (σ.res.enc σ.objs.length z).agg = false by
                clear hz1 hz
                revert z
                rw [hρs]; intro z; rfl]
              exact c4
          · subst hv'
            obtain ⟨cs, ⟨va, vb', ca, cb, t1, t2, c1, c2, c3, c4, c5, c6⟩, c7⟩ := m2
            rw [hp1] at hz
            clear hz1 hn1
            revert z
            rw [hρs]
            intro z hz
            simp only [Rs.dec] at hz
            obtain ⟨_, hz⟩ := cond_then hz
            obtain ⟨hag, tb, hcb, hvb⟩ := enc_rep σ.objs.length b vb z cb t2 hbn hz c5
            obtain ⟨d1, d2, d3⟩ := c3
            subst d3
            have hrefs : (b.enc σ.objs.length z).refs = [] := by
              exact enc_refs _ b z hbn
            refine ⟨tb, fun g => by have := hcb g; subst c2; simp; omega, cs, ⟨va, vb', ca, cb, [], tb, c1, rfl, ⟨by rw [hadr]; exact d1, trivial, rfl⟩, c4, ?_, ?_⟩, c7⟩
            · refine VRep.swap (G := G') (G' := G'.named k (1000000 + σ.objs.length)) (fun _ _ => rfl) _ _ _ hrefs (fun g hg o => named_none ?_) hvb
              have h1 := cnt_pos.1 hg
              have h2 := hcb g
              have h3 : cnt g t2 ≤ cnt g tE := by have := m4 g; rw [c2] at this; simp at this; omega
              exact (EnvRep.owned _ _ k1 g (by omega)).2 o
            · rw [hag]; exact c6
        obtain ⟨tv, htv, hval⟩ := hval
        rw [← hEO]
        refine ⟨y, m1, G'.named k (1000000 + σ.objs.length), (named_ev hB'.ev hOk).mono hX0, named_wf hB'.wf, fun j hj => by rw [named_ρ (by omega)]; exact hB'.par j, tv, [], [], hval, ?_, ?_, fun g => ?_, fun g hg => .inl (fresh g ?_)⟩
        · rw [hobj]
          have hob := objs_as (G := G') (w := w') _ _ _ 1000000 t2 s1 q3
          have := named_mem (G := G') (w := w') (k := k) (n := σ.objs.length) hk (EO.take σ.objs.length) 0 [] (dat_refs _ _ _ s1) (by rw [List.length_take]; omega) (fun g hg => by cases hg) hob
          exact this
        · rw [hobj, e2]
          refine ⟨?_, ?_⟩
          · show w.heap.size ≤ ((if _ then _ else _ : Nat × Nat)).1
            rw [if_pos rfl]; exact hnewb
          · have hρ : (G'.named k (1000000 + σ.objs.length)).ρ (1000000 + σ.objs.length) = G'.ρ k := by
              show (if _ then _ else _) = _; rw [if_pos rfl]
            refine ⟨[], [], ucs, rfl, ⟨(as_rep τ u uy ucs u1 e3 v1 : DRep G'.I τ uy ucs), rfl⟩, by rw [hρ]; exact v2, fun j hj => ?_, rfl⟩
            rw [hρ]
            obtain ⟨g1, g2⟩ := v3 j (by rw [hcu]; exact hj)
            refine ⟨?_, g2⟩
            show (if _ = some k then some (1000000 + σ.objs.length) else _) = _
            rw [if_pos g1]
        · have := htv g; have := m4 g; have := k3 g; simp; omega
        · have := htv g; have := m4 g; simp at hg; omega
      rw [Bool.and_eq_true] at hnew
      obtain ⟨rfl, hvr⟩ := leads_spec hnew.1 hp (by rw [hz]; rfl)
      obtain ⟨hB', tE, tMm, k1, k2, k3, k4⟩ := g1
      obtain ⟨y, ts, m1, m2, m4⟩ := results_rep (P := P) (s := s') hT hres k1 k2 hv (dec_nl hnew.1 (by rw [hz]; rfl))
      obtain ⟨q1, t2, q2, q3⟩ := objs_rep _ _ _ _ _ k2 hos
      -- what is the call's own is new
      have fresh : ∀ g, 0 < cnt g tE → w.heap.size ≤ g := fun g hg => by
        rcases k4 g (by omega) with h | h
        · exact h
        · have h5 := (EnvRep.owned _ _ k1 g hg).2 0
          by_cases hlt : g < w.heap.size
          · rw [hB'.ev.own g 0 hlt] at h5; exact absurd h5 (h 0)
          · omega
      obtain ⟨G2, ts', p1, p2, p3, n2, n3, p4⟩ := enc_any (X := X0) (w0 := w) (G0 := G) hnew.1 hz hB'.wf (fun g hg => fresh g (by have := m4 g; omega)) hW hB'.ev m2
      have hl := hz2.lengths
      have hlo : (encOutO σ.res σ.outs r).length = σ.objs.length := by rw [hl.2, ← hl.1, q1]
      refine ⟨y, m1, G2, p1.mono hX0, p2, fun j _ => by rw [p3]; exact hB'.par j, ts', [], [], by rw [hz1]; exact n3, ?_, ?_, fun g => ?_, fun g hg => .inl (fresh g ?_)⟩
      · rw [hobj, List.take_of_length_le (by omega)]
        have h6 := hnew.2
        rw [Bool.or_eq_true] at h6
        rcases h6 with h | h
        · rw [p4 h]; exact objs_as _ _ _ _ _ hz2 q3
        · have h0 : σ.outs = [] := by simpa using h
          have : encOutO σ.res σ.outs r = [] := List.eq_nil_of_length_eq_zero (by rw [hl.2, h0]; rfl)
          rw [this]; rfl
      · rw [hobj, List.drop_eq_nil_of_le (by omega)]; rfl
      · have := n2 g; have := m4 g; have := k3 g; simp; omega
      · have := n2 g; have := m4 g; simp at hg; omega
    obtain ⟨y, h5, h6⟩ := hmain
    cases e with
    | exit i => cases g4
    | normal => exact ⟨g3, y, h5, h6⟩
    | ret => exact ⟨g3, y, h5, h6⟩
theorem fn_ok {f : FuncId} {fn : Func} {code : Code} {σ : Sg} {F : σ.In → Option σ.Out} (hT : TT P c) (hC : ∀ f e, lkN c.fns f = some e → CallOK P f e) (hm : P.follows .mixedOrders = true)
    (hf : P.funcs[f]? = some fn) (hb : fn.body = some code) (hnm : (fn.name == "runtime.NumGoroutine") = false) (hargs : Nat.ble σ.args.length fn.ntmps = true) (hres : okRes fn.results.toList = true) (hnew : okOut σ = true)
    (hcode : okCode c fn.ntmps code = true) (hF : ∀ x, F x = σ.fn c code fn.results.toList x) : CallOK P f (σ.entry F) :=
  fn_ok' hT hf hb hnm hargs hres hnew fun x _ h3 _ G w _ _ hR hsz hL => run_sound (N := fn.ntmps) (ds := []) hT hC hm code hcode (σ.K c fn.results.toList) _ _ _ w G hL ((hF _).symm.trans h3) hR hsz rfl
theorem alt_ok {f : FuncId} {σ : Sg} {a b : Entry} (ha : CallOK P f a) (hb : CallOK P f b) : CallOK P f (Entry.alt σ a b) := by
  have key : ∀ (α : Type) args objs (K : V → List V → Option α), (Entry.alt σ a b).run α args objs K = bif (Ar.pull σ.args 0 args).isSome then a.run α args objs K else b.run α args objs K := fun _ _ _ _ => rfl
  refine ⟨fun α args objs K => ?_, fun args objs vr os hval => ?_⟩
  · unfold Entry.val
    rw [key, key]
    cases (Ar.pull σ.args 0 args).isSome with
    | true => exact ha.nat α args objs K
    | false => exact hb.nat α args objs K
  · unfold Entry.val at hval
    rw [key] at hval
    cases hh : (Ar.pull σ.args 0 args).isSome with
    | true => rw [hh] at hval; exact ha.ok args objs vr os hval
    | false => rw [hh] at hval; exact hb.ok args objs vr os hval
end Go.Proofs.YtoikjekpckhgeaaGreat.Pal
end
