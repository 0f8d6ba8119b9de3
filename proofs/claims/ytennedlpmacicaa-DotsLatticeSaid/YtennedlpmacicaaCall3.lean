/- Calls: the whole of it. -/
import Derived.Test.YtennedlpmacicaaCall2
namespace Go.Proofs.Ytennedlpmacicaa.Pal
open Go
variable {P : Program} {X Y : Nat → Nat → Prop} {G0 G G' : Gh} {w0 w w' : World} {s : St} {a : Act} {c : Cx}

/-- What the caller knows when the call is over. -/
def Gh.back (G : Gh) (h : Nat) (G' : Gh) (nw : Option Nat) (n : Nat) : Gh :=
  { I := G'.I
    O := fun b o => if b < h then G.O b o else match nw with
      | some d => if G'.O b o = some (1000000 + n) then some d else none
      | none => none
    ρ := fun k => match nw with
      | some d => if k = d then G'.ρ (1000000 + n) else G.ρ k
      | none => G.ρ k }
section
variable {l : List (Nat × List Step)} {nw : Option Nat} {n : Nat}
theorem back_ev (hE : Ev X (G.sub l) w G' w') : Ev X G w (G.back w.heap.size G' nw n) w' :=
  ⟨hE.evo, hE.le, hE.grow, fun b o hb => by simp [Gh.back, hb]⟩
theorem back_wf (hW : Wf G w) (hE : Ev X (G.sub l) w G' w') (hW' : Wf G' w') (hX : ∀ b o, b < w.heap.size → X b o → (G.sub l).O b o ≠ none ∨ ∀ q, G.O b q = none) : Wf (G.back w.heap.size G' nw n) w' := by
  refine ⟨hW'.holds, fun b o v hv => ?_, fun b o k hk => ?_⟩
  · simp only [Gh.back]
    split
    · rename_i hb
      cases hk : G.O b o with
      | none => rfl
      | some k =>
        exfalso
        have hio := hW'.io b o v hv
        rcases hE.grow b o v hv with h1 | h1 | h1
        · have := hW.io b o v h1; rw [hk] at this; cases this
        · omega
        · rcases hX b o hb h1 with h2 | h2
          · apply h2; rw [← hE.own b o hb]; exact hio
          · rw [h2 o] at hk; cases hk
    · have := hW'.io b o v hv
      cases nw <;> simp [this]
  · simp only [Gh.back] at hk
    split at hk
    · exact Nat.lt_of_lt_of_le (hW.lt b o k hk) hE.evo.size
    · cases nw with
      | none => cases hk
      | some d =>
        simp only at hk
        split at hk
        · rename_i e; exact hW'.lt b o _ e
        · cases hk
theorem back_tok (hE : Ev X (G.sub l) w G' w') (hX : ∀ b o, b < w.heap.size → X b o → (G.sub l).O b o ≠ none ∨ ∀ q, G.O b q = none) {g : Nat} (hO : ∀ o, G'.O g o = none) (hg : w.heap.size ≤ g ∨ ∀ o, X g o) (o : Nat) : (G.back w.heap.size G' nw n).O g o = none := by
  simp only [Gh.back]
  split
  · rename_i hb
    rcases hg with hg | hg
    · omega
    · rcases hX g 0 hb (hg 0) with h2 | h2
      · exact absurd ((hE.own g 0 hb).symm.trans (hO 0)) h2
      · exact h2 o
  · cases nw <;> simp [hO o]
end
theorem objs_back {l0 : List (Nat × List Step)} {nw : Option Nat} {n : Nat} (hd0 : distinct l0 = true) (hE : Ev X (G.sub l0) w G' w') (hX : ∀ b o, b < w.heap.size → X b o → (G.sub l0).O b o ≠ none ∨ ∀ q, G.O b q = none) (hpar : ∀ j, j < l0.length → G'.ρ (1000000 + j) = (G.sub l0).ρ (1000000 + j))
    (hnw : ∀ d, nw = some d → d ∉ l0.map (·.1)) :
    ∀ (l pre : List (Nat × List Step)) (us vs : List V) (ts to : List Nat), l0 = pre ++ l → us.length = l.length → (∀ u ∈ us, u.refs = []) → (∀ (j : Nat) (u v : V), us[j]? = some u → vs[j]? = some v → v.cells = u.cells) → (∀ g ∈ ts, w.heap.size ≤ g ∨ ∀ o, X g o) →
      ObjsRep G w l vs to → MemRep G' w' (number (1000000 + pre.length) us) ts → ObjsRep (G.back w.heap.size G' nw n) w' l us ts
  | [], pre, us, vs, ts, to, _, hl, _, _, _, _, hM => by
    have : us = [] := List.eq_nil_of_length_eq_zero (by simpa using hl)
    subst this
    exact ⟨rfl, hM⟩
  | (k, p) :: r, pre, [], vs, ts, to, _, hl, _, _, _, _, _ => by simp at hl
  | (k, p) :: r, pre, u :: us, vs, ts, to, h0, hl, hr, hc, ht, ⟨v, vs', t1, t2, cs, e1, e2, h1, h2, h3, h4⟩, ⟨s1, s2, ds, f1, f2, f3, f4, f5⟩ => by
    subst e1
    have hk : (l0.map (·.1))[pre.length]? = some k := by rw [h0]; simp
    have hk' : (l0.map (·.1)).getD pre.length 0 = k := by simp [List.getD, hk]
    have hρ : G'.ρ (1000000 + pre.length) = G.ρ k := by rw [hpar _ (by rw [h0]; simp), sub_ρ, hk']
    have hkb : (G.back w.heap.size G' nw n).ρ k = G.ρ k := by
      simp only [Gh.back]
      cases nw with
      | none => rfl
      | some d =>
        have : k ≠ d := fun e => hnw d rfl (by rw [← e]; exact List.mem_of_getElem? hk)
        simp [this]
    have hcell : v.cells = u.cells := hc 0 u v rfl rfl
    refine ⟨u, us, s1, s2, ds, rfl, f1, ?_, ?_, ?_, ?_⟩
    · exact f2.swap (show ∀ b o, (G.back w.heap.size G' nw n).I b o = G'.I b o from fun _ _ => rfl) u ds s1 (hr u (by simp)) (fun g hg o => back_tok hE hX (f2.owned u ds s1 g hg).2 (ht g (by simp [f1, hg])) o)
    · rw [hkb, ← hρ]; exact f3
    · intro j hj
      rw [hkb]
      have hjv : j < v.cells := by omega
      have ho := (h3 j hjv).1
      refine ⟨?_, by rw [← hρ]; exact (f4 j hj).2⟩
      simp only [Gh.back, if_pos (hE.evo.size |> fun _ => show (G.ρ k).1 < w.heap.size from by
        have := World.block_lt_of_cell? w _ (h2 j _ (List.getElem?_eq_getElem (by rw [VRep.length v cs t1 h1]; exact hjv))); exact this)]
      exact ho
    · exact objs_back hd0 hE hX hpar hnw r (pre ++ [(k, p)]) us vs' s2 t2 (by rw [h0]; simp) (by simpa using hl) (fun u hu => hr u (by simp [hu])) (fun j u v hu hv => hc (j + 1) u v (by simpa using hu) (by simpa using hv)) (fun g hg => ht g (by simp [f1, hg])) h4 (by simpa [Nat.add_assoc] using f5)
theorem giveBack_sub : ∀ (l : List (Nat × List Step)) (m m' : List (Nat × V)) (us rest : List V), giveBack m l us = some (m', rest) → distinct l = true → (∀ x ∈ rmL m l, x ∈ m') ∧ ∀ k ∈ l.map (·.1), k ∈ keys m'
  | [], m, m', us, rest, h, _ => by
    simp only [giveBack, Option.some.injEq, Prod.mk.injEq] at h
    obtain ⟨rfl, rfl⟩ := h
    exact ⟨fun x hx => hx, by simp⟩
  | (k, []) :: r, m, m', [], rest, h, _ => by simp [giveBack] at h
  | (k, _ :: _) :: r, m, m', us, rest, h, _ => by cases us <;> simp [giveBack] at h
  | (k, []) :: r, m, m', u :: us, rest, h, hd => by
    simp only [distinct, Bool.and_eq_true, Bool.not_eq_true'] at hd
    simp only [giveBack, Option.bind_eq_some_iff] at h
    obtain ⟨v0, hv0, h⟩ := h
    obtain ⟨hb, h⟩ := cond_then h
    obtain ⟨h1, h2⟩ := giveBack_sub r _ m' us rest h hd.2
    have e : rmL (setM m k u) r = (k, u) :: rmL (rm m k) r := rmL_cons_mem r _ (memN_mem _ _ hd.1)
    rw [e] at h1
    refine ⟨fun x hx => h1 x (by simp [show rmL m ((k, []) :: r) = rmL (rm m k) r from rfl] at hx; simp [hx]), fun q hq => ?_⟩
    simp only [List.map_cons, List.mem_cons] at hq
    rcases hq with rfl | hq
    · exact List.mem_map.2 ⟨_, h1 (q, u) (by simp), rfl⟩
    · exact h2 q hq
theorem allRefs_sub {m m' : List (Nat × V)} (h : ∀ x ∈ m, x ∈ m') {k : Nat} (hk : k ∈ allRefs m) : k ∈ allRefs m' := by
  have mem : ∀ (m : List (Nat × V)) k, k ∈ allRefs m ↔ ∃ x ∈ m, k ∈ x.2.refs := by
    intro m k
    induction m with
    | nil => simp [allRefs]
    | cons y m ih => obtain ⟨t, v⟩ := y; simp [allRefs, ih]
  obtain ⟨x, hx, hr⟩ := (mem m k).1 hk
  exact (mem m' k).2 ⟨x, h x hx, hr⟩
theorem set_same (tmps : Array Value) (t : Nat) : tmps.setIfInBounds t (tmps.getD t undef) = tmps := by
  apply Array.ext
  · simp
  · intro i h1 h2
    rw [Array.getElem_setIfInBounds]
    split
    · rename_i e; subst e; simp [Array.getD, h2]
    · rfl
def putT (tmps : Array Value) (d : Option Nat) (x : Value) : Array Value := match d with | some t => tmps.setIfInBounds t x | none => tmps
theorem RSv.put' {v : V} {x : Value} {d : Option Nat} {tmps : Array Value} (hv : notLent v) (hd : ∀ t, d = some t → t < tmps.size) (h : RSv X G0 w0 G s tmps w v x) : RS X G0 w0 G (s.dst d v) (putT tmps d x) w := by
  have := RSv.put (a := { tmps := tmps, defers := [] }) hv hd h
  cases d <;> exact this
theorem callV_sound {α : Type} {f : Nat} {args : List V} {d a0 : Option Nat} {K : St → Option α} {r : α} {tmps : Array Value} {argv : List Value} {tE tM tA : List Nat} (hC : ∀ f e, lkN c.fns f = some e → CallOK P f e) (h : callV c f args d a0 s K = some r)
    (hB : Base X G0 w0 G w) (hE : EnvRep G w tmps s.env tE) (hM : MemRep G w s.mem tM) (hA : ArgsRep G w args argv tA) (hcnt : ∀ g, cnt g tE + cnt g tM + cnt g tA ≤ 1)
    (htok : ∀ g, 0 < cnt g tE + cnt g tM + cnt g tA → w0.heap.size ≤ g ∨ ∀ o, X g o) (ha0 : ∀ t, a0 = some t → argv.head? = some (tmps.getD t undef)) (hd : ∀ t, d = some t → t < tmps.size) :
    Does P f argv.toArray w fun x w' => ∃ G' s', RS X G0 w0 G' s' (putT tmps d x) w' ∧ K s' = some r := by
  simp only [callV, Option.bind_eq_some_iff] at h
  obtain ⟨e, he, ⟨args', l⟩, hcan, h⟩ := h
  obtain ⟨hdist, h⟩ := cond_then h
  simp only [Option.bind_eq_some_iff] at h
  obtain ⟨objs, hobjs, h⟩ := h
  obtain ⟨hnr, h⟩ := cond_then h
  have hOK := hC f e he
  rw [hOK.nat] at h
  simp only [Option.bind_eq_some_iff] at h
  obtain ⟨⟨vr, os⟩, hval, ⟨m', rest⟩, hgb, h⟩ := h
  obtain ⟨hnr', h⟩ := cond_then h
  obtain ⟨hpaths, hlen⟩ := contents_paths l s.mem objs hobjs
  obtain ⟨to, tr, hsp, hobj, hrest⟩ := mem_split l s.mem objs tM hdist hobjs hM
  have hargs := canon_args args args' l 0 l [] [] argv tA hcan (by simp) rfl hpaths hA
  have hoown : ∀ g ∈ to, ∀ o, G.O g o = none := fun g hg => (MemRep.owned s.mem tM hM g (by have := hsp g; have := cnt_pos.1 hg; omega)).2
  have hAown : ∀ (args : List V) (argv : List Value) (tA : List Nat), ArgsRep G w args argv tA → ∀ g, 0 < cnt g tA → g < w.heap.size ∧ ∀ o, G.O g o = none := by
    intro args
    induction args with
    | nil => intro argv tA h g hg; obtain ⟨_, rfl⟩ := h; simp at hg
    | cons v vs ih =>
      intro argv tA h g hg
      obtain ⟨x, xs, t1, t2, _, rfl, h1, h2⟩ := h
      simp only [cnt_append] at hg
      rcases Nat.eq_zero_or_pos (cnt g t1) with h0 | h0
      · exact ih xs t2 h2 g (by omega)
      · exact h1.owned h0
  have hnum := number_rep l l [] objs to rfl hdist (noRefs_spec objs hnr) hoown hobj
  let X1 : Nat → Nat → Prop := fun b o => (G.sub l).O b o ≠ none ∨ 0 < cnt b tA + cnt b to
  have hX1 : ∀ b o, b < w.heap.size → X1 b o → (G.sub l).O b o ≠ none ∨ ∀ q, G.O b q = none := by
    intro b o _ hx
    refine hx.imp id fun hp q => ?_
    rcases Nat.eq_zero_or_pos (cnt b tA) with h0 | h0
    · exact hoown b (cnt_pos.2 (by omega)) q
    · exact (hAown args argv tA hA b h0).2 q
  have hsub : Wf (G.sub l) w := ⟨hB.wf.holds, fun b o v hv => by simp [Gh.sub, hB.wf.io b o v hv], fun b o k hk => by
    simp only [Gh.sub, Option.bind_eq_some_iff] at hk
    obtain ⟨q, hq, _⟩ := hk
    exact hB.wf.lt b o q hq⟩
  have hdo := hOK.ok args' objs vr os hval X1 (G.sub l) w argv tA to hsub (fun b o k hk => ⟨.inl (by rw [hk]; simp), by simp only [Gh.sub, Option.bind_eq_some_iff] at hk; obtain ⟨q, _, hq⟩ := hk; exact (idx_lt _ _ _ _ hq).1⟩) hargs (by simpa using hnum)
    (fun g => by have := hcnt g; have := hsp g; omega) (fun g hg o => .inr hg)
  refine hdo.mono ?_
  rintro x w' ⟨G', hEv, hW', hpar, tV, tM', tX, hTV, hTM, hRest, hc', ht'⟩
  rw [hlen] at hpar hTM hRest
  have hX0 : ∀ b o, b < w0.heap.size → X1 b o → X b o := by
    intro b o hb hx
    rcases hx with hx | hx
    · cases hk : G.O b o with
      | none => exact absurd (by simp [Gh.sub, hk]) hx
      | some k => exact hB.xo b o k hb hk
    · rcases htok b (by have := hsp b; omega) with h1 | h1
      · omega
      · exact h1 o
  have hnotX : ∀ g, (∀ o, G.O g o = none) → cnt g tA + cnt g to = 0 → ∀ o, ¬ X1 g o := by
    intro g hg hz o hx
    rcases hx with hx | hx
    · exact hx (sub_none hg o)
    · omega
  have tok0 : ∀ g, (w.heap.size ≤ g ∨ ∀ o, X1 g o) → w0.heap.size ≤ g ∨ ∀ o, X g o := by
    intro g hg
    rcases hg with hg | hg
    · exact .inl (Nat.le_trans hB.ev.evo.size hg)
    · by_cases hb : g < w0.heap.size
      · exact .inr fun o => hX0 g o hb (hg o)
      · exact .inl (by omega)
  -- what lies beside
  have frame : ∀ nw : Option Nat, (∀ d, nw = some d → d < 1000000 ∧ d ∉ keys m' ∧ d ∉ allRefs s.env ∧ d ∉ allRefs (rmL s.mem l) ∧ d ∉ l.map (·.1) ∧ d ∉ keys (rmL s.mem l)) →
      let Gn := G.back w.heap.size G' nw l.length
      Base X G0 w0 Gn w' ∧ EnvRep Gn w' tmps s.env tE ∧ MemRep Gn w' (rmL s.mem l) tr ∧ ObjsRep Gn w' l (os.take l.length) tM' := by
    intro nw hnw
    have hEb : Ev X1 G w (G.back w.heap.size G' nw l.length) w' := back_ev hEv
    have hWb := back_wf (nw := nw) (n := l.length) hB.wf hEv hW' hX1
    have hρ : ∀ k, (∀ d, nw = some d → k ≠ d) → (G.back w.heap.size G' nw l.length).ρ k = G.ρ k := by
      intro k hk
      simp only [Gh.back]
      cases nw with
      | none => rfl
      | some d => simp [hk d rfl]
    refine ⟨hB.step hEb hWb (fun j => hρ _ fun d hd => by have := (hnw d hd).1; omega) hX0, ?_, ?_, ?_⟩
    · refine hE.ev hEb s.env tE (fun k hk => hρ k fun d hd => fun e => (hnw d hd).2.2.1 (e ▸ hk)) fun g hg => ?_
      have := cnt_pos.1 hg
      exact hnotX g (EnvRep.owned s.env tE hE g this).2 (by have := hcnt g; have := hsp g; omega)
    · refine MemRep.ev hEb _ tr (fun k hk => hρ k fun d hd => fun e => (hnw d hd).2.2.2.1 (e ▸ hk)) (fun k hk => hρ k fun d hd => fun e => (hnw d hd).2.2.2.2.2 (e ▸ hk)) (fun g hg => ?_) (fun k hk b o ho hx => ?_) hrest
      · have := cnt_pos.1 hg
        exact hnotX g (MemRep.owned s.mem tM hM g (by have := hsp g; omega)).2 (by have := hcnt g; have := hsp g; omega)
      · rcases hx with hx | hx
        · simp only [Gh.sub, ho, Option.bind_some] at hx
          cases hi : idx l 1000000 k with
          | none => exact hx hi
          | some j => exact (keys_rmL l s.mem k hk).2 (List.mem_of_getElem? (idx_lt l _ _ _ hi).2.2)
        · have hb := hB.wf.lt b o k ho
          rcases Nat.eq_zero_or_pos (cnt b tA) with h0 | h0
          · have := hoown b (cnt_pos.2 (by omega)) o
            rw [ho] at this; cases this
          · have := (hAown args argv tA hA b h0).2 o
            rw [ho] at this; cases this
    · refine objs_back hdist hEv hX1 hpar (fun d hd => (hnw d hd).2.2.2.2.1) l [] (os.take l.length) objs tM' to rfl ?_ (fun u hu => noRefs_spec os hnr' u (List.mem_of_mem_take hu)) (fun j u v hu hv => ?_) (fun g hg => ht' g (by have := cnt_pos.1 hg; omega)) hobj (by simpa using hTM)
      · have : ∀ (l : List (Nat × List Step)) (m : List (Nat × V)) (os rest : List V) (m' : List (Nat × V)), giveBack m l os = some (m', rest) → l.length ≤ os.length := by
          intro l
          induction l with
          | nil => intro m os rest m' _; exact Nat.zero_le _
          | cons y l ih =>
            intro m os rest m' hg
            obtain ⟨k, p⟩ := y
            cases p with
            | cons _ _ => cases os <;> simp [giveBack] at hg
            | nil =>
              cases os with
              | nil => simp [giveBack] at hg
              | cons u os =>
                simp only [giveBack, Option.bind_eq_some_iff] at hg
                obtain ⟨_, _, hg⟩ := hg
                obtain ⟨_, hg⟩ := cond_then hg
                have := ih _ _ _ _ hg
                simp; omega
        rw [List.length_take]; have := this l s.mem os rest m' hgb; omega
      · have hj : j < l.length := by
          have := (List.getElem?_eq_some_iff.1 hu).1
          rw [List.length_take] at this; omega
        refine giveBack_cells l s.mem m' os rest objs hgb hdist hobjs j u v hj ?_ hv
        rw [List.getElem?_take] at hu
        rw [if_pos hj] at hu; exact hu
  have vr0 : ∀ (nw : Option Nat) (u : V) (y : Value) (t : List Nat), u.refs = [] → TRep G' w' u y t → (∀ g ∈ t, w.heap.size ≤ g ∨ ∀ o, X1 g o) → TRep (G.back w.heap.size G' nw l.length) w' u y t := by
    intro nw u y t hu hT ht
    exact hT.swap (show ∀ b o, (G.back w.heap.size G' nw l.length).I b o = G'.I b o from fun _ _ => rfl) hu fun g hg o => back_tok hEv hX1 (hT.owned (cnt_pos.1 hg)).2 (ht g hg) o
  have tokOK : ∀ g, 0 < cnt g tE + (cnt g tM' + cnt g tr) + (cnt g tV + cnt g tX) → w0.heap.size ≤ g ∨ ∀ o, X g o := by
    intro g hg
    by_cases h1 : 0 < cnt g tE + cnt g tM
    · exact htok g (by omega)
    · exact tok0 g (ht' g (by have := hsp g; omega))
  have cntOK : ∀ g, cnt g tE + (cnt g tM' + cnt g tr) + (cnt g tV + cnt g tX) ≤ 1 := by
    intro g
    have h1 := hc' g
    have h2 := hcnt g
    have h3 := hsp g
    by_cases hp : 0 < cnt g tV + cnt g tM' + cnt g tX
    · have hz : cnt g tE + cnt g tr = 0 := by
        rcases Nat.eq_zero_or_pos (cnt g tE + cnt g tr) with h0 | h0
        · exact h0
        · exfalso
          have ⟨hlt, hO⟩ : g < w.heap.size ∧ ∀ o, G.O g o = none := by
            rcases Nat.eq_zero_or_pos (cnt g tE) with h4 | h4
            · exact MemRep.owned s.mem tM hM g (by omega)
            · exact EnvRep.owned s.env tE hE g h4
          rcases ht' g hp with h5 | h5
          · omega
          · exact hnotX g hO (by omega) 0 (h5 0)
      omega
    · omega
  obtain ⟨hsub1, hsub2⟩ := giveBack_sub l s.mem m' os rest hgb hdist
  split at h
  · rename_i hr0
    simp only at hr0; subst hr0
    obtain ⟨hvr, hK⟩ := cond_then h
    have hvr' : vr.refs = [] := by simpa using hvr
    obtain ⟨g1, g2, g3, g4⟩ := frame none (fun d hd => by cases hd)
    obtain ⟨e1, t, e2, e3⟩ := giveBack_rep l s.mem m' os [] tM' tr hgb hdist g4 g3
    refine ⟨_, _, RSv.put' (s := ⟨s.env, m'⟩) (notLent_of_TRep hTV) hd ⟨g1, tE, t, tV, g2, e3, vr0 none vr x tV hvr' hTV (fun g hg => ht' g (by have := cnt_pos.1 hg; omega)), fun g => by have := cntOK g; have := e2 g; omega, fun g hg => tokOK g (by have := e2 g; omega)⟩, hK⟩
  · rename_i e0 xs hr0
    simp only at hr0; subst hr0
    cases a0 with
    | none => cases h
    | some t0 =>
      simp only at h
      obtain ⟨hvr, hK⟩ := cond_then h
      have hvr' : vr.refs = [] := by simpa using hvr
      obtain ⟨g1, g2, g3, g4⟩ := frame none (fun d hd => by cases hd)
      obtain ⟨e1, t, e2, e3⟩ := giveBack_rep l s.mem m' os _ tM' tr hgb hdist g4 g3
      rw [← e1] at hRest
      obtain ⟨x0, hx0, hT0⟩ := hRest
      rw [ha0 t0 rfl] at hx0
      injection hx0 with hx0; subst hx0
      have hT1 := vr0 none _ _ tX rfl hT0 (fun g hg => ht' g (by have := cnt_pos.1 hg; omega))
      obtain ⟨tE', hcE, hE'⟩ := EnvRep.rm t0 s.env tE g2
      refine ⟨_, _, RSv.put' (s := ⟨(t0, .raw e0 xs) :: rm s.env t0, m'⟩) (notLent_of_TRep hTV) hd ⟨g1, tX ++ tE', t, tV, ⟨tX, tE', rfl, hT1, hE'⟩, e3, vr0 none vr x tV hvr' hTV (fun g hg => ht' g (by have := cnt_pos.1 hg; omega)),
        fun g => by have := cntOK g; have := e2 g; have := hcE g; simp; omega, fun g hg => tokOK g (by have := e2 g; have := hcE g; simp at hg; omega)⟩, hK⟩
  · rename_i u hno hr0
    simp only at hr0; subst hr0
    cases d with
    | none => cases h
    | some dd =>
      simp only at h
      obtain ⟨hch, h⟩ := cond_then h
      simp only [Bool.and_eq_true, Option.isNone_iff_eq_none] at hch
      obtain ⟨⟨⟨c1, c2⟩, c3⟩, c4⟩ := hch
      simp only [Option.bind_eq_some_iff] at h
      obtain ⟨v', hv', hK⟩ := h
      have hlt : dd < 1000000 := Nat.le_of_ble_eq_true c1
      have hkm := lk_none _ _ c2
      obtain ⟨g1, g2, g3, g4⟩ := frame (some dd) (fun d hd => by
        injection hd with hd; subst hd
        exact ⟨hlt, hkm, noRef_spec _ _ c3, fun hk => noRef_spec _ _ c4 (allRefs_sub hsub1 hk), fun hk => hkm (hsub2 _ hk), fun hk => by
          obtain ⟨y, hy, e⟩ := List.mem_map.1 hk
          exact hkm (List.mem_map.2 ⟨y, hsub1 y hy, e⟩)⟩)
      obtain ⟨e1, t, e2, e3⟩ := giveBack_rep l s.mem m' os _ tM' tr hgb hdist g4 g3
      have hur : u.refs = [] := noRefs_spec os hnr' u (List.mem_of_mem_drop (by rw [← e1]; simp))
      rw [← e1] at hRest
      have hRest' : w.heap.size ≤ (G'.ρ (1000000 + l.length)).1 ∧ MemRep G' w' [(1000000 + l.length, u)] tX := by
        cases u with
        | raw e xs => exact absurd rfl (hno e xs)
        | _ => exact hRest
      obtain ⟨hnew, t1, t2, cs, f1, f2, f3, f4, f5⟩ := hRest'
      simp only [MemRep] at f5; subst f5
      simp only [List.append_nil] at f1; subst f1
      have hρd : (G.back w.heap.size G' (some dd) l.length).ρ dd = G'.ρ (1000000 + l.length) := by simp [Gh.back]
      have hmem : MemRep (G.back w.heap.size G' (some dd) l.length) w' ((dd, u) :: m') (tX ++ t) := by
        refine ⟨tX, t, cs, rfl, ?_, ?_, ?_, e3⟩
        · exact f2.swap (show ∀ b o, (G.back w.heap.size G' (some dd) l.length).I b o = G'.I b o from fun _ _ => rfl) u cs tX hur (fun g hg o => back_tok hEv hX1 (f2.owned u cs tX g hg).2 (ht' g (by have := cnt_pos.1 hg; omega)) o)
        · rw [hρd]; exact f3
        · intro j hj
          rw [hρd]
          refine ⟨?_, (f4 j hj).2⟩
          simp only [Gh.back]
          rw [if_neg (by omega), if_pos (f4 j hj).1]
      have hTV' : TRep (G.back w.heap.size G' (some dd) l.length) w' v' x tV := by
        unfold fresh at hv'
        split at hv'
        · rename_i k
          obtain ⟨hb, hv'⟩ := cond_then hv'
          injection hv' with hv'; subst hv'
          obtain ⟨ds, ⟨z1, z2, z3⟩, z4⟩ := hTV
          refine ⟨ds, ⟨?_, trivial, z3⟩, z4⟩
          rw [z1, beq_nat.1 hb]; simp only [Gh.addr, hρd]
        · rename_i k b _
          obtain ⟨hb, hv'⟩ := cond_then hv'
          injection hv' with hv'; subst hv'
          simp only [Bool.and_eq_true, List.isEmpty_iff] at hb
          obtain ⟨ds, ⟨va, vb, ca, cb, s1, s2, z1, z2, ⟨z3, z3', z3''⟩, z4, z5, z6⟩, z7⟩ := hTV
          refine ⟨ds, ⟨va, vb, ca, cb, s1, s2, z1, z2, ⟨?_, trivial, z3''⟩, z4, ?_, z6⟩, z7⟩
          · rw [z3, beq_nat.1 hb.1]; simp only [Gh.addr, hρd]
          · exact z5.swap (show ∀ b o, (G.back w.heap.size G' (some dd) l.length).I b o = G'.I b o from fun _ _ => rfl) b cb s2 hb.2 (fun g hg o => back_tok hEv hX1 (z5.owned b cb s2 g hg).2 (ht' g (by have := cnt_pos.1 (show g ∈ tV by rw [z2]; simp [hg]); omega)) o)
        · cases hv'
      refine ⟨_, _, RSv.put' (d := some dd) (s := ⟨s.env, (dd, u) :: m'⟩) (notLent_of_TRep hTV') hd ⟨g1, tE, tX ++ t, tV, g2, hmem, hTV', fun g => by have := cntOK g; have := e2 g; simp; omega, fun g hg => tokOK g (by have := e2 g; simp at hg; omega)⟩, hK⟩
  · cases h
end Go.Proofs.Ytennedlpmacicaa.Pal
