/- One operation. -/
import Derived.Test.YtennedlpmacicaaCall3
namespace Go.Proofs.Ytennedlpmacicaa.Pal
open Go
variable {P : Program} {X Y : Nat → Nat → Prop} {G0 G G' : Gh} {w0 w w' : World} {s : St} {a : Act} {c : Cx} {Q : Exit → Act → World → Prop}

/-- The run goes on to the answer r. -/
def Nxt {α : Type} (X : Nat → Nat → Prop) (G0 : Gh) (w0 : World) (a : Act) (K : St → Option α) (r : α) : Act → World → Prop :=
  fun a' w' => ∃ G' s', RS X G0 w0 G' s' a'.tmps w' ∧ a'.tmps.size = a.tmps.size ∧ a'.defers = a.defers ∧ K s' = some r
theorem put_size (a : Act) (d : Option Nat) (x : Value) : (a.put d x).tmps.size = a.tmps.size := by cases d <;> simp [Act.put]
theorem put_defers (a : Act) (d : Option Nat) (x : Value) : (a.put d x).defers = a.defers := by cases d <;> rfl
theorem wp_val {α : Type} {o : Oper} {K : St → Option α} {r : α} {x : Value} {v : V} {s' : St} (hx : (execOp a.eval o).run P w = .ok (.value x) w') (hR : RSv X G0 w0 G' s' a.tmps w' v x) (hd : ∀ t, o.dst = some t → t < a.tmps.size)
    (hK : K (s'.dst o.dst v) = some r) : o.wp P a w (Nxt X G0 w0 a K r) Q := by
  obtain ⟨_, _, _, _, _, _, hT, _⟩ := id hR
  simp only [Oper.wp, hx, Oper.upon]
  exact ⟨G', _, RSv.put (notLent_of_TRep hT) hd hR, put_size _ _ _, put_defers _ _ _, hK⟩
theorem stepV_sound {α : Type} {o : Oper} {K : St → Option α} {r : α} (hT : TT P c) (hR : RS X G0 w0 G s a.tmps w) (h : stepV c o s K = some r) (hd : ∀ t, o.dst = some t → t < a.tmps.size) : o.wp P a w (Nxt X G0 w0 a K r) Q := by
  obtain ⟨hB, tE, tM, h1, h2, h3, h4⟩ := id hR
  obtain ⟨v, x, g1, g2, g3⟩ := valO_sound hT hB.wf hR.reads h2 h
  exact wp_val g1 (hR.withV g2) hd g3
theorem lend_sound {d t : Nat} (hR : RS X G0 w0 G { s with env := s.env } a.tmps w) (h : a.tmps.getD t undef = a.tmps.getD d undef) : RS X G0 w0 G { s with env := (t, .lent d) :: rm s.env t } a.tmps w := by
  obtain ⟨hB, tE, tM, h1, h2, h3, h4⟩ := hR
  obtain ⟨t2, e1, e2⟩ := EnvRep.rm t s.env tE h1
  exact ⟨hB, t2, tM, ⟨h, e2⟩, h2, fun g => by have := e1 g; have := h3 g; omega, fun g hg => h4 g (by have := e1 g; omega)⟩
/-- A value is taken out; a copy stays. -/
theorem take_split : ∀ (p : List Step) (v u v' : V) (cs : List Value) (ts : List Nat), VRep G w v cs ts → v.get p = some u → V.put p v u.copy = some v' → pathOk p →
    ∃ c1 cu c2 tu tv, cs = c1 ++ (cu ++ c2) ∧ c1.length = offs p ∧ (∀ g, cnt g tu + cnt g tv ≤ cnt g ts) ∧ VRep G w u cu tu ∧ VRep G w v' cs tv ∧ v'.cells = v.cells := by
  intro p
  induction p with
  | nil =>
    intro v u v' cs ts hv hg hp _
    simp only [V.get, Option.some.injEq] at hg; subst hg
    simp only [V.put] at hp
    obtain ⟨hb, hp⟩ := cond_then hp
    injection hp with hp; subst hp
    simp only [Bool.and_eq_true] at hb
    exact ⟨[], cs, [], ts, [], by simp, rfl, fun g => by simp, hv, hv.copy v cs ts, (beq_nat.1 hb.1).symm⟩
  | cons st p ih =>
    intro v u v' cs ts hv hg hp hpo
    cases v with
    | dat τ x =>
      obtain ⟨hd, rfl⟩ := id hv
      obtain ⟨c1, cu, c2, tu, e1, e2, e3, e4⟩ := get_rep (st :: p) (.dat τ x) u cs [] hv hg hpo
      have htu : tu = [] := by
        cases tu with
        | nil => rfl
        | cons g t => have := e3 g; simp [cnt] at this
      subst htu
      have hcp := e4.copy u cu []
      obtain ⟨k1, _, d1, d0, d2, t', f1, f2, f3, f4, f5⟩ := put_rep (st :: p) (.dat τ x) u.copy v' cs cu [] [] hv hcp hp hpo
      have : d1 = c1 ∧ d0 = cu ∧ d2 = c2 := by
        have h1 : d1.length = c1.length := by rw [f2, e2]
        have h2 := e1.symm.trans f1
        obtain ⟨g1, g2⟩ := List.append_inj h2 h1.symm
        obtain ⟨g3, g4⟩ := List.append_inj g2 f3.symm
        exact ⟨g1.symm, g3.symm, g4.symm⟩
      obtain ⟨rfl, rfl, rfl⟩ := this
      refine ⟨d1, d0, d2, [], t', e1, e2, fun g => by have := f4 g; simpa using this, e4, by rw [e1]; exact f5, k1⟩
    | pr va vb =>
      obtain ⟨c1, c2, t1, t2, e1, e2, h1, h2⟩ := hv
      cases st with
      | l =>
        simp only [V.get] at hg
        simp only [V.put, Option.map_eq_some_iff] at hp
        obtain ⟨a', ha', rfl⟩ := hp
        obtain ⟨d1, du, d2, tu, tv, f1, f2, f3, f4, f5, f6⟩ := ih va u a' c1 t1 h1 hg ha' hpo
        refine ⟨d1, du, d2 ++ c2, tu, tv ++ t2, by rw [e1, f1]; simp, f2, fun g => by have := f3 g; subst e2; simp; omega, f4, by rw [e1]; exact mkPr_rep f5 h2, ?_⟩
        rw [mkPr_cells]; simp [V.cells, f6]
      | r o =>
        simp only [V.get] at hg
        obtain ⟨hb, hg⟩ := cond_then hg
        simp only [V.put] at hp
        obtain ⟨_, hp⟩ := cond_then hp
        simp only [Option.map_eq_some_iff] at hp
        obtain ⟨b', hb', rfl⟩ := hp
        obtain ⟨d1, du, d2, tu, tv, f1, f2, f3, f4, f5, f6⟩ := ih vb u b' c2 t2 h2 hg hb' hpo
        have hl := VRep.length va c1 t1 h1
        refine ⟨c1 ++ d1, du, d2, tu, t1 ++ tv, by rw [e1, f1]; simp, by simp [offs, f2, hl, beq_nat.1 hb], fun g => by have := f3 g; subst e2; simp; omega, f4, by rw [e1]; exact mkPr_rep h1 f5, ?_⟩
        rw [mkPr_cells]; simp [V.cells, f6]
      | ix n sz i => simp [V.get] at hg
    | _ => cases st <;> simp [V.get] at hg
theorem opdT_args {ρ : Option Ty → Operand → Option V} (hρ : Reads G w a ρ) : ∀ (l : List Operand) (tys : List (Option Ty)) (vs : List V), opdT ρ tys l = some vs → ArgsRep G w vs (l.map a.eval) []
  | [], tys, vs, h => by simp only [opdT, Option.some.injEq] at h; subst h; exact ⟨rfl, rfl⟩
  | x :: r, tys, vs, h => by
    simp only [opdT, Option.bind_eq_some_iff, Option.some.injEq] at h
    obtain ⟨v, hv, us, hus, rfl⟩ := h
    exact ⟨a.eval x, r.map a.eval, [], [], rfl, rfl, hρ _ _ _ hv, opdT_args hρ r _ us hus⟩
theorem args_append : ∀ (vs us : List V) (xs ys : List Value) (ts : List Nat), ArgsRep G w vs xs ts → ArgsRep G w us ys [] → ArgsRep G w (vs ++ us) (xs ++ ys) ts
  | [], us, xs, ys, ts, ⟨h1, h2⟩, k => by subst h1; subst h2; exact k
  | v :: vs, us, xs, ys, ts, ⟨x, xs', t1, t2, e1, e2, h1, h2⟩, k => by
    subst e1
    exact ⟨x, xs' ++ ys, t1, t2, rfl, e2, h1, args_append vs us xs' ys t2 h2 k⟩
theorem caps_args : ∀ (caps : List (Nat × List Step)) (xs : List Value), capsRep G caps xs → ArgsRep G w (caps.map fun x => .ref x.1 x.2) xs []
  | [], xs, h => ⟨h, rfl⟩
  | (k, p) :: r, xs, ⟨u, us, h1, h2, h3, h4⟩ => ⟨u, us, [], [], h1, rfl, ⟨[u], ⟨by rw [h2], h3, rfl⟩, rfl⟩, caps_args r us h4⟩
theorem takL_sound {mv : Bool} {tys : List (Option Ty)} {l : List Operand} {vs : List V} {s' : St} (hR : RS X G0 w0 G s a.tmps w) (h : takL mv tys s l = some (vs, s')) :
    Base X G0 w0 G w ∧ ∃ tE tM tA, EnvRep G w a.tmps s'.env tE ∧ MemRep G w s'.mem tM ∧ ArgsRep G w vs (l.map a.eval) tA ∧ (∀ g, cnt g tE + cnt g tM + cnt g tA ≤ 1) ∧ ∀ g, 0 < cnt g tE + cnt g tM + cnt g tA → w0.heap.size ≤ g ∨ ∀ o, X g o := by
  cases l with
  | nil =>
    simp only [takL, Option.some.injEq, Prod.mk.injEq] at h
    obtain ⟨rfl, rfl⟩ := h
    obtain ⟨hB, tE, tM, h1, h2, h3, h4⟩ := hR
    exact ⟨hB, tE, tM, [], h1, h2, ⟨rfl, rfl⟩, by simpa using h3, by simpa using h4⟩
  | cons x r =>
    simp only [takL, Option.bind_eq_some_iff, Option.some.injEq, Prod.mk.injEq] at h
    obtain ⟨⟨v, s1⟩, hv, us, hus, rfl, rfl⟩ := h
    have hR1 := tak_rep hR hv
    have hA := opdT_args (RS.reads hR1.rs) r _ us hus
    obtain ⟨hB, tE, tM, tV, h1, h2, h3, h4, h5⟩ := hR1
    exact ⟨hB, tE, tM, tV, h1, h2, ⟨a.eval x, r.map a.eval, tV, [], rfl, by simp, h3, hA⟩, h4, h5⟩
theorem wp_does {α : Type} {o : Oper} {K : St → Option α} {r : α} {f : Nat} {argv : Array Value} (hx : (execOp a.eval o).run P w = (callFunc f argv).run P w) (h : Does P f argv w fun x w' => ∃ G' s', RS X G0 w0 G' s' (putT a.tmps o.dst x) w' ∧ K s' = some r) :
    o.wp P a w (Nxt X G0 w0 a K r) Q := by
  have key : ∀ x, (a.put o.dst x).tmps = putT a.tmps o.dst x := fun x => by cases o.dst <;> rfl
  rcases h with ⟨h1, h2⟩ | ⟨v, w', h1, G', s', h2, h3⟩
  · simp only [Oper.wp, hx, h1, Oper.upon]
    refine Calls.mono h2 fun e w' he => ?_
    cases e with
    | returned v =>
      obtain ⟨G', s', g1, g2⟩ := he
      exact ⟨G', s', by rw [key]; exact g1, put_size _ _ _, put_defers _ _ _, g2⟩
    | _ => exact he.elim
  · simp only [Oper.wp, hx, h1, Oper.upon]
    exact ⟨G', s', by rw [key]; exact h2, put_size _ _ _, put_defers _ _ _, h3⟩
theorem run_callOp {dst : Option Tmp} {f : Operand} {args : Array Operand} {argTypes : Array TypeId} {ty : TypeId} {pos : String} {after : Array Edge} {guard : Option (Nat × Bool)} {g : Nat} {caps : Array Value} (hf : a.eval f = .func (.func g) #[] caps) :
    (execOp a.eval { dst := dst, op := .call { callee := .value f, args := args, argTypes := argTypes }, type := ty, pos := pos, after := after, guard := guard }).run P w = (callFunc g (args.map a.eval ++ caps)).run P w := by
  simp [execOp, resolve, hf, Deferred.ofValue, invoke]
theorem stepO_sound {α : Type} {mv ln : Bool} {o : Oper} {K : St → Option α} {r : α} (hT : TT P c) (hC : ∀ f e, lkN c.fns f = some e → CallOK P f e) (hR : RS X G0 w0 G s a.tmps w) (h : stepO c mv ln o s K = some r) (hd : ∀ t, o.dst = some t → t < a.tmps.size) :
    o.wp P a w (Nxt X G0 w0 a K r) Q := by
  obtain ⟨dst, op, ty, pos, after, guard⟩ := o
  have mvCase : ∀ x, (op = .move x ∨ op = .assign x) → (bif mv then (tak mv (c.ty ty) s x).bind fun vs => K (lend ln x ⟨dst, op, ty, pos, after, guard⟩ (vs.2.dst dst vs.1)) else stepV c ⟨dst, op, ty, pos, after, guard⟩ s K) = some r →
      Oper.wp P ⟨dst, op, ty, pos, after, guard⟩ a w (Nxt X G0 w0 a K r) Q := by
    intro x hx h
    cases mv with
    | false => exact stepV_sound hT hR h hd
    | true =>
      simp only [cond_true, Option.bind_eq_some_iff] at h
      obtain ⟨⟨v, s'⟩, hv, hK⟩ := h
      have hR1 := tak_rep hR hv
      have hrun : (execOp a.eval ⟨dst, op, ty, pos, after, guard⟩).run P w = .ok (.value (a.eval x)) w := by
        rcases hx with rfl | rfl <;> rfl
      obtain ⟨_, _, _, _, _, _, hTr, _⟩ := id hR1
      have hR2 := RSv.put (notLent_of_TRep hTr) hd hR1
      simp only [Oper.wp, hrun, Oper.upon]
      refine ⟨G, _, ?_, put_size _ _ _, put_defers _ _ _, hK⟩
      cases ln with
      | false => exact hR2
      | true =>
        cases x with
        | tmp t =>
          cases dst with
          | none => exact hR2
          | some d =>
            refine lend_sound hR2 ?_
            show (a.tmps.setIfInBounds d (a.tmps.getD t undef)).getD t undef = (a.tmps.setIfInBounds d (a.tmps.getD t undef)).getD d undef
            rw [getD_set_same (hd d rfl)]
            by_cases e : d = t
            · subst e; rw [getD_set_same (hd d rfl)]
            · rw [getD_set_other e]
        | _ => exact hR2
  unfold stepO at h
  split at h
  · rename_i x hop
    simp only at hop; subst hop
    exact mvCase x (.inl rfl) h
  · rename_i x hop
    simp only at hop; subst hop
    exact mvCase x (.inr rfl) h
  · rename_i t hop
    simp only at hop; subst hop
    simp only [Option.bind_eq_some_iff] at h
    obtain ⟨z, hz, h⟩ := h
    cases dst with
    | none => cases h
    | some d =>
      simp only at h
      obtain ⟨hch, hK⟩ := cond_then h
      simp only [Bool.and_eq_true, Option.isNone_iff_eq_none] at hch
      obtain ⟨⟨⟨c1, c2⟩, c3⟩, c4⟩ := hch
      obtain ⟨x, cs, g1, g2, g3, g4⟩ := hT.zero hz G w
      obtain ⟨y, hy, hyc⟩ : ∃ y, TRep G w z y [] ∧ y.cells = x.cells := by
        cases hag : z.agg with
        | true => exact ⟨.agg cs.toArray, ⟨cs, g2, by simp [hag]⟩, by show cs.toArray = x.cells; apply Array.ext'; simpa using g3.symm⟩
        | false =>
          obtain ⟨u, rfl⟩ := g2.one hag
          refine ⟨u, ⟨[u], g2, by simp [hag]⟩, ?_⟩
          apply Array.ext'
          rw [cells_of g2 (by simp [hag]), g3]
      have hb := RSv.box (T := t) (hR.withV hy) (Nat.le_of_ble_eq_true c1) c2 c3 c4 g4
      rw [hyc] at hb
      refine wp_val ?_ hb hd hK
      simp only [execOp]
      refine runV ?_
      simp only [Instr.alloc, Sem.run_bind, g1, Result.andThen_ok, newVar, newRow, run_newObj_alloc, Sem.run_pure]
  · rename_i t x hop
    simp only at hop; subst hop
    simp only [Option.bind_eq_some_iff] at h
    obtain ⟨⟨v, s'⟩, hv, h⟩ := h
    cases dst with
    | none => cases h
    | some d =>
      simp only at h
      obtain ⟨hch, hK⟩ := cond_then h
      simp only [Bool.and_eq_true, Option.isNone_iff_eq_none] at hch
      obtain ⟨⟨⟨⟨⟨c1, c2⟩, c3⟩, c4⟩, c5⟩, c6⟩ := hch
      have hb := RSv.box (T := t) (tak_rep hR hv) (Nat.le_of_ble_eq_true c1) c2 c3 c4 (by simpa using c5)
      refine wp_val ?_ hb hd hK
      simp only [execOp]
      refine runV ?_
      simp only [Instr.box, Sem.run_bind, Result.andThen_ok, newVar, newRow, run_newObj_alloc, Sem.run_pure]
  · rename_i t n parts hop
    simp only at hop; subst hop
    simp only [Option.bind_eq_some_iff] at h
    obtain ⟨τ, hτ, h⟩ := h
    split at h
    · rename_i e
      simp only [Option.bind_eq_some_iff] at h
      obtain ⟨ps, hps, h⟩ := h
      obtain ⟨hb, h⟩ := cond_then h
      simp only [Option.bind_eq_some_iff] at h
      obtain ⟨xs, hxs, hK⟩ := h
      simp only [Bool.and_eq_true] at hb
      obtain ⟨E, m, hu, hE⟩ := tyB_slc (hT.ty hτ).1
      obtain ⟨v, w', G', g1, g2⟩ := buildSlice_run (t := t) (n := n) (parts := parts.map fun p => (p.1, a.eval p.2)) hR hu hE (by simpa using opds_parts hR.reads _ _ hps) (beq_nat.1 hb.1) (Nat.le_of_ble_eq_true hb.2) hxs
      exact wp_val (runV g1) g2 hd hK
    · cases h
  · rename_i t ad hop
    simp only at hop; subst hop
    cases mv with
    | false => exact stepV_sound hT hR h hd
    | true =>
      simp only [cond_true, Option.bind_eq_some_iff] at h
      obtain ⟨ly, hly, av, hav, h⟩ := h
      have hra := opd_rep hR hav
      split at h
      · rename_i k p
        simp only [Option.bind_eq_some_iff] at h
        obtain ⟨v, hv, u, hu, h⟩ := h
        obtain ⟨hb, h⟩ := cond_then h
        simp only [Option.bind_eq_some_iff] at h
        obtain ⟨v', hv', hK⟩ := h
        simp only [Bool.and_eq_true] at hb
        obtain ⟨hp1, hp2⟩ := hra.ref_
        obtain ⟨hB, tE, tM, h1, h2, h3, h4⟩ := hR
        obtain ⟨t1, t2, cs, hc, g1, g2, g3, g4⟩ := MemRep.find k s.mem tM v h2 hv
        obtain ⟨c1, cu, c2, tu, tv, e1, e2, e3, e4, e5, e6⟩ := take_split p v u v' cs t1 g1 hu hv' hp2
        have hcu : CellsAt w (G.ρ k).1 ((G.ρ k).2 + offs p) cu := by
          intro j y hj
          have := g2 (offs p + j) y (by rw [e1, List.getElem?_append_right (by omega), List.getElem?_append_left (by have := (List.getElem?_eq_some_iff.1 hj).1; omega)]; rw [← hj]; congr 1; omega)
          rwa [← Nat.add_assoc] at this
        obtain ⟨x, hx, hxu⟩ := load_run (P := P) hT hly e4 hcu (beq_nat.1 hb.1) (by simpa using hb.2)
        refine wp_val (s' := { s with mem := setM s.mem k v' }) (v := u) (x := x) (G' := G) (w' := w) ?_ ⟨hB, tE, tv ++ t2, tu, h1, ⟨tv, t2, cs, rfl, e5, g2, by rw [e6]; exact g3, g4⟩, ⟨cu, e4, hxu⟩,
          fun g => by have := h3 g; have := hc g; have := e3 g; simp; omega, fun g hg => h4 g (by have := hc g; have := e3 g; simp at hg; omega)⟩ hd hK
        simp only [execOp, hp1, Gh.addr]
        exact runV hx
      · cases h
  · rename_i t ad x hop
    simp only at hop; subst hop
    simp only [Option.bind_eq_some_iff] at h
    obtain ⟨ly, hly, av, hav, ⟨v, s'⟩, hv, h⟩ := h
    have hra := opd_rep hR hav
    split at h
    · rename_i k p
      obtain ⟨hb, h⟩ := cond_then h
      simp only [Option.bind_eq_some_iff] at h
      obtain ⟨u0, hu0, u1, hu1, hK⟩ := h
      simp only [Bool.and_eq_true, Bool.not_eq_true', Option.isNone_iff_eq_none] at hb
      obtain ⟨hp1, hp2⟩ := hra.ref_
      obtain ⟨w', g1, g2⟩ := RSv.store (P := P) (T := t) (tak_rep hR hv) hu0 hu1 hp2 hb.1.2 (by rw [(hT.lay hly w).1, beq_nat.1 hb.1.1])
      have hdn := hb.2
      subst hdn
      simp only [Oper.wp, execOp, Sem.run_bind, hp1, g1, Result.andThen_ok, Sem.run_pure, Oper.upon]
      exact ⟨G, _, g2, rfl, rfl, hK⟩
    · cases h
  · rename_i f args argTypes hop
    simp only at hop; subst hop
    simp only [Option.bind_eq_some_iff] at h
    obtain ⟨fv, hfv, h⟩ := h
    have hrf := opd_rep hR hfv
    split at h
    · rename_i g caps
      simp only [Option.bind_eq_some_iff] at h
      obtain ⟨⟨vs, s'⟩, hvs, h⟩ := h
      obtain ⟨hB, tE, tM, tA, g1, g2, g3, g4, g5⟩ := takL_sound hR hvs
      obtain ⟨_, ⟨cv, e1, e2, _⟩, e3⟩ := hrf
      simp only [V.agg, Bool.false_eq_true, if_false] at e3
      rw [e1] at e3
      simp only [List.cons.injEq, and_true] at e3
      have hA := args_append _ _ _ _ _ g3 (caps_args caps cv.toList e2)
      refine wp_does (run_callOp e3.symm) ?_
      have := callV_sound (P := P) (tmps := a.tmps) hC h hB g1 g2 hA g4 g5 (fun t ht => by
        split at ht
        · rename_i t' r' hl
          injection ht with ht; subst ht
          rw [hl]; rfl
        · cases ht) hd
      have e : (args.toList.map a.eval ++ cv.toList).toArray = args.map a.eval ++ cv := by apply Array.ext'; simp
      rw [e] at this
      exact this
    · cases h
  · rename_i args argTypes hop
    simp only at hop; subst hop
    split at h
    · rename_i x y t t2 hargs htys
      simp only [Option.bind_eq_some_iff] at h
      obtain ⟨⟨v, s'⟩, hv, u, hu, h⟩ := h
      split at h
      · rename_i e' e2 e xs hty hty2 hvv
        simp only at hvv; subst hvv
        obtain ⟨hb, h⟩ := cond_then h
        simp only [Option.bind_eq_some_iff] at h
        obtain ⟨ys, hys, h⟩ := h
        obtain ⟨hroom, hK⟩ := br_then h
        have hR1 := tak_rep hR hv
        have hy := TRep.as_ hys (opd_rep hR1.rs hu)
        obtain ⟨E, m, hE, hEe⟩ := tyB_slc (hT.ty hty).1
        obtain ⟨E2, m2, hE2, _⟩ := tyB_slc (hT.ty hty2).1
        obtain ⟨v', w', G', g1, g2⟩ := append_run (ty := ty) hR1 hy hE hE2 hEe (beq_nat.1 hb) hroom
        refine wp_val ?_ g2 hd hK
        have ea : args = #[x, y] := by apply Array.ext'; simpa using hargs
        have et : argTypes = #[t, t2] := by apply Array.ext'; simpa using htys
        subst ea; subst et
        simp only [execOp, resolve, Sem.run_bind, Sem.run_pure, Result.andThen_ok, invoke, builtin, List.map_toArray, List.map_cons, List.map_nil, g1]
      · cases h
    · cases h
  · exact stepV_sound hT hR h hd
end Go.Proofs.Ytennedlpmacicaa.Pal
