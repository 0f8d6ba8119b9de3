/- Functions: what the abstract run of a body gives, the function's call gives. -/
import Derived.Test.YtennedlpmacicaaCode
namespace Go.Proofs.Ytennedlpmacicaa.Pal
open Go
variable {P : Program} {X Y : Nat → Nat → Prop} {G0 G G' : Gh} {w0 w w' : World} {s : St} {a : Act} {c : Cx} {Q : Exit → Act → World → Prop}

/-! ### Data among what is handed over -/
def AsL : List Ty → List V → List V → Prop
  | [], vs, us => vs = [] ∧ us = []
  | τ :: r, vs, us => ∃ v vs' y us', vs = v :: vs' ∧ us = .dat τ y :: us' ∧ V.as τ v = some y ∧ AsL r vs' us'
theorem dec_asL : ∀ (ts : List Ty) (vs : List V) (x : Dl ts), Dl.dec ts vs = some x → AsL ts vs (Dl.enc ts x)
  | [], [], x, _ => ⟨rfl, rfl⟩
  | [], _ :: _, x, h => by simp [Dl.dec] at h
  | [τ], [], x, h => by simp [Dl.dec] at h
  | [τ], [v], x, h => ⟨v, [], x, [], rfl, rfl, h, rfl, rfl⟩
  | [τ], _ :: _ :: _, x, h => by simp [Dl.dec] at h
  | τ :: τ' :: r, [], x, h => by simp [Dl.dec] at h
  | τ :: τ' :: r, v :: vs, x, h => by
    simp only [Dl.dec, Option.bind_eq_some_iff] at h
    obtain ⟨x1, h1, y, h2, h3⟩ := h
    injection h3 with h3; subst h3
    exact ⟨v, vs, x1, _, rfl, rfl, h1, dec_asL (τ' :: r) vs y h2⟩
theorem AsL.lengths : ∀ {ts : List Ty} {vs us : List V}, AsL ts vs us → vs.length = ts.length ∧ us.length = ts.length
  | [], _, _, ⟨h1, h2⟩ => by subst h1; subst h2; exact ⟨rfl, rfl⟩
  | τ :: r, _, _, ⟨v, vs, y, us, h1, h2, _, h4⟩ => by subst h1; subst h2; have := AsL.lengths h4; simp [this]
theorem AsL.split : ∀ {t1 t2 : List Ty} {v1 v2 us : List V}, AsL (t1 ++ t2) (v1 ++ v2) us → v1.length = t1.length → AsL t1 v1 (us.take t1.length) ∧ AsL t2 v2 (us.drop t1.length)
  | [], t2, v1, v2, us, h, hl => by
    have : v1 = [] := List.eq_nil_of_length_eq_zero hl
    subst this
    exact ⟨⟨rfl, rfl⟩, h⟩
  | τ :: r, t2, [], v2, us, h, hl => by simp at hl
  | τ :: r, t2, v :: v1, v2, us, h, hl => by
    obtain ⟨v', vs', y, us', h1, h2, h3, h4⟩ := h
    simp only [List.cons_append, List.cons.injEq] at h1
    obtain ⟨rfl, rfl⟩ := h1
    subst h2
    obtain ⟨g1, g2⟩ := AsL.split h4 (by simpa using hl)
    exact ⟨⟨v, v1, y, us'.take r.length, rfl, rfl, h3, g1⟩, g2⟩
theorem pull_ref {r : List Ar} {n : Nat} {vs ds : List V} (h : Ar.pull (.ref :: r) n vs = some ds) : ∃ vs', vs = .ref (1000000 + n) [] :: vs' ∧ Ar.pull r (n + 1) vs' = some ds := by
  cases vs with
  | nil => simp [Ar.pull] at h
  | cons v vs =>
    cases v <;> try (simp [Ar.pull] at h; done)
    rename_i k p
    cases p with
    | cons _ _ => simp [Ar.pull] at h
    | nil =>
      simp only [Ar.pull] at h
      obtain ⟨hb, h⟩ := cond_then h
      exact ⟨vs, by rw [beq_nat.1 hb], h⟩
theorem pull_fn {g m : Nat} {r : List Ar} {n : Nat} {vs ds : List V} (h : Ar.pull (.fn g m :: r) n vs = some ds) : ∃ caps vs', vs = .fn g caps :: vs' ∧ capsAt n m caps = true ∧ Ar.pull r (n + m) vs' = some ds := by
  cases vs with
  | nil => simp [Ar.pull] at h
  | cons v vs =>
    cases v <;> try (simp [Ar.pull] at h; done)
    rename_i g' caps
    simp only [Ar.pull] at h
    obtain ⟨hb, h2⟩ := cond_then h
    simp only [Bool.and_eq_true] at hb
    have e := beq_nat.1 hb.1
    exact ⟨caps, vs, by rw [e], hb.2, h2⟩
theorem pull_length : ∀ (as : List Ar) (n : Nat) (args ds : List V), Ar.pull as n args = some ds → ds.length = (arTys as).length ∧ args.length = as.length
  | [], _, [], ds, h => by simp [Ar.pull] at h; subst h; exact ⟨rfl, rfl⟩
  | [], _, _ :: _, ds, h => by simp [Ar.pull] at h
  | .dat τ :: r, n, [], ds, h => by simp [Ar.pull] at h
  | .dat τ :: r, n, v :: vs, ds, h => by
    simp only [Ar.pull, Option.map_eq_some_iff] at h
    obtain ⟨us, h, rfl⟩ := h
    have := pull_length r n vs us h
    simp [arTys, this]
  | .ref :: r, n, vs, ds, h => by
    obtain ⟨vs', rfl, h2⟩ := pull_ref h
    have := pull_length r _ _ ds h2
    simp [arTys, this]
  | .fn g m :: r, n, vs, ds, h => by
    obtain ⟨caps, vs', rfl, _, h2⟩ := pull_fn h
    have := pull_length r _ _ ds h2
    simp [arTys, this]
theorem capsAt_eq {n m : Nat} {caps : List (Nat × List Step)} (h : capsAt n m caps = true) : caps = (List.range m).map fun i => (1000000 + n + i, []) := by
  simp only [capsAt, Bool.and_eq_true] at h
  obtain ⟨h1, h2⟩ := h
  have hl := beq_nat.1 h1
  apply List.ext_getElem
  · simp [hl]
  · intro i hi hi'
    rw [List.all_eq_true] at h2
    have hm : i < m := by omega
    have := h2 (caps[i], i) (by
      rw [List.mem_iff_getElem]
      exact ⟨i, by simp [hl]; exact hm, by simp⟩)
    simp only [Bool.and_eq_true, List.isEmpty_iff] at this
    simp only [List.getElem_map, List.getElem_range]
    exact Prod.ext (beq_nat.1 this.1) this.2
theorem TRep.forget {τ : Ty} {v : V} {y : τ.D} {x : Value} {ts : List Nat} (hv : V.as τ v = some y) (h : TRep G w v x ts) : TRep G w (.dat τ y) x [] := (h.as_ hv).trep
theorem lay_rep : ∀ (as : List Ar) (n : Nat) (args ds us : List V) (argv : List Value) (ts : List Nat), Ar.pull as n args = some ds → AsL (arTys as) ds us → ArgsRep G w args argv ts → ArgsRep G w (Ar.lay as n us) argv []
  | [], _, [], ds, us, argv, ts, h, hA, ⟨h1, h2⟩ => ⟨h1, rfl⟩
  | [], _, _ :: _, ds, us, argv, ts, h, _, _ => by simp [Ar.pull] at h
  | .dat τ :: r, n, [], ds, us, argv, ts, h, _, _ => by simp [Ar.pull] at h
  | .dat τ :: r, n, v :: vs, ds, us, argv, ts, h, hA, ⟨x, xs, t1, t2, e1, e2, h1, h2⟩ => by
    simp only [Ar.pull, Option.map_eq_some_iff] at h
    obtain ⟨ds', h, rfl⟩ := h
    obtain ⟨v', vs', y, us', g1, g2, g3, g4⟩ := hA
    simp only [List.cons.injEq] at g1
    obtain ⟨rfl, rfl⟩ := g1
    subst g2
    exact ⟨x, xs, [], [], e1, rfl, h1.forget g3, lay_rep r n vs ds' us' xs t2 h g4 h2⟩
  | .ref :: r, n, vs, ds, us, argv, ts, h, hA, hh => by
    obtain ⟨vs', rfl, hh2⟩ := pull_ref h
    obtain ⟨x, xs, t1, t2, e1, e2, h1, h2⟩ := hh
    obtain ⟨cs, ⟨k1, k2, k3⟩, k4⟩ := h1
    exact ⟨x, xs, [], [], e1, rfl, ⟨cs, ⟨k1, k2, rfl⟩, k4⟩, lay_rep _ _ _ ds us xs t2 hh2 hA h2⟩
  | .fn g m :: r, n, vs, ds, us, argv, ts, h, hA, hh => by
    obtain ⟨caps, vs', rfl, hc, hh2⟩ := pull_fn h
    obtain ⟨x, xs, t1, t2, e1, e2, h1, h2⟩ := hh
    have e := capsAt_eq hc
    subst e
    obtain ⟨cs, ⟨vs, k1, k2, k3⟩, k4⟩ := h1
    exact ⟨x, xs, [], [], e1, rfl, ⟨cs, ⟨vs, k1, k2, rfl⟩, k4⟩, lay_rep _ _ _ ds us xs t2 hh2 hA h2⟩
theorem args_env {tmps : Array Value} : ∀ (vs : List V) (argv : List Value) (k : Nat), ArgsRep G w vs argv [] → (∀ i v, argv[i]? = some v → tmps.getD (k + i) undef = v) → EnvRep G w tmps (number k vs) []
  | [], _, _, _, _ => rfl
  | v :: vs, argv, k, ⟨x, xs, t1, t2, e1, e2, h1, h2⟩, ht => by
    subst e1
    have : t1 = [] ∧ t2 = [] := by simpa using e2.symm
    obtain ⟨rfl, rfl⟩ := this
    have h0 := ht 0 x rfl
    refine (EnvRep.cons (notLent_of_TRep h1)).2 ⟨[], [], rfl, by rw [← h0] at h1; simpa using h1, args_env vs xs (k + 1) h2 fun i v hv => ?_⟩
    have := ht (i + 1) v (by simpa using hv)
    rwa [show k + (i + 1) = k + 1 + i by omega] at this
theorem objs_as : ∀ (ts : List Ty) (vs us : List V) (k : Nat) (tk : List Nat), AsL ts vs us → MemRep G w (number k vs) tk → MemRep G w (number k us) []
  | [], _, _, _, _, ⟨h1, h2⟩, _ => by subst h2; rfl
  | τ :: r, _, _, k, tk, ⟨v, vs, y, us, e1, e2, h3, h4⟩, hM => by
    subst e1; subst e2
    obtain ⟨t1, t2, cs, e, g1, g2, g3, g4⟩ := hM
    have hc := (as_cells τ v y h3).1
    exact ⟨[], [], cs, rfl, ⟨as_rep τ v y cs t1 h3 g1, rfl⟩, g2, by show OwnsAt G w k τ.cells; rw [← hc]; exact g3, objs_as r vs us (k + 1) t2 h4 g4⟩

/-! ### Results -/
def Rs.noNew : Rs → Bool
  | .new => false
  | .raw _ => false
  | .t2 a b => a.noNew && b.noNew
  | _ => true
theorem enc_rep (n : Nat) : ∀ (ρ : Rs) (v : V) (x : ρ.D) (cs : List Value) (ts : List Nat), ρ.noNew = true → Rs.dec n ρ v = some x → VRep G w v cs ts →
    (ρ.enc n x).agg = v.agg ∧ ∃ ts', (∀ g, cnt g ts' ≤ cnt g ts) ∧ VRep G w (ρ.enc n x) cs ts'
  | .dat τ, v, x, cs, ts, _, h, hv => ⟨(as_cells τ v x h).2.symm, [], fun g => by simp, as_rep τ v x cs ts h hv, rfl⟩
  | .own e, v, x, cs, ts, _, h, hv => by
    cases v <;> simp only [Rs.dec, reduceCtorEq] at h
    split at h
    · rename_i e2; subst e2
      injection h with h; subst h
      exact ⟨rfl, ts, fun _ => Nat.le_refl _, hv⟩
    · cases h
  | .t2 .new b, v, x, cs, ts, hn, _, _ => by simp [Rs.noNew] at hn
  | .t2 (.dat τ) b, v, x, cs, ts, hn, h, hv => by
    cases v <;> simp only [Rs.dec, reduceCtorEq] at h
    rename_i va vb
    simp only [Option.bind_eq_some_iff] at h
    obtain ⟨x1, h1, y, h2, h3⟩ := h
    injection h3 with h3; subst h3
    obtain ⟨xa, xb, ca, cb, t1, t2, e1, e2, g1, g2, g3, g4⟩ := hv
    simp only [Rs.noNew, Bool.true_and] at hn
    obtain ⟨k1, t2', k2, k3⟩ := enc_rep n b vb y cb t2 hn h2 g3
    refine ⟨rfl, [] ++ t2', fun g => by have := k2 g; subst e2; simp; omega, xa, xb, ca, cb, [], t2', e1, rfl, ⟨as_rep τ va x1 ca t1 h1 g1, rfl⟩, ?_, k3, ?_⟩
    · rw [show (V.dat τ x1).agg = va.agg from (as_cells τ va x1 h1).2.symm]; exact g2
    · rw [k1]; exact g4
  | .t2 (.own e) b, v, x, cs, ts, hn, h, hv => by simp [Rs.dec] at h
  | .t2 (.raw e) b, v, x, cs, ts, hn, h, hv => by simp [Rs.dec] at h
  | .raw e, v, x, cs, ts, hn, _, _ => by simp [Rs.noNew] at hn
  | .t2 (.t2 p q) b, v, x, cs, ts, hn, h, hv => by simp [Rs.dec] at h
  | .t2 .unit b, v, x, cs, ts, hn, h, hv => by simp [Rs.dec] at h
  | .new, v, x, cs, ts, hn, _, _ => by simp [Rs.noNew] at hn
  | .unit, v, x, cs, ts, _, h, hv => by
    cases v <;> simp only [Rs.dec, reduceCtorEq] at h
    exact ⟨rfl, ts, fun _ => Nat.le_refl _, hv⟩
def Rs.okR : Rs → Bool
  | .raw _ => true
  | ρ => ρ.noNew
theorem leads_spec {m : List (Nat × V)} {n : Nat} {v : V} {os : List V} {p : V × List V} {ρ : Rs} (hn : ρ.okR = true) (h : leads m n v os = some p) (hd : (Rs.dec n ρ p.1).isSome = true) : p = (v, os) ∧ v.refs = [] := by
  have hr : ∀ k, (Rs.dec n ρ (.ref k [])).isSome = false := by
    intro k
    cases ρ with
    | t2 a b => cases a <;> simp [Rs.okR, Rs.noNew] at hn <;> simp [Rs.dec]
    | new => simp [Rs.okR, Rs.noNew] at hn
    | _ => simp [Rs.dec, V.as]
  have hr2 : ∀ k b, (Rs.dec n ρ (.tup2 (.ref k []) b)).isSome = false := by
    intro k b
    cases ρ with
    | t2 a b => cases a <;> simp [Rs.okR, Rs.noNew] at hn <;> simp [Rs.dec, V.as]
    | new => simp [Rs.okR, Rs.noNew] at hn
    | _ => simp [Rs.dec, V.as]
  have no : ∀ {β : Type} {b : Bool} {x : Option β} {r : β}, (bif b then none else x) = some r → x = some r := by
    intro β b x r h
    cases b
    · exact h
    · cases h
  unfold leads at h
  split at h
  · have h := no h
    simp only [Option.bind_eq_some_iff] at h
    obtain ⟨u, _, h⟩ := h
    obtain ⟨_, h⟩ := cond_then h
    injection h with h; subst h
    rw [hr] at hd; cases hd
  · have h := no h
    simp only [Option.bind_eq_some_iff] at h
    obtain ⟨u, _, h⟩ := h
    obtain ⟨_, h⟩ := cond_then h
    injection h with h; subst h
    rw [hr2] at hd; cases hd
  · obtain ⟨h1, h2⟩ := cond_then h
    injection h2 with h2
    exact ⟨h2.symm, by simpa using h1⟩
theorem objs_rep : ∀ (n k : Nat) (m : List (Nat × V)) (ts : List Nat) (os : List V), MemRep G w m ts → objsOf m k n = some os → os.length = n ∧ ∃ t2, (∀ g, cnt g t2 ≤ cnt g ts) ∧ MemRep G w (number k os) t2
  | 0, k, m, ts, os, _, h => by simp only [objsOf, Option.some.injEq] at h; subst h; exact ⟨rfl, [], fun g => by simp, rfl⟩
  | n + 1, k, m, ts, os, hM, h => by
    simp only [objsOf, Option.bind_eq_some_iff, Option.some.injEq] at h
    obtain ⟨v, hv, vs, hvs, rfl⟩ := h
    obtain ⟨t1, t2, cs, e1, e2, e3, e4, e5⟩ := MemRep.find k m ts v hM hv
    have oth : ∀ (n q : Nat), k < q → objsOf (Pal.rm m k) q n = objsOf m q n := by
      intro n
      induction n with
      | zero => intro q _; rfl
      | succ n ih => intro q hq; simp only [objsOf, lk_rm_other (show k ≠ q by omega), ih (q + 1) (by omega)]
    obtain ⟨f1, t3, f2, f3⟩ := objs_rep n (k + 1) (Pal.rm m k) t2 vs e5 (by rw [oth n (k + 1) (by omega)]; exact hvs)
    exact ⟨by simp [f1], t1 ++ t3, fun g => by have := e1 g; have := f2 g; simp; omega, t1, t3, cs, rfl, e2, e3, e4, f3⟩
def okRes : List ResultVar → Bool
  | [] => true
  | [.tmp _] => true
  | [.cell _ _] => true
  | [.tmp a, .tmp b] => !(Nat.beq a b)
  | _ => false
theorem plain_one {v : V} {cs : List Value} {x : Value} {ts : List Nat} (h : VRep G w v cs ts) (ht : isTup v = false) (hx : if v.agg then x = .agg cs.toArray else cs = [x]) : ofCells v.agg cs x := by
  unfold ofCells
  cases hag : v.agg with
  | true => simp [hag] at hx ⊢; exact hx
  | false =>
    simp [hag] at hx ⊢
    exact ⟨hx, h.plain v cs ts ht x (by simp [hx])⟩
def noLentV : V → Prop
  | .tup2 a b => notLent a ∧ notLent b
  | v => notLent v
theorem dec_nl1 {n : Nat} {ρ : Rs} {v : V} (h : (Rs.dec n ρ v).isSome = true) : notLent v := by
  cases v <;> try trivial
  cases ρ with
  | t2 a b => cases a <;> simp [Rs.dec] at h
  | _ => simp [Rs.dec, V.as] at h
theorem as_nl {τ : Ty} {v : V} {x : τ.D} (h : V.as τ v = some x) : notLent v := by
  cases v <;> try trivial
  simp [V.as] at h
theorem dec_nl {n : Nat} {ρ : Rs} {v : V} (hn : ρ.okR = true) (h : (Rs.dec n ρ v).isSome = true) : noLentV v := by
  have h1 := dec_nl1 h
  cases v <;> try exact h1
  rename_i a b
  cases ρ with
  | t2 p q =>
    cases p <;> simp [Rs.okR, Rs.noNew] at hn <;> simp [Rs.dec] at h
    rename_i τ
    rw [Option.isSome_iff_exists] at h
    obtain ⟨z, h⟩ := h
    simp only [Option.bind_eq_some_iff] at h
    obtain ⟨x, hx, y, hy, _⟩ := h
    exact ⟨as_nl hx, dec_nl1 (n := n) (ρ := q) (by rw [hy]; rfl)⟩
  | new => simp [Rs.okR, Rs.noNew] at hn
  | _ => simp [Rs.dec, V.as] at h
theorem results_rep {fn : Func} (hT : TT P c) {tmps : Array Value} {v : V} {tE : List Nat} (hok : okRes fn.results.toList = true) (hE : EnvRep G w tmps s.env tE) {tM : List Nat} (hM : MemRep G w s.mem tM) (h : resAll c s fn.results.toList = some v) (hnl : noLentV v) :
    ∃ y ts, (results fn tmps).run P w = .ok y w ∧ TRep G w v y ts ∧ ∀ g, cnt g ts ≤ cnt g tE := by
  obtain ⟨l, hl⟩ : ∃ l, fn.results = l.toArray := ⟨fn.results.toList, by simp⟩
  rw [hl] at hok h
  simp only [List.toList_toArray] at hok h
  unfold okRes at hok
  split at hok
  · simp only [resAll, Option.some.injEq] at h; subst h
    exact ⟨.tuple #[], [], by simp [results, hl], ⟨_, ⟨rfl, rfl⟩, rfl⟩, fun g => by simp⟩
  · rename_i t
    simp only [resAll, resV] at h
    have hnl : notLent v := by cases v <;> first | trivial | exact hnl
    obtain ⟨t1, t2, e1, e2, _⟩ := EnvRep.find t s.env tE v hE h hnl
    exact ⟨tmps.getD t undef, t1, by simp [results, hl], e2, fun g => by have := e1 g; omega⟩
  · rename_i x ty
    simp only [resAll, resV, Option.bind_eq_some_iff] at h
    obtain ⟨ly, hly, av, hav, h⟩ := h
    cases av with
    | ref k p =>
      simp only [Option.bind_eq_some_iff] at h
      obtain ⟨u, hu, z, hz, h⟩ := h
      obtain ⟨hb, h⟩ := cond_then h
      injection h with h; subst h
      simp only [Bool.and_eq_true] at hb
      obtain ⟨t1, t2, _, e2, _⟩ := EnvRep.find x s.env tE _ hE hav trivial
      obtain ⟨hp1, hp2⟩ := e2.ref_
      obtain ⟨t1, t2, cs, _, g1, g2, _, _⟩ := MemRep.find k s.mem tM u hM hu
      obtain ⟨c1, cu, c2, tu, e1, e2, _, e4⟩ := get_rep p u z cs t1 g1 hz hp2
      have hcu : CellsAt w (G.ρ k).1 ((G.ρ k).2 + offs p) cu := by
        intro j y hj
        have := g2 (offs p + j) y (by rw [e1, List.getElem?_append_right (by omega), List.getElem?_append_left (by have := (List.getElem?_eq_some_iff.1 hj).1; omega)]; rw [← hj]; congr 1; omega)
        rwa [← Nat.add_assoc] at this
      obtain ⟨y, hy, hyu⟩ := load_run (P := P) hT hly e4 hcu (beq_nat.1 hb.1) (by simpa using hb.2)
      refine ⟨y, [], ?_, TRep.copy ⟨cu, e4, hyu⟩, fun g => by simp⟩
      have hy' : (asAddr (tmps.getD x undef) >>= loadVar ty : Sem Value).run P w = .ok y w := by rw [hp1]; exact hy
      have hr : (results fn tmps).run P w = ((do loadVar ty (← asAddr (tmps.getD x undef)) : Sem Value).run P w) := by
        simp [results, hl]
      rw [hr]; exact hy'
    | _ => cases h
  · rename_i x y
    simp only [Bool.not_eq_true', Bool.eq_false_iff] at hok
    have hne : x ≠ y := fun e => hok (beq_nat.2 e)
    simp only [resAll, resV, Option.bind_eq_some_iff] at h
    obtain ⟨va, ha, vb, hb, h⟩ := h
    have h : (isTup va || isTup vb) = false ∧ V.tup2 va vb = v := by
      cases hc : (isTup va || isTup vb) with
      | false => rw [hc] at h; injection h with h; exact ⟨rfl, h⟩
      | true => rw [hc] at h; cases h
    obtain ⟨hc, rfl⟩ := h
    simp only [Bool.or_eq_false_iff] at hc
    obtain ⟨t1, t2, e1, ⟨ca, e2, e2'⟩, e3⟩ := EnvRep.find x s.env tE va hE ha hnl.1
    obtain ⟨t3, t4, f1, ⟨cb, f2, f2'⟩, _⟩ := EnvRep.find y (Pal.rm s.env x) t2 vb e3 (by rw [lk_rm_other hne]; exact hb) hnl.2
    refine ⟨.tuple #[tmps.getD x undef, tmps.getD y undef], t1 ++ t3, by simp [results, hl], ⟨_, ⟨_, _, ca, cb, t1, t3, rfl, rfl, e2, plain_one e2 hc.1 e2', f2, plain_one f2 hc.2 f2'⟩, rfl⟩, fun g => by have := e1 g; have := f1 g; simp; omega⟩
  · cases hok

/-! ### The whole -/
theorem dec_len : ∀ (ts : List Ty) (vs : List V) (x : Dl ts), Dl.dec ts vs = some x → vs.length = ts.length := fun ts vs x h => (dec_asL ts vs x h).lengths.1
theorem entry_nat {σ : Sg} {F : σ.In → Option σ.Out} (α : Type) (args objs : List V) (K : V → List V → Option α) : (σ.entry F).run α args objs K = ((σ.entry F).val args objs).bind fun p => K p.1 p.2 := by
  unfold Entry.val
  show ((Ar.pull σ.args 0 args).bind fun ds => _) = (Option.bind ((Ar.pull σ.args 0 args).bind fun ds => _) _)
  refine bind_nat fun ds => bind_nat fun x => ?_
  cases F x <;> rfl
theorem entry_val {σ : Sg} {F : σ.In → Option σ.Out} {args objs os : List V} {v : V} (h : (σ.entry F).val args objs = some (v, os)) :
    ∃ ds x r, Ar.pull σ.args 0 args = some ds ∧ Dl.dec (arTys σ.args ++ σ.objs) (ds ++ objs) = some x ∧ F x = some r ∧ v = encOutV σ.res σ.objs.length σ.outs r ∧ os = encOutO σ.res σ.outs r := by
  unfold Entry.val at h
  change ((Ar.pull σ.args 0 args).bind fun ds => (Dl.dec (arTys σ.args ++ σ.objs) (ds ++ objs)).bind fun x => bnd (F x) fun r => some (encOutV σ.res σ.objs.length σ.outs r, encOutO σ.res σ.outs r)) = _ at h
  rw [Option.bind_eq_some_iff] at h
  obtain ⟨ds, h1, h⟩ := h
  rw [Option.bind_eq_some_iff] at h
  obtain ⟨x, h2, h⟩ := h
  cases hF : F x with
  | none => rw [hF] at h; cases h
  | some r =>
    rw [hF] at h
    simp only [bnd, Option.some.injEq, Prod.mk.injEq] at h
    exact ⟨ds, x, r, h1, h2, hF, h.1.symm, h.2.symm⟩
theorem decOut_rep {ρ : Rs} {n : Nat} : ∀ {ts : List Ty} {v : V} {os : List V} {r : outD ρ ts}, decOut ρ n ts v os = some r → ∃ x, Rs.dec n ρ v = some x ∧ encOutV ρ n ts r = ρ.enc n x ∧ AsL ts os (encOutO ρ ts r)
  | [], v, [], r, h => ⟨r, h, rfl, rfl, rfl⟩
  | [], v, _ :: _, r, h => by simp [decOut] at h
  | τ :: q, v, os, r, h => by
    simp only [decOut, Option.bind_eq_some_iff] at h
    obtain ⟨x, hx, y, hy, h⟩ := h
    injection h with h; subst h
    exact ⟨x, hx, rfl, dec_asL _ _ _ hy⟩
/-- A result, as it is handed over. -/
theorem enc_any {n : Nat} {ρ : Rs} {v : V} {x : ρ.D} {y : Value} {ts : List Nat} (hok : ρ.okR = true) (hz : Rs.dec n ρ v = some x) (hW : Wf G w) (hnew : ∀ g, 0 < cnt g ts → w0.heap.size ≤ g) (hW0 : Wf G0 w0) (hE : Ev X G0 w0 G w) (hT : TRep G w v y ts) :
    ∃ G' ts', Ev X G0 w0 G' w ∧ Wf G' w ∧ G'.ρ = G.ρ ∧ (∀ g, cnt g ts' ≤ cnt g ts) ∧ TRep G' w (ρ.enc n x) y ts' ∧ (ρ.noNew = true → G' = G) := by
  by_cases hn : ρ.noNew = true
  · obtain ⟨cs, m2, m3⟩ := hT
    obtain ⟨n1, ts', n2, n3⟩ := enc_rep n ρ v x cs ts hn hz m2
    exact ⟨G, ts', hE, hW, rfl, n2, ⟨cs, n3, by rw [n1]; exact m3⟩, fun _ => rfl⟩
  · cases ρ with
    | raw e =>
      cases v <;> simp only [Rs.dec, reduceCtorEq] at hz
      · split at hz
        · rename_i e1; subst e1
          obtain ⟨hf, hz⟩ := cond_then hz
          injection hz with hz; subst hz
          obtain ⟨G', g1, g2, g3, g4⟩ := thaw hf hW hnew hW0 hE hT
          exact ⟨G', ts, g1, g2, g3, fun _ => Nat.le_refl _, g4, fun h => absurd h hn⟩
        · cases hz
      · split at hz
        · rename_i e1; subst e1
          injection hz with hz; subst hz
          exact ⟨G, ts, hE, hW, rfl, fun _ => Nat.le_refl _, hT, fun h => absurd h hn⟩
        · cases hz
    | _ => exact absurd hok hn
/-- A function whose body does what is said. -/
theorem fn_ok' {f : FuncId} {fn : Func} {code : Code} {σ : Sg} {F : σ.In → Option σ.Out} (hT : TT P c)
    (hf : P.funcs[f]? = some fn) (hb : fn.body = some code) (hnm : (fn.name == "runtime.NumGoroutine") = false) (hargs : Nat.ble σ.args.length fn.ntmps = true) (hres : okRes fn.results.toList = true) (hnew : (σ.res.okR && (σ.res.noNew || σ.outs.isEmpty)) = true)
    (hwp : ∀ (x : σ.In) (r : σ.Out), F x = some r → ∀ (X : Nat → Nat → Prop) (G : Gh) (w : World) (tmps : Array Value) (Q : Exit → Act → World → Prop),
      RS X G w G (st0 (Ar.lay σ.args 0 ((Dl.enc (arTys σ.args ++ σ.objs) x).take (arTys σ.args).length)) ((Dl.enc (arTys σ.args ++ σ.objs) x).drop (arTys σ.args).length)) tmps w → tmps.size = fn.ntmps →
      Left X G w fn.ntmps [] (σ.K c fn.results.toList) r Q → code.wp P Q { tmps := tmps, defers := [] } w) : CallOK P f (σ.entry F) := by
  refine ⟨fun α args objs K => entry_nat α args objs K, fun args objs vr os hval X G w argv tA tM hW hX hA hM hcnt htok => ?_⟩
  obtain ⟨ds, x, r, h1, h2, h3, rfl, rfl⟩ := entry_val hval
  obtain ⟨hl1, hl2⟩ := pull_length _ _ _ _ h1
  obtain ⟨hs1, hs2⟩ := (dec_asL _ _ _ h2).split hl1
  have hobj : objs.length = σ.objs.length := hs2.lengths.1
  have hargv : argv.length = args.length := by
    have : ∀ (args : List V) (argv : List Value) (ts : List Nat), ArgsRep G w args argv ts → argv.length = args.length := by
      intro args
      induction args with
      | nil => intro argv ts h; simp [h.1]
      | cons v vs ih => intro argv ts ⟨x, xs, t1, t2, e1, _, _, h2⟩; simp [e1, ih xs t2 h2]
    exact this args argv tA hA
  refine .inl ⟨?_, ?_⟩
  · unfold callFunc
    have hnm' : ¬ fn.name = "runtime.NumGoroutine" := by simpa using hnm
    simp [hf, hnm', hb]
  · have hlen : args.length ≤ fn.ntmps := by have := Nat.le_of_ble_eq_true hargs; omega
    refine calls_of_wp hf hb ?_
    let X0 : Nat → Nat → Prop := fun b o => G.O b o ≠ none
    have hX0 : ∀ b o, X0 b o → X b o := fun b o h => by
      cases hk : G.O b o with
      | none => exact absurd hk h
      | some k => exact (hX b o k hk).1
    have hB : Base X0 G w G w := ⟨Ev.refl X0 G w, hW, fun _ => rfl, fun b o k _ hk => by show G.O b o ≠ none; rw [hk]; simp⟩
    have hE : EnvRep G w (argv.toArray ++ Array.replicate (fn.ntmps - argv.toArray.size) undef) (number 0 (Ar.lay σ.args 0 ((Dl.enc (arTys σ.args ++ σ.objs) x).take (arTys σ.args).length))) [] := by
      refine args_env _ argv 0 (lay_rep _ _ _ _ _ _ _ h1 hs1 hA) fun i v hv => ?_
      have hi := (List.getElem?_eq_some_iff.1 hv).1
      rw [Nat.zero_add, Array.getD_eq_getD_getElem?, Array.getElem?_append_left (by simpa using hi)]
      simp [hv]
    have hM' := objs_as (G := G) (w := w) _ _ _ 1000000 tM hs2 hM
    have hR : RS X0 G w G (st0 (Ar.lay σ.args 0 ((Dl.enc (arTys σ.args ++ σ.objs) x).take (arTys σ.args).length)) ((Dl.enc (arTys σ.args ++ σ.objs) x).drop (arTys σ.args).length)) (argv.toArray ++ Array.replicate (fn.ntmps - argv.toArray.size) undef) w :=
      ⟨hB, [], [], hE, hM', fun g => by simp, fun g hg => by simp at hg⟩
    refine hwp x r h3 X0 G w _ _ hR (by simp; omega) ?_
    intro e a' w' G' s' g1 g2 g3 g4
    have hmain : ∃ y, (results fn a'.tmps).run P w' = .ok y w' ∧ ∃ G', Post X G w objs.length (encOutV σ.res σ.objs.length σ.outs r) (encOutO σ.res σ.outs r) y argv.head? G' w' := by
      have g4' : ((resAll c s' fn.results.toList).bind fun v => (objsOf s'.mem 1000000 σ.objs.length).bind fun os => (leads s'.mem σ.objs.length v os).bind fun p => decOut σ.res σ.objs.length σ.outs p.1 p.2) = some r := by
        cases e with
        | exit i => cases g4
        | normal => exact g4
        | ret => exact g4
      simp only [Option.bind_eq_some_iff] at g4'
      obtain ⟨v, hv, os, hos, p, hp, hd⟩ := g4'
      obtain ⟨z, hz, hz1, hz2⟩ := decOut_rep hd
      rw [Bool.and_eq_true] at hnew
      obtain ⟨rfl, hvr⟩ := leads_spec hnew.1 hp (by rw [hz]; rfl)
      obtain ⟨hB', tE, tMm, k1, k2, k3, k4⟩ := g1
      obtain ⟨y, ts, m1, m2, m4⟩ := results_rep (P := P) (s := s') hT hres k1 k2 hv (dec_nl hnew.1 (by rw [hz]; rfl))
      obtain ⟨q1, t2, q2, q3⟩ := objs_rep _ _ _ _ _ k2 hos
      -- what is the call's own is new
      have fresh : ∀ g, 0 < cnt g tE → w.heap.size ≤ g := fun g hg => by
        rcases k4 g (by omega) with h | h
        · exact h
        · have h5 := (EnvRep.owned _ _ k1 g hg).2 0
          by_cases hlt : g < w.heap.size
          · rw [hB'.ev.own g 0 hlt] at h5; exact absurd h5 (h 0)
          · omega
      obtain ⟨G2, ts', p1, p2, p3, n2, n3, p4⟩ := enc_any (X := X0) (w0 := w) (G0 := G) hnew.1 hz hB'.wf (fun g hg => fresh g (by have := m4 g; omega)) hW hB'.ev m2
      have hl := hz2.lengths
      have hlo : (encOutO σ.res σ.outs r).length = σ.objs.length := by rw [hl.2, ← hl.1, q1]
      refine ⟨y, m1, G2, p1.mono hX0, p2, fun j _ => by rw [p3]; exact hB'.par j, ts', [], [], by rw [hz1]; exact n3, ?_, ?_, fun g => ?_, fun g hg => .inl (fresh g ?_)⟩
      · rw [hobj, List.take_of_length_le (by omega)]
        have h6 := hnew.2
        rw [Bool.or_eq_true] at h6
        rcases h6 with h | h
        · rw [p4 h]; exact objs_as _ _ _ _ _ hz2 q3
        · have h0 : σ.outs = [] := by simpa using h
          have : encOutO σ.res σ.outs r = [] := List.eq_nil_of_length_eq_zero (by rw [hl.2, h0]; rfl)
          rw [this]; rfl
      · rw [hobj, List.drop_eq_nil_of_le (by omega)]; rfl
      · have := n2 g; have := m4 g; have := k3 g; simp; omega
      · have := n2 g; have := m4 g; simp at hg; omega
    obtain ⟨y, h5, h6⟩ := hmain
    cases e with
    | exit i => cases g4
    | normal => exact ⟨g3, y, h5, h6⟩
    | ret => exact ⟨g3, y, h5, h6⟩
theorem fn_ok {f : FuncId} {fn : Func} {code : Code} {σ : Sg} {F : σ.In → Option σ.Out} (hT : TT P c) (hC : ∀ f e, lkN c.fns f = some e → CallOK P f e) (hm : P.follows .mixedOrders = true)
    (hf : P.funcs[f]? = some fn) (hb : fn.body = some code) (hnm : (fn.name == "runtime.NumGoroutine") = false) (hargs : Nat.ble σ.args.length fn.ntmps = true) (hres : okRes fn.results.toList = true) (hnew : (σ.res.okR && (σ.res.noNew || σ.outs.isEmpty)) = true)
    (hcode : okCode c fn.ntmps code = true) (hF : ∀ x, F x = σ.fn c code fn.results.toList x) : CallOK P f (σ.entry F) :=
  fn_ok' hT hf hb hnm hargs hres hnew fun x _ h3 _ G w _ _ hR hsz hL => run_sound (N := fn.ntmps) (ds := []) hT hC hm code hcode (σ.K c fn.results.toList) _ _ _ w G hL ((hF _).symm.trans h3) hR hsz rfl
theorem alt_ok {f : FuncId} {σ : Sg} {a b : Entry} (ha : CallOK P f a) (hb : CallOK P f b) : CallOK P f (Entry.alt σ a b) := by
  have key : ∀ (α : Type) args objs (K : V → List V → Option α), (Entry.alt σ a b).run α args objs K = bif (Ar.pull σ.args 0 args).isSome then a.run α args objs K else b.run α args objs K := fun _ _ _ _ => rfl
  refine ⟨fun α args objs K => ?_, fun args objs vr os hval => ?_⟩
  · unfold Entry.val
    rw [key, key]
    cases (Ar.pull σ.args 0 args).isSome with
    | true => exact ha.nat α args objs K
    | false => exact hb.nat α args objs K
  · unfold Entry.val at hval
    rw [key] at hval
    cases hh : (Ar.pull σ.args 0 args).isSome with
    | true => rw [hh] at hval; exact ha.ok args objs vr os hval
    | false => rw [hh] at hval; exact hb.ok args objs vr os hval
end Go.Proofs.Ytennedlpmacicaa.Pal
