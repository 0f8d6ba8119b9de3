/- Regions in their order; what is kept from region to region. -/
import Derived.Test.YtennedlpmacicaaStep
namespace Go.Proofs.Ytennedlpmacicaa.Pal
open Go
variable {P : Program} {X Y : Nat → Nat → Prop} {G0 G G' : Gh} {w0 w w' : World} {s : St} {a : Act} {c : Cx} {Q : Exit → Act → World → Prop}

theorem getD_bool {tmps : Array Value} {g : Nat} {b : Bool} (h : tmps.getD g undef = .bool b) : tmps[g]? = some (.bool b) := by
  rw [Array.getD_eq_getD_getElem?] at h
  cases hg : tmps[g]? with
  | none => rw [hg] at h; cases h
  | some v => rw [hg] at h; simp at h; rw [h]
theorem RS.find {t : Nat} {v : V} (hR : RS X G0 w0 G s a.tmps w) (h : lk s.env t = some v) (hn : notLent v) : ∃ ts, TRep G w v (a.tmps.getD t undef) ts := by
  obtain ⟨_, tE, tM, h1, _⟩ := hR
  obtain ⟨t1, t2, _, h2, _⟩ := EnvRep.find t s.env tE v h1 h hn
  exact ⟨t1, h2⟩
/-- A guard's answer is known. -/
theorem RS.refine_ {g : Nat} {b : Bool} (hR : RS X G0 w0 G s a.tmps w) (h : lk s.env g = some (.dat .bool b)) : RS X G0 w0 G (s.set g (.dat .bool b)) a.tmps w := by
  obtain ⟨ts, hT⟩ := hR.find h trivial
  obtain ⟨hB, tE, tM, h1, h2, h3, h4⟩ := hR
  obtain ⟨t2, e1, e2⟩ := EnvRep.write g (a.tmps.getD g undef) s.env tE h1
  rw [set_same] at e2
  have : TRep G w (.dat .bool b) (a.tmps.getD g undef) [] := by rw [hT.dat_bool]; exact TRep.bool b
  exact ⟨hB, [] ++ t2, tM, ⟨[], t2, rfl, this, e2⟩, h2, fun g => by have := e1 g; have := h3 g; simp; omega, fun g hg => h4 g (by have := e1 g; simp at hg; omega)⟩
theorem unit_undef : TRep G w .unit undef [] := ⟨_, ⟨rfl, rfl⟩, rfl⟩
theorem RS.skip {d : Option Nat} (hR : RS X G0 w0 G s a.tmps w) : RS X G0 w0 G (s.dst d .unit) (a.put d undef).tmps w := by
  cases d with
  | none => exact hR
  | some d =>
    obtain ⟨hB, tE, tM, h1, h2, h3, h4⟩ := hR
    obtain ⟨t2, e1, e2⟩ := EnvRep.write d undef s.env tE h1
    refine ⟨hB, [] ++ t2, tM, (EnvRep.cons (v := .unit) trivial).2 ⟨[], t2, rfl, ?_, e2⟩, h2, fun g => by have := e1 g; have := h3 g; simp; omega, fun g hg => h4 g (by have := e1 g; simp at hg; omega)⟩
    have : (a.put (some d) undef).tmps.getD d undef = undef := by
      show (a.tmps.setIfInBounds d undef).getD d undef = undef
      simp only [Array.getD_eq_getD_getElem?, Array.getElem?_setIfInBounds]
      split
      · split <;> rfl
      · rename_i h; exact absurd trivial h
    rw [this]; exact unit_undef
theorem yielded_unit {ops : Array Oper} {j g : Nat} (hR : RS X G0 w0 G s a.tmps w) (hg : (ops[j]?).bind (·.dst) = some g) (h : lk s.env g = some .unit) : yielded ops a.tmps j = none := by
  obtain ⟨ts, cs, ⟨h1, _⟩, h2⟩ := hR.find h trivial
  simp only [V.agg, Bool.false_eq_true, if_false] at h2
  rw [h1] at h2
  simp only [List.cons.injEq, and_true] at h2
  simp only [yielded, hg, Option.bind_some]
  rw [Array.getD_eq_getD_getElem?] at h2
  cases hx : a.tmps[g]? with
  | none => rfl
  | some v => rw [hx] at h2; simp only [Option.getD_some] at h2; subst h2; rfl
theorem yielded_of {ops : Array Oper} {j g : Nat} {b : Bool} (hR : RS X G0 w0 G s a.tmps w) (hg : (ops[j]?).bind (·.dst) = some g) (h : lk s.env g = some (.dat .bool b)) : yielded ops a.tmps j = some b := by
  obtain ⟨ts, hT⟩ := hR.find h trivial
  simp only [yielded, hg, Option.bind_some, getD_bool hT.dat_bool]
theorem runOps_sound {α : Type} {ops : Array Oper} {mvs lns : List Nat} {K : St → Option α} {res : α} {n : Nat} {ds : List Deferred} (hT : TT P c) (hC : ∀ f e, lkN c.fns f = some e → CallOK P f e) (hdst : ∀ o ∈ ops.toList, ∀ t, o.dst = some t → t < n)
    (hQ : ∀ a' w' G' s', RS X G0 w0 G' s' a'.tmps w' → a'.tmps.size = n → a'.defers = ds → K s' = some res → Q .normal a' w') :
    ∀ (r : List Oper) (i : Nat) (s : St) (a : Act) (w : World) (G : Gh), ops.toList.drop i = r → runOps c ops mvs lns i r s K = some res → RS X G0 w0 G s a.tmps w → a.tmps.size = n → a.defers = ds → wpOps P ops Q (List.range' i r.length) a w
  | [], i, s, a, w, G, _, h, hR, hn, hds => by
    simp only [runOps] at h
    exact hQ a w G s hR hn hds h
  | o :: r, i, s, a, w, G, hr, h, hR, hn, hds => by
    have hi : ops[i]? = some o := by
      rw [← Array.getElem?_toList]
      have : (ops.toList.drop i)[0]? = some o := by rw [hr]; rfl
      simpa using this
    have hr' : ops.toList.drop (i + 1) = r := by
      rw [← List.drop_drop, hr]; rfl
    have hmem : o ∈ ops.toList := by rw [← Array.getElem?_toList] at hi; exact List.mem_of_getElem? hi
    have hd : ∀ t, o.dst = some t → t < a.tmps.size := fun t ht => by rw [hn]; exact hdst o hmem t ht
    have go : ∀ (s1 : St) (K' : St → Option α), RS X G0 w0 G s1 a.tmps w → (∀ s2, K' s2 = some res → runOps c ops mvs lns (i + 1) r s2 K = some res) → stepO c (memN i mvs) (memN i lns) o s1 K' = some res →
        o.wp P a w (wpOps P ops Q (List.range' (i + 1) r.length)) Q := by
      intro s1 K' hR1 hK' hs
      refine Oper.wp_mono (fun a' w' hN => ?_) (stepO_sound (Q := Q) hT hC hR1 hs hd)
      obtain ⟨G', s', g1, g2, g3, g4⟩ := hN
      exact runOps_sound hT hC hdst hQ r (i + 1) s' a' w' G' hr' (hK' s' g4) g1 (g2.trans hn) (g3.trans hds)
    show wpOps P ops Q (i :: List.range' (i + 1) r.length) a w
    simp only [wpOps, hi]
    simp only [runOps] at h
    cases hgd : o.guard with
    | none =>
      simp only [hgd] at h
      rw [if_pos (by simp [Region.wanted, hgd])]
      exact .inl (go s _ hR (fun s2 h2 => h2) h)
    | some jw =>
      obtain ⟨j, want⟩ := jw
      simp only [hgd, Option.bind_eq_some_iff] at h
      obtain ⟨g, hg, gv, hgv, h⟩ := h
      have hg' : (ops[j]?).bind (·.dst) = some g := by simpa [Option.bind_eq_some_iff] using hg
      split at h
      · rename_i b
        have hy := yielded_of hR hg' hgv
        have hR1 := hR.refine_ hgv
        have hw : Region.wanted o (yielded ops a.tmps) = (b == want) := by
          simp only [Region.wanted, hgd, hy]
          cases b <;> cases want <;> rfl
        have skip : ∀ (s1 : St), RS X G0 w0 G s1 a.tmps w → runOps c ops mvs lns (i + 1) r (s1.dst o.dst .unit) K = some res → wpOps P ops Q (List.range' (i + 1) r.length) (a.put o.dst undef) w := by
          intro s1 hR1 h1
          exact runOps_sound hT hC hdst hQ r (i + 1) _ _ w G hr' h1 hR1.skip ((put_size _ _ _).trans hn) ((put_defers _ _ _).trans hds)
        rcases br_cases h with ⟨rfl, h⟩ | ⟨rfl, h⟩
        · cases want with
          | true =>
            rw [if_pos (by rw [hw]; rfl)]
            exact .inl (go _ _ hR1 (fun s2 h2 => h2) h)
          | false =>
            rw [if_neg (by rw [hw]; simp)]
            exact skip _ hR1 h
        · cases want with
          | true =>
            rw [if_neg (by rw [hw]; simp)]
            exact skip _ hR1 h
          | false =>
            rw [if_pos (by rw [hw]; rfl)]
            exact .inl (go _ _ hR1 (fun s2 h2 => h2) h)
      · have hy := yielded_unit hR hg' hgv
        rw [if_neg (by simp [Region.wanted, hgd, hy])]
        exact runOps_sound hT hC hdst hQ r (i + 1) _ _ w G hr' h hR.skip ((put_size _ _ _).trans hn) ((put_defers _ _ _).trans hds)
      · cases h
theorem EnvRep.findL {tmps : Array Value} (t : Nat) : ∀ (env : List (Nat × V)) (ts : List Nat) (u : Nat), EnvRep G w tmps env ts → lk env t = some (.lent u) → tmps.getD t undef = tmps.getD u undef
  | [], _, _, _, h => by simp [lk] at h
  | (k, v) :: r, ts, u, h, hl => by
    rw [lk_cons] at hl
    by_cases e : k = t
    · rw [if_pos e] at hl
      injection hl with hl; subst hl; subst e
      exact h.1
    · rw [if_neg e] at hl
      cases v with
      | lent x => exact EnvRep.findL t r ts u h.2 hl
      | _ =>
        obtain ⟨s1, s2, rfl, h1, h2⟩ := h
        exact EnvRep.findL t r s2 u h2 hl
theorem EnvRep.pick {tmps : Array Value} : ∀ (l : List Nat) (env : List (Nat × V)) (ts : List Nat), EnvRep G w tmps env ts → ∃ t, (∀ g, cnt g t ≤ cnt g ts) ∧ EnvRep G w tmps (Pal.pick env l) t
  | [], env, ts, h => ⟨[], fun g => by simp, rfl⟩
  | t :: l, env, ts, h => by
    have lentCase : ∀ t u, lk env t = some (.lent u) → ∃ t3, (∀ g, cnt g t3 ≤ cnt g ts) ∧ EnvRep G w tmps ((t, .lent u) :: Pal.pick (Pal.rm env t) l) t3 := by
      intro t u hl
      obtain ⟨t2, e1, e2⟩ := EnvRep.rm t env ts h
      obtain ⟨t3, e4, e5⟩ := EnvRep.pick l (Pal.rm env t) t2 e2
      exact ⟨t3, fun g => by have := e1 g; have := e4 g; omega, EnvRep.findL t env ts u h hl, e5⟩
    simp only [Pal.pick]
    cases Nat.ble 10000000 t with
    | true =>
      simp only [cond_true]
      cases hl : lk env (t - 10000000) with
      | none => exact EnvRep.pick l env ts h
      | some v =>
        by_cases hn : notLent v
        · obtain ⟨t1, t2, e1, e2, e3⟩ := EnvRep.find _ env ts v h hl hn
          obtain ⟨t3, e4, e5⟩ := EnvRep.pick l _ t2 e3
          have hc : notLent v.copy := notLent_of_TRep e2.copy
          exact ⟨[] ++ t3, fun g => by have := e1 g; have := e4 g; simp; omega, (EnvRep.cons hc).2 ⟨[], t3, rfl, e2.copy, e5⟩⟩
        · cases v with
          | lent u => exact lentCase _ u hl
          | _ => exact absurd trivial hn
    | false =>
      simp only [cond_false]
      cases hl : lk env t with
      | none => exact EnvRep.pick l env ts h
      | some v =>
        by_cases hn : notLent v
        · obtain ⟨t1, t2, e1, e2, e3⟩ := EnvRep.find t env ts v h hl hn
          obtain ⟨t3, e4, e5⟩ := EnvRep.pick l (Pal.rm env t) t2 e3
          exact ⟨t1 ++ t3, fun g => by have := e1 g; have := e4 g; simp; omega, (EnvRep.cons hn).2 ⟨t1, t3, rfl, e2, e5⟩⟩
        · cases v with
          | lent u => exact lentCase t u hl
          | _ => exact absurd trivial hn
theorem MemRep.pick : ∀ (l : List Nat) (m : List (Nat × V)) (ts : List Nat), MemRep G w m ts → ∃ t, (∀ g, cnt g t ≤ cnt g ts) ∧ MemRep G w (Pal.pick m l) t
  | [], m, ts, h => ⟨[], fun g => by simp, rfl⟩
  | t :: l, m, ts, h => by
    simp only [Pal.pick]
    cases Nat.ble 10000000 t with
    | true =>
      simp only [cond_true]
      cases hl : lk m (t - 10000000) with
      | none => exact MemRep.pick l m ts h
      | some v =>
        obtain ⟨t1, t2, cs, e1, e2, e3, e4, e5⟩ := MemRep.find _ m ts v h hl
        obtain ⟨t3, f1, f2⟩ := MemRep.pick l _ t2 e5
        have hcl : v.copy.cells = v.cells := by rw [← VRep.length _ _ _ (e2.copy v cs t1), VRep.length _ _ _ e2]
        exact ⟨[] ++ t3, fun g => by have := e1 g; have := f1 g; simp; omega, [], t3, cs, rfl, e2.copy v cs t1, e3, by rw [hcl]; exact e4, f2⟩
    | false =>
      simp only [cond_false]
      cases hl : lk m t with
      | none => exact MemRep.pick l m ts h
      | some v =>
        obtain ⟨t1, t2, cs, e1, e2, e3, e4, e5⟩ := MemRep.find t m ts v h hl
        obtain ⟨t3, f1, f2⟩ := MemRep.pick l (Pal.rm m t) t2 e5
        exact ⟨t1 ++ t3, fun g => by have := e1 g; have := f1 g; simp; omega, t1, t3, cs, rfl, e2, e3, e4, f2⟩
theorem RS.prune {tmps : Array Value} (l m : List Nat) (hR : RS X G0 w0 G s tmps w) : RS X G0 w0 G (Pal.prune l m s) tmps w := by
  obtain ⟨hB, tE, tM, h1, h2, h3, h4⟩ := hR
  obtain ⟨t1, e1, e2⟩ := EnvRep.pick l s.env tE h1
  obtain ⟨t2, f1, f2⟩ := MemRep.pick m s.mem tM h2
  exact ⟨hB, t1, t2, e2, f2, fun g => by have := h3 g; have := e1 g; have := f1 g; omega, fun g hg => h4 g (by have := e1 g; have := f1 g; omega)⟩
theorem rm_comm (t u : Nat) : ∀ m : List (Nat × V), rm (rm m t) u = rm (rm m u) t
  | [] => rfl
  | (k, v) :: r => by
    rw [rm_cons, rm_cons]
    by_cases h1 : k = t <;> by_cases h2 : k = u
    · rw [if_pos h1, if_pos h2, rm_comm t u r]
    · rw [if_pos h1, if_neg h2, rm_cons, if_pos h1, rm_comm t u r]
    · rw [if_neg h1, if_pos h2, rm_cons, if_pos h2, rm_comm t u r]
    · rw [if_neg h1, if_neg h2, rm_cons, rm_cons, if_neg h1, if_neg h2, rm_comm t u r]
theorem lentOf_spec {tmps : Array Value} : ∀ (env : List (Nat × V)) (ts : List Nat) (t x : Nat), EnvRep G w tmps env ts → lentOf env = some (t, x) → tmps.getD t undef = tmps.getD x undef
  | [], _, _, _, _, h => by simp [lentOf] at h
  | (k, v) :: r, ts, t, x, hE, h => by
    cases v with
    | lent u =>
      simp only [lentOf, Option.some.injEq, Prod.mk.injEq] at h
      obtain ⟨rfl, rfl⟩ := h
      exact hE.1
    | _ =>
      obtain ⟨s1, s2, rfl, _, h2⟩ := hE
      exact lentOf_spec r s2 t x h2 h
theorem RS.settle {tmps : Array Value} (hR : RS X G0 w0 G s tmps w) : RS X G0 w0 G { s with env := Pal.settle s.env } tmps w := by
  obtain ⟨hB, tE, tM, h1, h2, h3, h4⟩ := hR
  have done : ∀ env', (∃ t2, (∀ g, cnt g t2 ≤ cnt g tE) ∧ EnvRep G w tmps env' t2) → RS X G0 w0 G { s with env := env' } tmps w := by
    rintro env' ⟨t2, e1, e2⟩
    exact ⟨hB, t2, tM, e2, h2, fun g => by have := h3 g; have := e1 g; omega, fun g hg => h4 g (by have := e1 g; omega)⟩
  refine done _ ?_
  unfold Pal.settle
  split
  · exact ⟨tE, fun _ => Nat.le_refl _, h1⟩
  · rename_i t x hl
    have heq := lentOf_spec s.env tE t x h1 hl
    split
    · rename_i v hv
      by_cases hn : notLent v
      · obtain ⟨t1, t2, e1, e2, e3⟩ := EnvRep.find x s.env tE v h1 hv hn
        obtain ⟨t3, e4, e5⟩ := EnvRep.rm t (Pal.rm s.env x) t2 e3
        rw [rm_comm] at e5
        exact ⟨t1 ++ t3, fun g => by have := e1 g; have := e4 g; simp; omega, (EnvRep.cons hn).2 ⟨t1, t3, rfl, by rw [heq]; exact e2, e5⟩⟩
      · cases v with
        | lent u =>
          obtain ⟨t2, e1, e2⟩ := EnvRep.rm t s.env tE h1
          obtain ⟨t3, e4, e5⟩ := EnvRep.rm x _ t2 e2
          exact ⟨t3, fun g => by have := e1 g; have := e4 g; omega, heq.trans (EnvRep.findL x s.env tE u h1 hv), e5⟩
        | _ => exact absurd trivial hn
    · exact EnvRep.rm t s.env tE h1
end Go.Proofs.Ytennedlpmacicaa.Pal
