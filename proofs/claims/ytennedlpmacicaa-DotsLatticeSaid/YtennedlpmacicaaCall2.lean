/- Calls: the caller goes on. -/
import Derived.Test.YtennedlpmacicaaCall
namespace Go.Proofs.Ytennedlpmacicaa.Pal
open Go
variable {P : Program} {X Y : Nat → Nat → Prop} {G0 G G' : Gh} {w0 w w' : World} {s : St} {a : Act} {c : Cx}

theorem idx_nth : ∀ (l : List (Nat × List Step)) (n j k : Nat), distinct l = true → (l.map (·.1))[j]? = some k → idx l n k = some (n + j)
  | [], _, _, _, _, h => by simp at h
  | (q, p) :: r, n, j, k, hd, h => by
    simp only [distinct, Bool.and_eq_true, Bool.not_eq_true'] at hd
    cases j with
    | zero => simp at h; subst h; simp [idx]
    | succ j =>
      have h' : (r.map (·.1))[j]? = some k := by simpa using h
      have hne : q ≠ k := fun e => memN_mem _ _ hd.1 (e ▸ List.mem_of_getElem? h')
      simp only [idx, if_neg hne]
      rw [idx_nth r (n + 1) j k hd.2 h']
      congr 1; omega
theorem contents_paths : ∀ (l : List (Nat × List Step)) (m : List (Nat × V)) (vs : List V), contents m l = some vs → (∀ x ∈ l, x.2 = []) ∧ vs.length = l.length
  | [], _, vs, h => by simp only [contents, Option.some.injEq] at h; subst h; simp
  | (k, []) :: r, m, vs, h => by
    simp only [contents, Option.bind_eq_some_iff, Option.some.injEq] at h
    obtain ⟨v, _, us, hus, rfl⟩ := h
    obtain ⟨h1, h2⟩ := contents_paths r m us hus
    exact ⟨fun x hx => by rcases List.mem_cons.1 hx with rfl | hx
                          · rfl
                          · exact h1 x hx, by simp [h2]⟩
  | (k, _ :: _) :: r, m, vs, h => by simp [contents] at h
theorem sub_none {l : List (Nat × List Step)} {g : Nat} (h : ∀ o, G.O g o = none) (o : Nat) : (G.sub l).O g o = none := by simp [Gh.sub, h o]
theorem caps_sub : ∀ (caps : List (Nat × List Step)) (xs : List Value) (R pre post : List (Nat × List Step)) (n : Nat), R = pre ++ (caps ++ post) → pre.length = n → (∀ x ∈ R, x.2 = []) → capsRep G caps xs →
    capsRep (G.sub R) ((List.range' n caps.length).map fun i => (1000000 + i, [])) xs
  | [], xs, R, pre, post, n, _, _, _, h => h
  | (k, p) :: r, xs, R, pre, post, n, hR, hn, hp, ⟨u, us, h1, h2, h3, h4⟩ => by
    have hp0 : p = [] := hp (k, p) (by rw [hR]; simp)
    subst hp0
    refine ⟨u, us, h1, ?_, trivial, ?_⟩
    · rw [h2]
      have hk : (R.map (·.1)).getD n 0 = k := by rw [hR, ← hn]; simp [List.getD]
      simp only [Gh.addr, sub_ρ, hk]
    · have := caps_sub r us R (pre ++ [(k, [])]) post (n + 1) (by rw [hR]; simp) (by simp [hn]) hp h4
      simpa [List.range'] using this
theorem range_map (m n : Nat) : ((List.range m).map fun i => ((1000000 + n + i, []) : Nat × List Step)) = (List.range' n m).map fun i => (1000000 + i, []) := by
  rw [List.range'_eq_map_range, List.map_map]
  apply List.map_congr_left
  intro i _
  simp only [Function.comp]
  rw [Nat.add_assoc]
theorem canon_args : ∀ (args args' : List V) (l : List (Nat × List Step)) (n : Nat) (R pre post : List (Nat × List Step)) (argv : List Value) (ts : List Nat), canon n args = some (args', l) → R = pre ++ (l ++ post) → pre.length = n → (∀ x ∈ R, x.2 = []) →
    ArgsRep G w args argv ts → ArgsRep (G.sub R) w args' argv ts
  | [], args', l, n, R, pre, post, argv, ts, h, _, _, _, hA => by
    simp only [canon, Option.some.injEq, Prod.mk.injEq] at h
    obtain ⟨rfl, rfl⟩ := h
    exact hA
  | v :: r, args', l, n, R, pre, post, argv, ts, h, hR, hn, hp, ⟨x, xs, t1, t2, e1, e2, h1, h2⟩ => by
    simp only [canon, Option.bind_eq_some_iff, Option.some.injEq, Prod.mk.injEq] at h
    obtain ⟨⟨v', l1⟩, hv, ⟨vs', l2⟩, hr, rfl, rfl⟩ := h
    have ih := canon_args r vs' l2 (n + l1.length) R (pre ++ l1) post xs t2 hr (by rw [hR]; simp) (by simp [hn]) hp h2
    refine ⟨x, xs, t1, t2, e1, e2, ?_, ih⟩
    have dflt : v.refs = [] → v' = v → TRep (G.sub R) w v' x t1 := by
      intro hr e
      subst e
      exact h1.swap (show ∀ b o, (G.sub R).I b o = G.I b o from fun _ _ => rfl) hr fun g hg o => sub_none (h1.owned (cnt_pos.1 hg)).2 o
    cases v with
    | ref k p =>
      simp only [canon1, Option.some.injEq, Prod.mk.injEq] at hv
      obtain ⟨rfl, rfl⟩ := hv
      have hp0 : p = [] := hp (k, p) (by rw [hR]; simp)
      subst hp0
      obtain ⟨cs, ⟨g1, _, g3⟩, g4⟩ := h1
      refine ⟨cs, ⟨?_, trivial, g3⟩, g4⟩
      rw [g1]
      have hk : (R.map (·.1)).getD n 0 = k := by rw [hR, ← hn]; simp [List.getD]
      simp only [Gh.addr, sub_ρ, hk]
    | fn f caps =>
      simp only [canon1, Option.some.injEq, Prod.mk.injEq] at hv
      obtain ⟨rfl, rfl⟩ := hv
      obtain ⟨cs, ⟨vs, g1, g2, g3⟩, g4⟩ := h1
      refine ⟨cs, ⟨vs, g1, ?_, g3⟩, g4⟩
      rw [range_map]
      exact caps_sub _ _ R pre (l2 ++ post) n (by rw [hR]; simp) hn hp g2
    | _ =>
      simp only [canon1] at hv
      obtain ⟨h3, h4⟩ := cond_then hv
      simp only [Option.some.injEq, Prod.mk.injEq] at h4
      exact dflt (by simpa using h3) h4.1.symm
theorem number_rep : ∀ (l R pre : List (Nat × List Step)) (vs : List V) (ts : List Nat), R = pre ++ l → distinct R = true → (∀ v ∈ vs, v.refs = []) → (∀ g ∈ ts, ∀ o, G.O g o = none) → ObjsRep G w l vs ts →
    MemRep (G.sub R) w (number (1000000 + pre.length) vs) ts
  | [], R, pre, vs, ts, _, _, _, _, ⟨h1, h2⟩ => by subst h1; exact h2
  | (k, p) :: r, R, pre, vs, ts, hR, hd, hr, hO, ⟨v, vs', t1, t2, cs, e1, e2, h1, h2, h3, h4⟩ => by
    subst e1
    have hk : (R.map (·.1))[pre.length]? = some k := by rw [hR]; simp
    have hk' : (R.map (·.1)).getD pre.length 0 = k := by simp [List.getD, hk]
    have ih := number_rep r R (pre ++ [(k, p)]) vs' t2 (by rw [hR]; simp) hd (fun u hu => hr u (by simp [hu])) (fun g hg => hO g (by simp [e2, hg])) h4
    refine ⟨t1, t2, cs, e2, h1.swap (show ∀ b o, (G.sub R).I b o = G.I b o from fun _ _ => rfl) v cs t1 (hr v (by simp)) (fun g hg o => sub_none (hO g (by simp [e2, hg])) o), ?_, ?_, ?_⟩
    · rw [sub_ρ, hk']; exact h2
    · intro j hj
      rw [sub_ρ, hk']
      refine ⟨?_, (h3 j hj).2⟩
      simp only [Gh.sub, (h3 j hj).1, Option.bind_some]
      exact idx_nth R 1000000 pre.length k hd hk
    · simpa [Nat.add_assoc] using ih
theorem rmL_cons_mem {k : Nat} {u : V} : ∀ (l : List (Nat × List Step)) (m : List (Nat × V)), k ∉ l.map (·.1) → rmL ((k, u) :: m) l = (k, u) :: rmL m l
  | [], _, _ => rfl
  | (q, p) :: r, m, h => by
    simp only [List.map_cons, List.mem_cons, not_or] at h
    simp only [rmL]
    rw [rm_cons, if_neg h.1, rmL_cons_mem r _ h.2]
theorem giveBack_rep : ∀ (l : List (Nat × List Step)) (m m' : List (Nat × V)) (us rest : List V) (to tr : List Nat), giveBack m l us = some (m', rest) → distinct l = true → ObjsRep G w l (us.take l.length) to → MemRep G w (rmL m l) tr →
    rest = us.drop l.length ∧ ∃ t, (∀ g, cnt g t ≤ cnt g to + cnt g tr) ∧ MemRep G w m' t
  | [], m, m', us, rest, to, tr, h, _, _, hM => by
    simp only [giveBack, Option.some.injEq, Prod.mk.injEq] at h
    obtain ⟨rfl, rfl⟩ := h
    exact ⟨rfl, tr, fun g => by omega, hM⟩
  | (k, []) :: r, m, m', [], rest, to, tr, h, _, _, _ => by simp [giveBack] at h
  | (k, _ :: _) :: r, m, m', us, rest, to, tr, h, _, _, _ => by cases us <;> simp [giveBack] at h
  | (k, []) :: r, m, m', u :: us, rest, to, tr, h, hd, ⟨v, vs, t1, t2, cs, e1, e2, h1, h2, h3, h4⟩, hM => by
    simp only [distinct, Bool.and_eq_true, Bool.not_eq_true'] at hd
    simp only [giveBack, Option.bind_eq_some_iff] at h
    obtain ⟨v0, hv0, h⟩ := h
    obtain ⟨hb, h⟩ := cond_then h
    simp only [List.length_cons, List.take_succ_cons, List.cons.injEq] at e1
    obtain ⟨rfl, rfl⟩ := e1
    have hk := memN_mem _ _ hd.1
    obtain ⟨g1, t, g2, g3⟩ := giveBack_rep r (setM m k u) m' us rest t2 (t1 ++ tr) h hd.2 h4 (by
      show MemRep G w (rmL ((k, u) :: rm m k) r) _
      rw [rmL_cons_mem r _ hk]
      exact ⟨t1, tr, cs, rfl, h1, h2, h3, hM⟩)
    exact ⟨by simpa using g1, t, fun g => by have := g2 g; subst e2; simp at this ⊢; omega, g3⟩
/-- What was the cells' number stays it. -/
theorem giveBack_cells : ∀ (l : List (Nat × List Step)) (m m' : List (Nat × V)) (us rest vs : List V), giveBack m l us = some (m', rest) → distinct l = true → contents m l = some vs → ∀ (j : Nat) (u v : V), j < l.length → us[j]? = some u → vs[j]? = some v → v.cells = u.cells
  | [], _, _, _, _, _, _, _, _, j, _, _, hj, _, _ => by simp at hj
  | (k, []) :: r, m, m', [], rest, _, h, _, _, _, _, _, _, _, _ => by simp [giveBack] at h
  | (k, _ :: _) :: r, m, m', us, rest, _, h, _, _, _, _, _, _, _, _ => by cases us <;> simp [giveBack] at h
  | (k, []) :: r, m, m', u :: us, rest, vs, h, hd, hc, j, u', v', hj, hu, hv => by
    simp only [distinct, Bool.and_eq_true, Bool.not_eq_true'] at hd
    simp only [giveBack, Option.bind_eq_some_iff] at h
    obtain ⟨v0, hv0, h⟩ := h
    obtain ⟨hb, h⟩ := cond_then h
    simp only [contents, Option.bind_eq_some_iff, Option.some.injEq] at hc
    obtain ⟨v1, hv1, ws, hws, rfl⟩ := hc
    rw [hv0] at hv1; injection hv1 with hv1; subst hv1
    cases j with
    | zero =>
      simp only [List.getElem?_cons_zero, Option.some.injEq] at hu hv
      subst hu; subst hv; exact beq_nat.1 hb
    | succ j =>
      refine giveBack_cells r (setM m k u) m' us rest ws h hd.2 ?_ j u' v' (by simpa using hj) (by simpa using hu) (by simpa using hv)
      have hk := memN_mem _ _ hd.1
      have : ∀ (l : List (Nat × List Step)), k ∉ l.map (·.1) → contents ((k, u) :: rm m k) l = contents m l := by
        intro l
        induction l with
        | nil => intro _; rfl
        | cons x l ih =>
          intro hx
          obtain ⟨q, p⟩ := x
          simp only [List.map_cons, List.mem_cons, not_or] at hx
          cases p with
          | nil => simp only [contents, lk_cons, if_neg hx.1, lk_rm_other hx.1, ih hx.2]
          | cons _ _ => rfl
      exact (this r hk).trans hws
end Go.Proofs.Ytennedlpmacicaa.Pal
