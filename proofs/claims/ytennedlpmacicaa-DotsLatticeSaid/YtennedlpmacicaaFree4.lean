/- Regions whose order is free: all orders. -/
import Derived.Test.YtennedlpmacicaaFree3
namespace Go.Proofs.Ytennedlpmacicaa.Pal
open Go
variable {P : Program} {X Y : Nat → Nat → Prop} {G0 G G' : Gh} {w0 w w' : World} {s : St} {a : Act} {c : Cx} {Q : Exit → Act → World → Prop}

theorem noDup_rep {tmps : Array Value} : ∀ (l E : List (Nat × V)) (ts : List Nat), noDup l = true → noLent E = true → (∀ k v, (k, v) ∈ l → lk E k = some v) → EnvRep G w tmps E ts →
    ∃ t2, (∀ g, cnt g t2 ≤ cnt g ts) ∧ EnvRep G w tmps l t2
  | [], E, ts, _, _, _, _ => ⟨[], fun g => by simp, rfl⟩
  | (k, v) :: r, E, ts, hd, hn, hl, hE => by
    simp only [noDup, Bool.and_eq_true, Bool.not_eq_true'] at hd
    have hk := hl k v (by simp)
    have hv : notLent v := by
      have : ∀ E : List (Nat × V), noLent E = true → lk E k = some v → notLent v := by
        intro E
        induction E with
        | nil => intro _ h; simp [lk] at h
        | cons p E ih =>
          obtain ⟨q, u⟩ := p
          intro h1 h2
          simp only [noLent, Bool.and_eq_true] at h1
          rw [lk_cons] at h2
          split at h2
          · injection h2 with h2; subst h2
            cases u <;> first | trivial | (cases h1.1)
          · exact ih h1.2 h2
      exact this E hn hk
    obtain ⟨t1, t2, e1, e2, e3⟩ := EnvRep.find k E ts v hE hk hv
    obtain ⟨t3, e4, e5⟩ := noDup_rep r (Pal.rm E k) t2 hd.2 (noLent_rm E k hn) (fun k' v' h => by
      have hne : k ≠ k' := fun e => by
        subst e
        exact memN_mem _ _ hd.1 (List.mem_map.2 ⟨_, h, rfl⟩)
      rw [lk_rm_other hne]; exact hl k' v' (by simp [h])) e3
    exact ⟨t1 ++ t3, fun g => by have := e1 g; have := e4 g; simp; omega, (EnvRep.cons hv).2 ⟨t1, t3, rfl, e2, e5⟩⟩
theorem lk_noDup : ∀ (l : List (Nat × V)) k v, noDup l = true → (k, v) ∈ l → lk l k = some v
  | [], _, _, _, h => by simp at h
  | (q, u) :: r, k, v, hd, h => by
    simp only [noDup, Bool.and_eq_true, Bool.not_eq_true'] at hd
    rw [lk_cons]
    rcases List.mem_cons.1 h with e | h
    · injection e with e1 e2; subst e1; subst e2; simp
    · have : q ≠ k := fun e => by subst e; exact memN_mem _ _ hd.1 (List.mem_map.2 ⟨_, h, rfl⟩)
      rw [if_neg this]; exact lk_noDup r k v hd.2 h
theorem RS.same {tmps : Array Value} {E E' : List (Nat × V)} {m : List (Nat × V)} (h : RS X G0 w0 G ⟨E, m⟩ tmps w) (hn : noLent E = true) (hd : noDup E' = true) (hl : lk E' = lk E) : RS X G0 w0 G ⟨E', m⟩ tmps w := by
  obtain ⟨hB, tE, tM, h1, h2, h3, h4⟩ := h
  obtain ⟨t2, e1, e2⟩ := noDup_rep E' E tE hd hn (fun k v h => by rw [← hl]; exact lk_noDup E' k v hd h) h1
  exact ⟨hB, t2, tM, e2, h2, fun g => by have := h3 g; have := e1 g; omega, fun g hg => h4 g (by have := e1 g; omega)⟩
/-- One step of the text's order, where the order is fixed. -/
theorem runOps_step {α : Type} {ops : Array Oper} {mvs lns : List Nat} {K : St → Option α} {res : α} {n : Nat} {ds : List Deferred} (hT : TT P c) (hC : ∀ f e, lkN c.fns f = some e → CallOK P f e)
    {o : Oper} {r : List Oper} {i : Nat} (hi : ops[i]? = some o) (hd : ∀ t, o.dst = some t → t < n) (h : runOps c ops mvs lns i (o :: r) s K = some res) (hR : RS X G0 w0 G s a.tmps w) (hn : a.tmps.size = n) (hds : a.defers = ds) :
    wpOp P ops Q i (fun a' w' => ∃ G' s', RS X G0 w0 G' s' a'.tmps w' ∧ a'.tmps.size = n ∧ a'.defers = ds ∧ runOps c ops mvs lns (i + 1) r s' K = some res) a w := by
  have hd' : ∀ t, o.dst = some t → t < a.tmps.size := fun t ht => by rw [hn]; exact hd t ht
  have go : ∀ (s1 : St), RS X G0 w0 G s1 a.tmps w → stepO c (memN i mvs) (memN i lns) o s1 (fun s2 => runOps c ops mvs lns (i + 1) r s2 K) = some res →
      o.wp P a w (fun a' w' => ∃ G' s', RS X G0 w0 G' s' a'.tmps w' ∧ a'.tmps.size = n ∧ a'.defers = ds ∧ runOps c ops mvs lns (i + 1) r s' K = some res) Q := by
    intro s1 hR1 hs
    refine Oper.wp_mono (fun a' w' hN => ?_) (stepO_sound (Q := Q) hT hC hR1 hs hd')
    obtain ⟨G', s', g1, g2, g3, g4⟩ := hN
    exact ⟨G', s', g1, g2.trans hn, g3.trans hds, g4⟩
  unfold wpOp
  simp only [hi]
  simp only [runOps] at h
  cases hgd : o.guard with
  | none =>
    simp only [hgd] at h
    rw [if_pos (by simp [Region.wanted, hgd])]
    exact .inl (go s hR h)
  | some jw =>
    obtain ⟨j, want⟩ := jw
    simp only [hgd, Option.bind_eq_some_iff] at h
    obtain ⟨g, hg, gv, hgv, h⟩ := h
    have hg' : (ops[j]?).bind (·.dst) = some g := by simpa [Option.bind_eq_some_iff] using hg
    split at h
    · rename_i b
      have hy := yielded_of hR hg' hgv
      have hR1 := hR.refine_ hgv
      have hw : Region.wanted o (yielded ops a.tmps) = (b == want) := by
        simp only [Region.wanted, hgd, hy]
        cases b <;> cases want <;> rfl
      have skip : ∀ (s1 : St), RS X G0 w0 G s1 a.tmps w → runOps c ops mvs lns (i + 1) r (s1.dst o.dst .unit) K = some res →
          ∃ G' s', RS X G0 w0 G' s' (a.put o.dst undef).tmps w ∧ (a.put o.dst undef).tmps.size = n ∧ (a.put o.dst undef).defers = ds ∧ runOps c ops mvs lns (i + 1) r s' K = some res := by
        intro s1 hR1 h1
        exact ⟨G, _, hR1.skip, (put_size _ _ _).trans hn, (put_defers _ _ _).trans hds, h1⟩
      rcases br_cases h with ⟨rfl, h⟩ | ⟨rfl, h⟩
      · cases want with
        | true =>
          rw [if_pos (by rw [hw]; rfl)]
          exact .inl (go _ hR1 h)
        | false =>
          rw [if_neg (by rw [hw]; simp)]
          exact skip _ hR1 h
      · cases want with
        | true =>
          rw [if_neg (by rw [hw]; simp)]
          exact skip _ hR1 h
        | false =>
          rw [if_pos (by rw [hw]; rfl)]
          exact .inl (go _ hR1 h)
    · have hy := yielded_unit hR hg' hgv
      rw [if_neg (by simp [Region.wanted, hgd, hy])]
      exact ⟨G, _, hR.skip, (put_size _ _ _).trans hn, (put_defers _ _ _).trans hds, h⟩
    · cases h

/-! ### How many are not listed -/
def unl (l : Array Bool) : Nat := l.toList.count false
theorem unl_set {l : Array Bool} {i : Nat} (h : l.getD i true = false) : unl (l.setIfInBounds i true) + 1 = unl l := by
  have hlt : i < l.size := by
    rcases Nat.lt_or_ge i l.size with h' | h'
    · exact h'
    · simp [Array.getElem?_eq_none h'] at h
  have hv : l.toList[i]'(by simpa using hlt) = false := by simpa [Array.getD, hlt] using h
  unfold unl
  rw [Array.toList_setIfInBounds, List.count_set (by simpa using hlt)]
  have hp : 0 < l.toList.count false := List.count_pos_iff.2 (by rw [← hv]; exact List.getElem_mem _)
  have h1 : (l.toList[i]'(by simpa using hlt) == false) = true := by rw [hv]; rfl
  rw [if_pos h1, if_neg (by decide)]
  omega
theorem unl_zero {l : Array Bool} (h : unl l = 0) (i : Nat) : l.getD i true = true := by
  unfold unl at h
  rw [List.count_eq_zero] at h
  rcases Nat.lt_or_ge i l.size with h' | h'
  · cases hv : l[i]'h' with
    | true => simp [Array.getD, h', hv]
    | false => exact absurd (by rw [← hv]; simp) h
  · simp [Array.getElem?_eq_none h']
theorem getD_two {l : Array Bool} {i : Nat} (h : i < l.size) (b b' : Bool) : l.getD i b = l.getD i b' := by simp [Array.getD, h]

/-! ### What okFree says -/
theorem okFree_spec {ops : Array Oper} {mvs : List Nat} {n : Nat} (h : okFree ops mvs n = true) : n ≤ ops.size ∧ (∀ (i : Nat) (o : Oper), ops[i]? = some o → ∀ e ∈ o.after, Region.binds .any e = true → e.on < i) ∧
    (∀ (i : Nat) (o : Oper), ops[i]? = some o → i < n → ∀ j, j < n → i ≠ j → (∀ d, dstAt ops j = some d → (d ∈ o.looksAt ops → j < i ∧ onB o j = true) ∧ o.dst ≠ some d) ∧
      ∀ t p, consO (memN i mvs) o = some t → ops[j]? = some p → t ∈ p.looksAt ops → j < i ∧ onB o j = true) ∧
    (∀ (i : Nat) (o : Oper), ops[i]? = some o → n ≤ i → (∀ j, j < i → onB o j = true) ∨ (i = n ∧ alOk ops mvs n o = true)) := by
  simp only [okFree, Bool.and_eq_true, List.all_eq_true, List.mem_range] at h
  obtain ⟨h0, h⟩ := h
  have key : ∀ (i : Nat) (o : Oper), ops[i]? = some o → i < ops.size := fun i o hi => (Array.getElem?_eq_some_iff.1 hi).1
  refine ⟨Nat.le_of_ble_eq_true h0, fun i o hi e he hbd => ?_, fun i o hi hin j hj hne => ?_, fun i o hi hin => ?_⟩
  · have := h i (key i o hi)
    simp only [hi, Bool.and_eq_true] at this
    have h1 := this.1
    rw [Array.all_eq_true_iff_forall_mem] at h1
    have h2 := h1 e he
    rw [hbd] at h2
    simp only [Bool.not_true, Bool.false_or] at h2
    exact Nat.le_of_ble_eq_true h2
  · have := h i (key i o hi)
    simp only [hi, Bool.and_eq_true, if_pos hin, List.all_eq_true, List.mem_range] at this
    have h1 := this.2 j hj
    rw [Bool.or_eq_true] at h1
    rcases h1 with h1 | h1
    · exact absurd (beq_nat.1 h1) hne
    · rw [Bool.and_eq_true] at h1
      obtain ⟨h1, h2⟩ := h1
      refine ⟨fun d hd => ?_, fun t p hc hp hm => ?_⟩
      · simp only [hd, Bool.or_eq_true, Bool.and_eq_true, bne_iff_ne, ne_eq] at h1
        refine ⟨fun hm => ?_, h1.2⟩
        rcases h1.1 with h3 | h3
        · simp at h3; exact absurd hm h3
        · exact ⟨Nat.le_of_ble_eq_true h3.1, h3.2⟩
      · simp only [hc, hp, Bool.or_eq_true, Bool.and_eq_true] at h2
        rcases h2 with h3 | h3
        · simp at h3; exact absurd hm h3
        · exact ⟨Nat.le_of_ble_eq_true h3.1, h3.2⟩
  · have := h i (key i o hi)
    simp only [hi, Bool.and_eq_true, if_neg (Nat.not_lt.2 hin), Bool.or_eq_true, List.all_eq_true, List.mem_range] at this
    exact this.2.imp id fun h => ⟨beq_nat.1 h.1, h.2⟩
theorem onB_listed {o : Oper} {j : Nat} {listed : Array Bool} (h : onB o j = true) (hall : ∀ e ∈ o.after, Region.binds .any e = true → listed.getD e.on false = true) : listed.getD j false = true := by
  unfold onB at h
  obtain ⟨e, he, hb⟩ := Array.any_eq_true'.1 h
  simp only [Bool.and_eq_true] at hb
  have := hall e he hb.1
  rwa [beq_nat.1 hb.2] at this
/-- The tail, whose order is fixed. -/
theorem tail_sound {α : Type} {ops : Array Oper} {mvs lns : List Nat} {K : St → Option α} {res : α} {n N : Nat} {ds : List Deferred} (hT : TT P c) (hC : ∀ f e, lkN c.fns f = some e → CallOK P f e) (hdst : ∀ o ∈ ops.toList, ∀ t, o.dst = some t → t < N) (hok : okFree ops mvs n = true)
    (hQ : ∀ a' w' G' s', RS X G0 w0 G' s' a'.tmps w' → a'.tmps.size = N → a'.defers = ds → K s' = some res → Q .normal a' w') :
    ∀ (fuel k : Nat) (listed : Array Bool) (s : St) (a : Act) (w : World) (G : Gh), n ≤ k → unl listed ≤ fuel → listed.size = ops.size → (∀ j, j < ops.size → (listed.getD j true = true ↔ j < k)) →
      runOps c ops mvs lns k (ops.toList.drop k) s K = some res → RS X G0 w0 G s a.tmps w → a.tmps.size = N → a.defers = ds → wpAny P .any ops Q fuel listed a w := by
  obtain ⟨hn, _, _, hB⟩ := okFree_spec hok
  intro fuel
  have ready : ∀ (k : Nat) (listed : Array Bool), n ≤ k → listed.size = ops.size → (∀ j, j < ops.size → (listed.getD j true = true ↔ j < k)) → ∀ i ∈ Region.ready .any ops listed, i = k := by
    intro k listed hk hsz hL i hi
    obtain ⟨h0, o, ho, hall⟩ := mem_ready.1 hi
    have hlt := (Array.getElem?_eq_some_iff.1 ho).1
    have h1 : ¬ i < k := fun h => by have := (hL i hlt).2 h; rw [h0] at this; cases this
    rcases Nat.lt_or_ge k i with h2 | h2
    · have h3 := onB_listed ((hB i o ho (by omega)).resolve_right (by omega) k h2) hall
      have h4 := (hL k (by omega)).1 (by rw [getD_two (by omega) true false]; exact h3)
      omega
    · omega
  have nready : ∀ (k : Nat) (listed : Array Bool), n ≤ k → listed.size = ops.size → (∀ j, j < ops.size → (listed.getD j true = true ↔ j < k)) → Region.ready .any ops listed = [] → ops.size ≤ k := by
    intro k listed hk hsz hL hr
    rcases Nat.lt_or_ge k ops.size with h | h
    · have hk' : k ∈ Region.ready .any ops listed := by
        refine mem_ready.2 ⟨?_, ops[k], Array.getElem?_eq_getElem h, fun e he hbd => ?_⟩
        · have := hL k h
          cases hv : listed.getD k true with
          | false => rfl
          | true => have := this.1 hv; omega
        · have := (okFree_spec hok).2.1 k ops[k] (Array.getElem?_eq_getElem h) e he hbd
          rw [getD_two (by omega) false true]
          exact (hL e.on (by omega)).2 this
      rw [hr] at hk'; cases hk'
    · exact h
  have fin : ∀ (k : Nat) (listed : Array Bool) (s : St) (a : Act) (w : World) (G : Gh), ops.size ≤ k → runOps c ops mvs lns k (ops.toList.drop k) s K = some res → RS X G0 w0 G s a.tmps w → a.tmps.size = N → a.defers = ds → Q .normal a w := by
    intro k listed s a w G hk h hR hn hds
    rw [List.drop_eq_nil_of_le (by simpa using hk)] at h
    simp only [runOps] at h
    exact hQ a w G s hR hn hds h
  induction fuel with
  | zero =>
    intro k listed s a w G hk hu hsz hL h hR hN hds
    have hz : unl listed = 0 := by omega
    have hr : Region.ready .any ops listed = [] := by
      apply List.eq_nil_iff_forall_not_mem.2
      intro i hi
      have := (mem_ready.1 hi).1
      rw [unl_zero hz i] at this; cases this
    exact ⟨hr, fin k listed s a w G (nready k listed hk hsz hL hr) h hR hN hds⟩
  | succ fuel ih =>
    intro k listed s a w G hk hu hsz hL h hR hN hds
    refine ⟨fun hr => fin k listed s a w G (nready k listed hk hsz hL hr) h hR hN hds, fun i hi => ?_⟩
    have hik := ready k listed hk hsz hL i hi
    subst hik
    obtain ⟨h0, o, ho, hall⟩ := mem_ready.1 hi
    have hlt := (Array.getElem?_eq_some_iff.1 ho).1
    have hdr : ops.toList.drop i = o :: ops.toList.drop (i + 1) := by
      rw [List.drop_eq_getElem_cons (by simpa using hlt)]
      congr 1
      have := (Array.getElem?_eq_some_iff.1 ho).2
      simpa using this
    rw [hdr] at h
    have hmem : o ∈ ops.toList := by rw [← Array.getElem?_toList] at ho; exact List.mem_of_getElem? ho
    refine wpOp_mono (fun a' w' hh => ?_) (runOps_step (Q := Q) hT hC ho (hdst o hmem) h hR hN hds)
    obtain ⟨G', s', g1, g2, g3, g4⟩ := hh
    refine ih (i + 1) _ s' a' w' G' (by omega) (by have := unl_set h0; omega) (by simp [hsz]) (fun j hj => ?_) g4 g1 g2 g3
    by_cases e : i = j
    · subst e
      simp [Array.getD, hsz, hj]
    · rw [getD_set_ne true e, hL j hj]
      omega
/-- What has come is as in the text's order. -/
structure Head (X : Nat → Nat → Prop) (G0 : Gh) (w0 : World) (ops : Array Oper) (mvs : List Nat) (n N : Nat) (ds : List Deferred) (s : St) (R : List (V × Bool)) (al : Bool) (listed : Array Bool) (a : Act) (w : World) (G : Gh) (E : List (Nat × V)) : Prop where
  rs : RS X G0 w0 G ⟨E, s.mem⟩ a.tmps w
  nol : noLent E = true
  size : a.tmps.size = N
  defs : a.defers = ds
  lsz : listed.size = ops.size
  late : ∀ j, n ≤ j → j < ops.size → listed.getD j true = (al && Nat.beq j n)
  closed : ∀ j (o : Oper), ops[j]? = some o → listed.getD j true = true → ∀ i, i < ops.size → onB o i = true → listed.getD i true = true
  old : ∀ t, (∀ j, j < n → listed.getD j true = true → dstAt ops j ≠ some t ∧ consR ops mvs 0 R j ≠ some t) → lk E t = lk s.env t
  new : ∀ j t y, j < n → dstAt ops j = some t → listed.getD j true = true → (∀ i, i < n → listed.getD i true = true → i ≠ j → consR ops mvs 0 R i ≠ some t) → R[j]? = some y → lk E t = some y.1
  gone : ∀ j t, j < n → listed.getD j true = true → consR ops mvs 0 R j = some t → dstAt ops j ≠ some t → lk E t = none
theorem mem_looks {o : Oper} {ops : Array Oper} {t : Nat} (hx : Operand.tmp t ∈ o.op.operands) : t ∈ o.looksAt ops := by
  unfold Oper.looksAt
  exact List.mem_append_left _ (List.mem_filterMap.2 ⟨.tmp t, by simpa using hx, rfl⟩)
theorem consO_looks {mv : Bool} {o : Oper} {ops : Array Oper} {t : Nat} (h : consO mv o = some t) : t ∈ o.looksAt ops := by
  refine mem_looks ?_
  obtain ⟨dst, op, ty, pos, after, guard⟩ := o
  have key : ∀ args : Array Operand, headT mv args.toList = some t → Operand.tmp t ∈ args := by
    intro args h
    rw [← Array.mem_toList_iff]
    cases hx : args.toList with
    | nil => rw [hx] at h; cases h
    | cons x r =>
      rw [hx] at h
      cases x with
      | tmp u =>
        simp only [headT, tmpOf] at h
        obtain ⟨_, h⟩ := cond_then h
        injection h with h; subst h; simp
      | _ => cases h
  unfold consO at h
  split at h
  · rename_i f args tys hop
    simp only at hop; subst hop
    simp [Op.operands, Call.operands, key args h]
  · rename_i args tys hop
    simp only at hop; subst hop
    simp [Op.operands, Call.operands, key args h]
  · cases h
theorem consR_spec {ops : Array Oper} {mvs : List Nat} {R : List (V × Bool)} {j t : Nat} (h : consR ops mvs 0 R j = some t) : ∃ o, ops[j]? = some o ∧ consO (memN j mvs) o = some t := by
  unfold consR at h
  rw [Nat.zero_add] at h
  split at h
  · rename_i o x h1 h2
    split at h
    · exact ⟨o, h1, h⟩
    · cases h
  · cases h
theorem Gives.congr {ops : Array Oper} {mvs : List Nat} {m : List (Nat × V)} {i : Nat} {o : Oper} {L L' : Nat → Option V} {x : V × Bool} (h : ∀ t ∈ o.looksAt ops, L t = L' t) (hG : Gives c ops mvs m i o L x) : Gives c ops mvs m i o L' x := by
  have hs : stepF c (memN i mvs) o L m some = stepF c (memN i mvs) o L' m some := stepF_congr fun t hx => h t (mem_looks hx)
  unfold Gives at hG ⊢
  split at hG
  · rw [← hs]; exact hG
  · rename_i j want hgd
    obtain ⟨g, gv, h1, h2, h3⟩ := hG
    refine ⟨g, gv, h1, ?_, by rw [← hs]; exact h3⟩
    rw [← h g (by unfold Oper.looksAt; exact List.mem_append_right _ (by simp [hgd, h1]))]
    exact h2
/-- The head, whose order is free, and the tail. -/
theorem head_core {α : Type} {al : Bool} {n n2 : Nat} (hn2 : n2 = if al then n + 1 else n) {ops : Array Oper} {mvs lns : List Nat} {K : St → Option α} {res : α} {N : Nat} {ds : List Deferred} {s1 : St} {R : List (V × Bool)} (hT : TT P c) (hC : ∀ f e, lkN c.fns f = some e → CallOK P f e) (hdst : ∀ o ∈ ops.toList, ∀ t, o.dst = some t → t < N) (hok : okFree ops mvs n = true)
    (hQ : ∀ a' w' G' s', RS X G0 w0 G' s' a'.tmps w' → a'.tmps.size = N → a'.defers = ds → K s' = some res → Q .normal a' w')
    (hlen : R.length = n) (htr : TraceL c ops mvs s.mem 0 (lk s.env) R (lk s1.env)) (hm : s1.mem = s.mem) (hd1 : noDup s1.env = true) (hrun : runOps c ops mvs lns n2 (ops.toList.drop n2) s1 K = some res)
    (hal : al = false → ∀ (o : Oper), ops[n]? = some o → alOk ops mvs n o = true → ∀ (fuel : Nat) (listed : Array Bool) (a : Act) (w : World) (G : Gh) (E : List (Nat × V)), unl listed ≤ fuel + 1 → Head X G0 w0 ops mvs n N ds s R al listed a w G E → n ∈ Region.ready .any ops listed → wpOp P ops Q n (fun a' w' => wpAny P .any ops Q fuel (listed.setIfInBounds n true) a' w') a w) :
    ∀ (fuel : Nat) (listed : Array Bool) (a : Act) (w : World) (G : Gh) (E : List (Nat × V)), unl listed ≤ fuel → Head X G0 w0 ops mvs n N ds s R al listed a w G E → wpAny P .any ops Q fuel listed a w := by
  obtain ⟨hn, hA, hF, hB⟩ := okFree_spec hok
  have uniq : ∀ j t, j < n → dstAt ops j = some t → ∀ j', j' < n → j' ≠ j → dstAt ops j' ≠ some t := by
    intro j t hj ht j' hj' hne h
    have hlt : j' < ops.size := by omega
    have := ((hF j' ops[j'] (Array.getElem?_eq_getElem hlt) hj' j hj hne).1 t ht).2
    simp [dstAt, Array.getElem?_eq_getElem hlt] at h
    exact this h
  -- who takes t comes behind all that write it, or look at it
  have consDst : ∀ j t, j < n → consR ops mvs 0 R j = some t → ∀ i, i < n → i ≠ j → dstAt ops i = some t → i < j ∧ ∃ o, ops[j]? = some o ∧ onB o i = true := by
    intro j t hj hc i hi hne hd
    obtain ⟨o, ho, hco⟩ := consR_spec hc
    have := ((hF j o ho hj i hi (Ne.symm hne)).1 t hd).1 (consO_looks hco)
    exact ⟨this.1, o, ho, this.2⟩
  have consLook : ∀ j t, j < n → consR ops mvs 0 R j = some t → ∀ i (p : Oper), i < n → i ≠ j → ops[i]? = some p → t ∈ p.looksAt ops → i < j ∧ ∃ o, ops[j]? = some o ∧ onB o i = true := by
    intro j t hj hc i p hi hne hp hm
    obtain ⟨o, ho, hco⟩ := consR_spec hc
    have := (hF j o ho hj i hi (Ne.symm hne)).2 t p hco hp hm
    exact ⟨this.1, o, ho, this.2⟩
  obtain ⟨te1, te2, te3⟩ := trace_end R 0 _ _ htr
  -- all of the head is listed
  have full : ∀ (fuel : Nat) (listed : Array Bool) (a : Act) (w : World) (G : Gh) (E : List (Nat × V)), unl listed ≤ fuel → Head X G0 w0 ops mvs n N ds s R al listed a w G E → (∀ j, j < n → listed.getD j true = true) → wpAny P .any ops Q fuel listed a w := by
    intro fuel listed a w G E hu hh hall
    have hlk : lk s1.env = lk E := by
      funext t
      by_cases hc : ∃ j, j < n ∧ consR ops mvs 0 R j = some t ∧ dstAt ops j ≠ some t
      · obtain ⟨j, hj, hc, hd⟩ := hc
        rw [hh.gone j t hj (hall j hj) hc hd]
        refine te3 j t (by omega) hc fun j' h1 h2 hd' => ?_
        rw [Nat.zero_add] at hd'
        by_cases e : j' = j
        · subst e; exact hd hd'
        · have := (consDst j t hj hc j' (by omega) e hd').1
          omega
      · have nc : ∀ j, j < n → consR ops mvs 0 R j = some t → dstAt ops j = some t := fun j hj h => Classical.byContradiction fun h' => hc ⟨j, hj, h, h'⟩
        by_cases ht : ∃ j, j < n ∧ dstAt ops j = some t
        · obtain ⟨j, hj, ht⟩ := ht
          have hjR : j < R.length := by omega
          have hu2 : ∀ i, i < n → i ≠ j → consR ops mvs 0 R i ≠ some t := fun i hi hne h => uniq j t hj ht i hi hne (nc i hi h)
          rw [te2 j t R[j] hjR (by rw [Nat.zero_add]; exact ht) (fun j' hj' hne => by rw [Nat.zero_add]; exact ⟨uniq j t hj ht j' (by omega) hne, hu2 j' (by omega) hne⟩) (List.getElem?_eq_getElem hjR)]
          exact (hh.new j t R[j] hj ht (hall j hj) (fun i hi _ hne => hu2 i hi hne) (List.getElem?_eq_getElem hjR)).symm
        · have hno : ∀ j, j < n → dstAt ops j ≠ some t ∧ consR ops mvs 0 R j ≠ some t := fun j hj => ⟨fun h => ht ⟨j, hj, h⟩, fun h => ht ⟨j, hj, nc j hj h⟩⟩
          rw [te1 t (fun j hj => by rw [Nat.zero_add]; exact hno j (by omega)), hh.old t (fun j hj _ => hno j hj)]
    have hR1 : RS X G0 w0 G s1 a.tmps w := by
      have := hh.rs.same hh.nol hd1 hlk
      rw [← hm] at this
      exact this
    refine tail_sound hT hC hdst hok hQ fuel n2 listed s1 a w G (by subst hn2; split <;> omega) hu hh.lsz (fun j hj => ⟨fun h => ?_, fun h => ?_⟩) hrun hR1 hh.size hh.defs
    · rcases Nat.lt_or_ge j n with h' | h'
      · subst hn2; split <;> omega
      · rw [hh.late j h' hj, Bool.and_eq_true] at h
        have := beq_nat.1 h.2
        rw [h.1] at hn2; simp at hn2; omega
    · rcases Nat.lt_or_ge j n with h' | h'
      · exact hall j h'
      · rw [hh.late j h' hj]
        cases al with
        | true => simp at hn2; have : j = n := by omega
                  subst this; simp
        | false => simp at hn2; omega
  -- one that is not listed, and has all that it is after
  have some1 : ∀ (listed : Array Bool) (a : Act) (w : World) (G : Gh) (E : List (Nat × V)), Head X G0 w0 ops mvs n N ds s R al listed a w G E → ¬ (∀ j, j < n → listed.getD j true = true) → ∃ i, i ∈ Region.ready .any ops listed := by
    intro listed a w G E hh hnot
    have : ∃ j, j < n ∧ listed.getD j true = false := by
      apply Classical.byContradiction
      intro h
      exact hnot fun j hj => by
        cases hv : listed.getD j true with
        | true => rfl
        | false => exact absurd ⟨j, hj, hv⟩ h
    obtain ⟨j, hj⟩ := this
    induction j using Nat.strongRecOn with
    | _ j ih =>
      by_cases hp : ∃ j', j' < j ∧ listed.getD j' true = false
      · obtain ⟨j', hj', hv⟩ := hp
        exact ih j' hj' ⟨by omega, hv⟩
      · have hlt : j < ops.size := by omega
        refine ⟨j, mem_ready.2 ⟨hj.2, ops[j], Array.getElem?_eq_getElem hlt, fun e he hbd => ?_⟩⟩
        have hej := hA j ops[j] (Array.getElem?_eq_getElem hlt) e he hbd
        cases hv : listed.getD e.on true with
        | false => exact absurd ⟨e.on, hej, hv⟩ hp
        | true => rw [getD_two (by have := hh.lsz; omega) false true]; exact hv
  intro fuel
  induction fuel with
  | zero =>
    intro listed a w G E hu hh
    exact full 0 listed a w G E hu hh fun j _ => unl_zero (by omega) j
  | succ fuel ih =>
    intro listed a w G E hu hh
    by_cases hall : ∀ j, j < n → listed.getD j true = true
    · exact full (fuel + 1) listed a w G E hu hh hall
    · refine ⟨fun hr => ?_, fun i hi => ?_⟩
      · obtain ⟨i, hi⟩ := some1 listed a w G E hh hall
        rw [hr] at hi; cases hi
      · obtain ⟨h0, o, ho, hafter⟩ := mem_ready.1 hi
        have hlt := (Array.getElem?_eq_some_iff.1 ho).1
        have lst : ∀ j, j < ops.size → onB o j = true → listed.getD j true = true := fun j hj hon => by
          have := onB_listed hon hafter
          rwa [getD_two (by have := hh.lsz; omega) false true] at this
        by_cases hin : i < n
        case neg =>
          rcases hB i o ho (by omega) with h | ⟨h, hao⟩
          · exact absurd (fun j hj => lst j (by omega) (h j (by omega))) hall
          · subst h
            cases al with
            | true => rw [hh.late i (Nat.le_refl _) hlt] at h0; simp at h0
            | false => exact hal rfl o ho hao fuel listed a w G E hu hh hi
        have hdi : dstAt ops i = o.dst := by simp [dstAt, ho]
        obtain ⟨o', Lk, x, e1, e2, e3, e4, e5⟩ := trace_at R 0 _ _ htr i (by omega)
        rw [Nat.zero_add] at e1 e3
        rw [ho] at e1
        injection e1 with e1; subst e1
        have hci : consR ops mvs 0 R i = if x.2 then consO (memN i mvs) o else none := by
          unfold consR
          simp only [Nat.zero_add, ho, e2]
        -- who looks at t here comes before who takes it
        have claim : ∀ t ∈ o.looksAt ops, ∀ j, j < n → j ≠ i → consR ops mvs 0 R j = some t → listed.getD j true = false ∧ i < j := by
          intro t ht j hj hne hc
          obtain ⟨h1, p, hp, hon⟩ := consLook j t hj hc i o hin (Ne.symm hne) ho ht
          refine ⟨?_, h1⟩
          cases hv : listed.getD j true with
          | false => rfl
          | true =>
            have := hh.closed j p hp hv i hlt hon
            rw [h0] at this; cases this
        have agree : ∀ t ∈ o.looksAt ops, Lk t = lk E t := by
          intro t ht
          by_cases hj : ∃ j, j < n ∧ j ≠ i ∧ dstAt ops j = some t
          · obtain ⟨j, hj, hne, hd⟩ := hj
            obtain ⟨hji, hon⟩ := ((hF i o ho hin j hj (Ne.symm hne)).1 t hd).1 ht
            have hl := lst j (by omega) hon
            have hjR : j < R.length := by omega
            rw [e5 j t R[j] hji (by rw [Nat.zero_add]; exact hd) (fun j' hj' hne' => by
              rw [Nat.zero_add]
              exact ⟨uniq j t hj hd j' (by omega) hne', fun hc => by have := (claim t ht j' (by omega) (by omega) hc).2; omega⟩) (List.getElem?_eq_getElem hjR)]
            refine (hh.new j t R[j] hj hd hl (fun i' hi' hl' _ hc => ?_) (List.getElem?_eq_getElem hjR)).symm
            by_cases e : i' = i
            · subst e; rw [h0] at hl'; cases hl'
            · have := (claim t ht i' hi' e hc).1
              rw [hl'] at this; cases this
          · have hno : ∀ j, j < n → j ≠ i → dstAt ops j ≠ some t := fun j hj2 hne h => hj ⟨j, hj2, hne, h⟩
            rw [e4 t (fun j hj' => by
              rw [Nat.zero_add]
              exact ⟨hno j (by omega) (by omega), fun hc => by have := (claim t ht j (by omega) (by omega) hc).2; omega⟩), hh.old t (fun j hj' hl => ?_)]
            have e : j ≠ i := fun e => by subst e; rw [h0] at hl; cases hl
            refine ⟨hno j hj' e, fun hc => ?_⟩
            have := (claim t ht j hj' e hc).1
            rw [hl] at this; cases this
        have hG := Gives.congr agree e3
        have next : ∀ (a' : Act) (w' : World) (G' : Gh) (E' : List (Nat × V)), RS X G0 w0 G' ⟨E', s.mem⟩ a'.tmps w' → a'.tmps.size = N → a'.defers = ds → noLent E' = true → lk E' = afterL (lk E) (memN i mvs) o x → wpAny P .any ops Q fuel (listed.setIfInBounds i true) a' w' := by
          intro a' w' G' E' g1 g2 g3 g4 g5
          have hset : (listed.setIfInBounds i true).getD i true = true := by simp [Array.getD, hh.lsz, hlt]
          have hmono : ∀ j, listed.getD j true = true → (listed.setIfInBounds i true).getD j true = true := fun j hj => by
            by_cases e : i = j
            · subst e; exact hset
            · rw [getD_set_ne true e]; exact hj
          refine ih _ a' w' G' E' (by have := unl_set h0; omega) ⟨g1, g4, g2, g3, by simp [hh.lsz], fun j hj hj' => ?_, fun j p hp hl i' hi' hon => ?_, fun t ht => ?_, fun j t y hj hd hl hu hy => ?_, fun j t hj hl hc hd => ?_⟩
          · rw [getD_set_ne true (by omega)]; exact hh.late j hj hj'
          · by_cases e : i = j
            · subst e
              rw [ho] at hp; injection hp with hp; subst hp
              exact hmono i' (lst i' hi' hon)
            · rw [getD_set_ne true e] at hl
              exact hmono i' (hh.closed j p hp hl i' hi' hon)
          · have hi' := ht i hin hset
            rw [hdi, hci] at hi'
            rw [g5, afterL_other hi'.1 hi'.2]
            exact hh.old t fun j hj hl => ht j hj (hmono j hl)
          · rw [g5]
            by_cases e : i = j
            · subst e
              rw [hdi] at hd
              rw [e2] at hy; injection hy with hy; subst hy
              exact afterL_dst hd
            · have hne : o.dst ≠ some t := fun h => uniq j t hj hd i hin e (hdi.trans h)
              have hci' := hu i hin hset e
              rw [hci] at hci'
              rw [afterL_other hne hci']
              rw [getD_set_ne true e] at hl
              exact hh.new j t y hj hd hl (fun i' hi' hl' hne' => hu i' hi' (hmono i' hl') hne') hy
          · rw [g5]
            by_cases e : i = j
            · subst e
              rw [hdi] at hd
              rw [hci] at hc
              exact afterL_cut hd hc
            · rw [getD_set_ne true e] at hl
              have hz := hh.gone j t hj hl hc hd
              have hne : o.dst ≠ some t := fun h => by
                obtain ⟨_, p, hp, hon⟩ := consDst j t hj hc i hin e (hdi.trans h)
                have := hh.closed j p hp hl i hlt hon
                rw [h0] at this; cases this
              by_cases hcut : (if x.2 then consO (memN i mvs) o else none) = some t
              · exact afterL_cut hne hcut
              · rw [afterL_other hne hcut]; exact hz
        have hmem : o ∈ ops.toList := by rw [← Array.getElem?_toList] at ho; exact List.mem_of_getElem? ho
        have hdN : ∀ t, o.dst = some t → t < a.tmps.size := fun t ht => by rw [hh.size]; exact hdst o hmem t ht
        have does : x.2 = true → stepF c (memN i mvs) o (lk E) s.mem some = some x.1 → notL x.1 = true → o.wp P a w (wpAny P .any ops Q fuel (listed.setIfInBounds i true)) Q := by
          intro hx hs hv
          refine Oper.wp_mono (fun a' w' hN => ?_) (stepF_sound (Q := Q) (s := ⟨E, s.mem⟩) hT hC hh.rs hs hdN)
          obtain ⟨G', s', g1, g2, g3, g4⟩ := hN
          injection g4 with g4; subst g4
          have hn2 := noLent_rmO (consO (memN i mvs) o) hh.nol
          have hlk : lk (({ (⟨E, s.mem⟩ : St) with env := rmO E (consO (memN i mvs) o) } : St).dst o.dst x.1).env = afterL (lk E) (memN i mvs) o x ∧ noLent (({ (⟨E, s.mem⟩ : St) with env := rmO E (consO (memN i mvs) o) } : St).dst o.dst x.1).env = true ∧ (({ (⟨E, s.mem⟩ : St) with env := rmO E (consO (memN i mvs) o) } : St).dst o.dst x.1).mem = s.mem := by
            unfold afterL
            rw [hx]
            simp only [if_true]
            cases hd : o.dst with
            | none => exact ⟨by rw [updL_none]; exact lk_rmO E _, hn2, rfl⟩
            | some d => exact ⟨by rw [← lk_rmO]; exact lk_set hn2, noLent_set hn2 hv, rfl⟩
          have e : ∀ S : St, S.mem = s.mem → RS X G0 w0 G' S a'.tmps w' → RS X G0 w0 G' ⟨S.env, s.mem⟩ a'.tmps w' := by
            rintro ⟨_, _⟩ rfl h; exact h
          exact next a' w' G' _ (e _ hlk.2.2 g1) (g2.trans hh.size) (g3.trans hh.defs) hlk.2.1 hlk.1
        have skip : x = (.unit, false) → wpAny P .any ops Q fuel (listed.setIfInBounds i true) (a.put o.dst undef) w := by
          intro hx
          have hsk := hh.rs.skip (d := o.dst)
          have e : afterL (lk E) (memN i mvs) o x = updL (lk E) o.dst (some .unit) := by rw [hx]; rfl
          cases hd : o.dst with
          | none =>
            rw [hd] at hsk
            exact next _ w G E hsk hh.size hh.defs hh.nol (by rw [e, hd, updL_none])
          | some d =>
            rw [hd] at hsk
            exact next _ w G _ hsk ((put_size _ _ _).trans hh.size) ((put_defers _ _ _).trans hh.defs) (noLent_set hh.nol rfl) (by rw [e, hd]; exact lk_set hh.nol)
        unfold wpOp
        simp only [ho]
        unfold Gives at hG
        cases hgd : o.guard with
        | none =>
          simp only [hgd] at hG
          obtain ⟨g1, g2, g3⟩ := hG
          rw [if_pos (by simp [Region.wanted, hgd])]
          exact .inl (does g1 g2 g3)
        | some jw =>
          obtain ⟨j, want⟩ := jw
          simp only [hgd] at hG
          obtain ⟨g, gv, g1, g2, g3⟩ := hG
          rcases g3 with ⟨rfl, f1, f2, f3⟩ | ⟨hgv, g3⟩
          · have hy := yielded_of hh.rs g1 g2
            rw [if_pos (by simp [Region.wanted, hgd, hy])]
            exact .inl (does f1 f2 f3)
          · rcases hgv with rfl | rfl
            · have hy := yielded_of hh.rs g1 g2
              rw [if_neg (by simp only [Region.wanted, hgd, hy]; cases want <;> simp)]
              exact skip g3
            · have hy := yielded_unit hh.rs g1 g2
              rw [if_neg (by simp [Region.wanted, hgd, hy])]
              exact skip g3
/-! ### A variable that may be made early or late -/
def nub : List (Nat × V) → List (Nat × V)
  | [] => []
  | (k, v) :: r => (k, v) :: rm (nub r) k
theorem lk_nub : ∀ (E : List (Nat × V)) (t : Nat), lk (nub E) t = lk E t
  | [], _ => rfl
  | (k, v) :: r, t => by
    show lk ((k, v) :: rm (nub r) k) t = _
    rw [lk_cons, lk_cons]
    by_cases h : k = t
    · rw [if_pos h, if_pos h]
    · rw [if_neg h, if_neg h, lk_rm_other h, lk_nub r t]
theorem noDup_cons {k : Nat} {v : V} {r : List (Nat × V)} (h1 : k ∉ keys r) (h2 : noDup r = true) : noDup ((k, v) :: r) = true := by
  simp only [noDup, Bool.and_eq_true, Bool.not_eq_true']
  refine ⟨?_, h2⟩
  cases hm : memN k (r.map (·.1)) with
  | false => rfl
  | true =>
    exfalso
    have : ∀ l : List Nat, memN k l = true → k ∈ l := by
      intro l
      induction l with
      | nil => intro h; cases h
      | cons q l ih =>
        intro h
        simp only [memN, Bool.or_eq_true] at h
        rcases h with h | h
        · have := beq_nat.1 h; subst this; simp
        · exact List.mem_cons_of_mem _ (ih h)
    exact h1 (this _ hm)
theorem noDup_rm (k : Nat) : ∀ (r : List (Nat × V)), noDup r = true → noDup (rm r k) = true
  | [], _ => rfl
  | (q, v) :: r, h => by
    have h' := h
    simp only [noDup, Bool.and_eq_true, Bool.not_eq_true'] at h
    rw [rm_cons]
    split
    · exact noDup_rm k r h.2
    · refine noDup_cons (fun hm => ?_) (noDup_rm k r h.2)
      exact memN_mem _ _ h.1 (keys_rm k r q hm).1
theorem noDup_nub : ∀ (E : List (Nat × V)), noDup (nub E) = true
  | [] => rfl
  | (k, v) :: r => noDup_cons (fun hm => (keys_rm k _ k hm).2 rfl) (noDup_rm k _ (noDup_nub r))
theorem noRef_mem {d : Nat} : ∀ {m : List (Nat × V)} {k : Nat} {v : V}, noRef d m = true → lk m k = some v → memN d v.refs = false
  | [], _, _, _, h => by cases h
  | (q, u) :: r, k, v, h, hl => by
    simp only [noRef, Bool.and_eq_true, Bool.not_eq_true'] at h
    rw [lk_cons] at hl
    split at hl
    · injection hl with hl; subst hl; exact h.1
    · exact noRef_mem h.2 hl
theorem noRef_of {d : Nat} : ∀ (m : List (Nat × V)), (∀ k v, (k, v) ∈ m → memN d v.refs = false) → noRef d m = true
  | [], _ => rfl
  | (k, v) :: r, h => by
    simp only [noRef, Bool.and_eq_true, Bool.not_eq_true']
    exact ⟨h k v (by simp), noRef_of r fun q u hq => h q u (by simp [hq])⟩
theorem valO_more {o : Oper} {ρ : Option Ty → Operand → Option V} {m m' : List (Nat × V)} (hm : ∀ k v, lk m k = some v → lk m' k = some v) {r : V} (h : valO c o ρ m some = some r) : valO c o ρ m' some = some r := by
  unfold valO at h ⊢
  split at h
  all_goals first
    | exact h
    | (rename_i t x hop
       rw [Option.bind_eq_some_iff] at h ⊢
       obtain ⟨ly, h1, h⟩ := h
       refine ⟨ly, h1, ?_⟩
       rw [Option.bind_eq_some_iff] at h ⊢
       obtain ⟨av, h2, h⟩ := h
       refine ⟨av, h2, ?_⟩
       split at h
       · rw [Option.bind_eq_some_iff] at h ⊢
         obtain ⟨v, h3, h⟩ := h
         exact ⟨v, hm _ _ h3, h⟩
       · exact h
       · exact h)
theorem stepF_more {mv : Bool} {o : Oper} {L : Nat → Option V} {m m' : List (Nat × V)} (hm : ∀ k v, lk m k = some v → lk m' k = some v) {r : V} (h : stepF c mv o L m some = some r) : stepF c mv o L m' some = some r := by
  unfold stepF at h ⊢
  split at h
  all_goals first
    | exact h
    | exact valO_more hm h
theorem Gives.more {ops : Array Oper} {mvs : List Nat} {m m' : List (Nat × V)} {i : Nat} {o : Oper} {L : Nat → Option V} {x : V × Bool} (hm : ∀ k v, lk m k = some v → lk m' k = some v) (hG : Gives c ops mvs m i o L x) : Gives c ops mvs m' i o L x := by
  unfold Gives at hG ⊢
  split at hG
  · exact ⟨hG.1, stepF_more hm hG.2.1, hG.2.2⟩
  · obtain ⟨g, gv, h1, h2, h3⟩ := hG
    exact ⟨g, gv, h1, h2, h3.imp (fun ⟨a, b, d, e⟩ => ⟨a, b, stepF_more hm d, e⟩) id⟩
theorem trace_more {ops : Array Oper} {mvs : List Nat} {m m' : List (Nat × V)} {d : Nat} {v : Option V} (hm : ∀ k v, lk m k = some v → lk m' k = some v) : ∀ (R : List (V × Bool)) (i : Nat) (L L1 : Nat → Option V), (∀ j (o : Oper), ops[j]? = some o → i ≤ j → j < i + R.length → d ∉ o.looksAt ops ∧ o.dst ≠ some d) →
    TraceL c ops mvs m i L R L1 → TraceL c ops mvs m' i (fun t => if t = d then v else L t) R (fun t => if t = d then v else L1 t)
  | [], i, L, L1, _, h => by
    have h : L1 = L := h
    subst h; rfl
  | x :: R, i, L, L1, hn, ⟨o, h1, h2, h3⟩ => by
    have hno := hn i o h1 (Nat.le_refl _) (by simp)
    have e : (fun t => if t = d then v else afterL L (memN i mvs) o x t) = afterL (fun t => if t = d then v else L t) (memN i mvs) o x := by
      funext t
      by_cases ht : t = d
      · subst ht
        rw [if_pos rfl, afterL_other hno.2 (fun h => by
          split at h
          · exact hno.1 (consO_looks h)
          · cases h), if_pos rfl]
      · rw [if_neg ht]
        unfold afterL
        have hcut : ∀ q : Option Nat, cutL (fun t => if t = d then v else L t) q t = cutL L q t := fun q => by
          cases q with
          | none => show (if t = d then v else L t) = L t; rw [if_neg ht]
          | some u => show (bif Nat.beq u t then none else (if t = d then v else L t)) = (bif Nat.beq u t then none else L t); rw [if_neg ht]
        simp only [updL, hcut]
    refine ⟨o, h1, Gives.congr (fun t ht => ?_) (h2.more hm), ?_⟩
    · have : t ≠ d := fun e => by subst e; exact hno.1 ht
      rw [if_neg this]
    · rw [← e]
      exact trace_more hm R (i + 1) _ L1 (fun j o ho hij hj => hn j o ho (by omega) (by simp; omega)) h3
theorem alOk_spec {ops : Array Oper} {mvs : List Nat} {n : Nat} {o : Oper} (h : alOk ops mvs n o = true) : ∃ T d, o.op = .alloc T ∧ o.dst = some d ∧ o.guard = none ∧ ∀ j, j < n → dstAt ops j ≠ some d ∧ memN j mvs = false ∧ ∀ p, ops[j]? = some p → d ∉ p.looksAt ops := by
  unfold alOk at h
  split at h
  · rename_i T d h1 h2 h3
    simp only [List.all_eq_true, List.mem_range, Bool.and_eq_true, bne_iff_ne, ne_eq, Bool.not_eq_true'] at h
    refine ⟨T, d, h1, h2, h3, fun j hj => ⟨(h j hj).1.1, (h j hj).1.2, fun p hp => ?_⟩⟩
    have := (h j hj).2
    rw [hp] at this
    simpa using this
  · cases h
theorem consO_false {o : Oper} : consO false o = none := by
  have hh : ∀ l : List Operand, headT false l = none := by
    intro l
    cases l with
    | nil => rfl
    | cons x r => cases x <;> rfl
  unfold consO
  split <;> first | exact hh _ | rfl
theorem alNo_spec {ops : Array Oper} {n d : Nat} {T : TypeId} {env : List (Nat × V)} {o : Oper} (h : alNo ops n env = true) (ho : ops[n]? = some o) (h1 : o.op = .alloc T) (h2 : o.dst = some d) : noRef d env = true := by
  obtain ⟨dst, op, ty, pos, after, guard⟩ := o
  simp only at h1 h2; subst h1; subst h2
  unfold alNo at h
  rw [ho] at h; exact h
/-- The head, whose order is free, and the tail. -/
theorem head_sound {α : Type} {ops : Array Oper} {mvs lns : List Nat} {K : St → Option α} {res : α} {n N : Nat} {ds : List Deferred} {s1 : St} {R : List (V × Bool)} (hT : TT P c) (hC : ∀ f e, lkN c.fns f = some e → CallOK P f e) (hdst : ∀ o ∈ ops.toList, ∀ t, o.dst = some t → t < N) (hok : okFree ops mvs n = true)
    (hQ : ∀ a' w' G' s', RS X G0 w0 G' s' a'.tmps w' → a'.tmps.size = N → a'.defers = ds → K s' = some res → Q .normal a' w') (hno : alNo ops n s.env = true)
    (hlen : R.length = n) (htr : TraceL c ops mvs s.mem 0 (lk s.env) R (lk s1.env)) (hm : s1.mem = s.mem) (hd1 : noDup s1.env = true) (hnl1 : noLent s1.env = true) (hrun : runOps c ops mvs lns n (ops.toList.drop n) s1 K = some res) :
    ∀ (fuel : Nat) (listed : Array Bool) (a : Act) (w : World) (G : Gh) (E : List (Nat × V)), unl listed ≤ fuel → Head X G0 w0 ops mvs n N ds s R false listed a w G E → wpAny P .any ops Q fuel listed a w := by
  obtain ⟨hn, hA, hF, hB⟩ := okFree_spec hok
  refine head_core (al := false) (n2 := n) (by simp) hT hC hdst hok hQ hlen htr hm hd1 hrun fun _ o ho hao fuel listed a w G E hu hh hi => ?_
  obtain ⟨T, d, ho1, ho2, ho3, hdj⟩ := alOk_spec hao
  have hns := alNo_spec hno ho ho1 ho2
  have hlt := (Array.getElem?_eq_some_iff.1 ho).1
  have hdr : ops.toList.drop n = o :: ops.toList.drop (n + 1) := by
    rw [List.drop_eq_getElem_cons (by simpa using hlt)]
    congr 1
    have := (Array.getElem?_eq_some_iff.1 ho).2
    simpa using this
  rw [hdr] at hrun
  simp only [runOps, ho3] at hrun
  -- what the text's order says of it
  obtain ⟨z, hz, hrun⟩ : ∃ z, c.zero T = some z ∧ (bif Nat.blt d 1000000 && (lk s1.mem d).isNone && noRef d s1.env && noRef d s1.mem then runOps c ops mvs lns (n + 1) (ops.toList.drop (n + 1)) ({ s1 with mem := (d, z) :: s1.mem }.set d (.ref d [])) K else none) = some res := by
    unfold stepO at hrun
    rw [ho1] at hrun
    simp only [ho2, Option.bind_eq_some_iff] at hrun
    obtain ⟨z, hz, hrun⟩ := hrun
    exact ⟨z, hz, hrun⟩
  obtain ⟨hchk, hrun⟩ := cond_then hrun
  have hchk' := hchk
  simp only [Bool.and_eq_true, Option.isNone_iff_eq_none] at hchk'
  obtain ⟨⟨⟨c1, c2⟩, c3⟩, c4⟩ := hchk'
  have mvn : ∀ j, j < n → ∀ t, consR ops mvs 0 R j ≠ some t := fun j hj t h => by
    obtain ⟨p, hp, hc⟩ := consR_spec h
    rw [(hdj j hj).2.1, consO_false] at hc; cases hc
  have uniq : ∀ j t, j < n → dstAt ops j = some t → ∀ j', j' < n → j' ≠ j → dstAt ops j' ≠ some t := by
    intro j t hj ht j' hj' hne h
    have hlt : j' < ops.size := by omega
    have := ((hF j' ops[j'] (Array.getElem?_eq_getElem hlt) hj' j hj hne).1 t ht).2
    simp [dstAt, Array.getElem?_eq_getElem hlt] at h
    exact this h
  obtain ⟨te1, te2, te3⟩ := trace_end R 0 _ _ htr
  -- nobody leads to it
  have nref : noRef d (nub E) = true := noRef_of _ fun k v hk => by
    have hkv := lk_noDup _ k v (noDup_nub E) hk
    rw [lk_nub] at hkv
    by_cases hj : ∃ j, j < n ∧ listed.getD j true = true ∧ dstAt ops j = some k
    · obtain ⟨j, hj, hl, hd⟩ := hj
      have hjR : j < R.length := by omega
      have e1 := hh.new j k R[j] hj hd hl (fun i' hi' _ _ => mvn i' hi' k) (List.getElem?_eq_getElem hjR)
      have e2 := te2 j k R[j] hjR (by rw [Nat.zero_add]; exact hd) (fun j' hj' hne => by rw [Nat.zero_add]; exact ⟨uniq j k hj hd j' (by omega) hne, mvn j' (by omega) k⟩) (List.getElem?_eq_getElem hjR)
      rw [hkv] at e1
      rw [← e1] at e2
      exact noRef_mem c3 e2
    · have e1 := hh.old k fun j hj2 hl => ⟨fun h => hj ⟨j, hj2, hl, h⟩, mvn j hj2 k⟩
      rw [hkv] at e1
      exact noRef_mem hns e1.symm
  have hR2 : RS X G0 w0 G ⟨nub E, s.mem⟩ a.tmps w := hh.rs.same hh.nol (noDup_nub E) (by funext t; exact lk_nub E t)
  have hnlE : noLent (nub E) = true := by
    have : ∀ E : List (Nat × V), noLent E = true → noLent (nub E) = true := by
      intro E
      induction E with
      | nil => intro _; rfl
      | cons q E ih =>
        obtain ⟨k, v⟩ := q
        intro h
        have h' := h
        simp only [noLent, Bool.and_eq_true] at h'
        show noLent ((k, v) :: rm (nub E) k) = true
        simp only [noLent, Bool.and_eq_true]
        exact ⟨h'.1, noLent_rm _ k (ih h'.2)⟩
    exact this E hh.nol
  have hstep : stepO c false false o ⟨nub E, s.mem⟩ some = some ({ (⟨nub E, s.mem⟩ : St) with mem := (d, z) :: s.mem }.set d (.ref d [])) := by
    unfold stepO
    rw [ho1]
    simp only [ho2, hz, Option.bind_some]
    have : (Nat.blt d 1000000 && (lk s.mem d).isNone && noRef d (nub E) && noRef d s.mem) = true := by
      simp only [Bool.and_eq_true, Option.isNone_iff_eq_none]
      rw [hm] at c2 c4
      exact ⟨⟨⟨c1, c2⟩, nref⟩, c4⟩
    rw [this]; rfl
  have hmem : o ∈ ops.toList := by rw [← Array.getElem?_toList] at ho; exact List.mem_of_getElem? ho
  unfold wpOp
  simp only [ho]
  rw [if_pos (by simp [Region.wanted, ho3])]
  refine .inl (Oper.wp_mono (fun a' w' hN => ?_) (stepO_sound (Q := Q) hT hC hR2 hstep (fun t ht => by rw [hh.size]; exact hdst o hmem t ht)))
  obtain ⟨G', s', g1, g2, g3, g4⟩ := hN
  injection g4 with g4; subst g4
  -- from here on it is there
  have hne : ∀ t, dstAt ops n = some t ↔ t = d := fun t => by
    have : dstAt ops n = some d := by simp [dstAt, ho, ho2]
    rw [this]; exact ⟨fun h => (Option.some.inj h).symm, fun h => by rw [h]⟩
  have hmore : ∀ k v, lk s.mem k = some v → lk ((d, z) :: s.mem) k = some v := fun k v hk => by
    rw [lk_cons]
    have : d ≠ k := fun e => by subst e; rw [hm] at c2; rw [c2] at hk; cases hk
    rw [if_neg this]; exact hk
  have htr' := trace_more (d := d) (v := some (.ref d [])) hmore R 0 (lk s.env) (lk s1.env) (fun j p hp _ hj => by
    have hjn : j < n := by omega
    refine ⟨(hdj j hjn).2.2 p hp, fun h => (hdj j hjn).1 ?_⟩
    simp [dstAt, hp, h]) htr
  have e1 : (fun t => if t = d then some (V.ref d []) else lk s.env t) = lk ((d, .ref d []) :: s.env) := by
    funext t; rw [lk_cons]
    by_cases h : t = d
    · rw [if_pos h, if_pos h.symm]
    · rw [if_neg h, if_neg (fun e => h e.symm)]
  have e2 : (fun t => if t = d then some (V.ref d []) else lk s1.env t) = lk ((d, .ref d []) :: rmW s1.env d) := by
    rw [lk_set hnl1]
    funext t
    simp only [updL, Option.some.injEq]
    by_cases h : t = d
    · rw [if_pos h, if_pos h.symm]
    · rw [if_neg h, if_neg (fun e => h e.symm)]
  rw [e1, e2] at htr'
  have hset : ∀ t, lk ((d, V.ref d []) :: rmW (nub E) d) t = if t = d then some (V.ref d []) else lk E t := fun t => by
    rw [lk_set hnlE]
    simp only [updL, Option.some.injEq]
    by_cases h : t = d
    · rw [if_pos h, if_pos h.symm]
    · rw [if_neg h, if_neg (fun e => h e.symm), lk_nub]
  have hset2 : (listed.setIfInBounds n true).getD n true = true := by simp [Array.getD, hh.lsz, hlt]
  have h0 := (mem_ready.1 hi).1
  have hmono : ∀ j, listed.getD j true = true → (listed.setIfInBounds n true).getD j true = true := fun j hj => by
    by_cases e : n = j
    · subst e; exact hset2
    · rw [getD_set_ne true e]; exact hj
  refine head_core (al := true) (n2 := n + 1) (s := ⟨(d, .ref d []) :: s.env, (d, z) :: s.mem⟩) (s1 := { s1 with mem := (d, z) :: s1.mem }.set d (.ref d [])) (R := R) (by simp) hT hC hdst hok hQ hlen htr' (by show (d, z) :: s1.mem = _; rw [hm]) ?_ hrun (fun h => by cases h) fuel _ a' w' G' ((d, .ref d []) :: rmW (nub E) d) (by have := unl_set h0; omega)
    ⟨g1, noLent_set hnlE rfl, g2.trans hh.size, g3.trans hh.defs, by simp [hh.lsz], fun j hj hj' => ?_, fun j p hp hl i' hi' hon => ?_, fun t ht => ?_, fun j t y hj hd hl hu hy => ?_, fun j t hj hl hc hd => absurd hc (mvn j hj t)⟩
  · show noDup ((d, .ref d []) :: rmW s1.env d) = true
    rw [rmW_noLent _ _ hnl1]
    exact noDup_cons (fun h => (keys_rm d _ d h).2 rfl) (noDup_rm d _ hd1)
  · by_cases e : n = j
    · subst e; rw [hset2]; simp
    · rw [getD_set_ne true e, hh.late j hj hj']
      have : Nat.beq j n = false := by cases hb : Nat.beq j n with
        | false => rfl
        | true => exact absurd (beq_nat.1 hb).symm e
      rw [this]; rfl
  · by_cases e : n = j
    · subst e
      rw [ho] at hp; injection hp with hp; subst hp
      obtain ⟨_, o', ho', hall⟩ := mem_ready.1 hi
      rw [ho] at ho'; injection ho' with ho'; subst ho'
      have := onB_listed hon hall
      rw [getD_two (by have := hh.lsz; omega) false true] at this
      exact hmono i' this
    · rw [getD_set_ne true e] at hl
      exact hmono i' (hh.closed j p hp hl i' hi' hon)
  · rw [hset, lk_cons]
    by_cases h : t = d
    · rw [if_pos h, if_pos h.symm]
    · rw [if_neg h, if_neg (fun e => h e.symm)]
      exact hh.old t fun j hj hl => ht j hj (hmono j hl)
  · have htd : t ≠ d := fun e => by subst e; exact (hdj j hj).1 hd
    rw [hset, if_neg htd]
    rw [getD_set_ne true (by omega)] at hl
    exact hh.new j t y hj hd hl (fun i' hi' _ _ => mvn i' hi' t) hy
end Go.Proofs.Ytennedlpmacicaa.Pal
