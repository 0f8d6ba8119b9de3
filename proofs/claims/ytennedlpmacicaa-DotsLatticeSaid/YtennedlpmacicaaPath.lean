/- Parts of values: read, written; data out of values. -/
import Derived.Test.YtennedlpmacicaaState
namespace Go.Proofs.Ytennedlpmacicaa.Pal
open Go
variable {G : Gh} {w : World}

theorem beq_nat {a b : Nat} : Nat.beq a b = true ↔ a = b := ⟨Nat.eq_of_beq_eq_true, fun h => by subst h; simp⟩
theorem All2.at_ {α : Type} {R : α → List Value → Prop} {sz : Nat} (z : α) (hR : ∀ x c, R x c → c.length = sz) : ∀ (xs : List α) (cs : List Value) (i : Nat), All2 R xs cs → i < xs.length →
    ∃ c1 c c2, cs = c1 ++ (c ++ c2) ∧ c1.length = i * sz ∧ R (xs.getD i z) c ∧ ∀ y c', R y c' → All2 R (xs.set i y) (c1 ++ (c' ++ c2))
  | [], _, _, _, h => by simp at h
  | x :: xs, cs, 0, ⟨c1, c2, e, h1, h2⟩, _ => ⟨[], c1, c2, by simpa using e, by simp, by simpa using h1, fun y c' hy => by simp only [List.set_cons_zero]; exact ⟨c', c2, by simp, hy, h2⟩⟩
  | x :: xs, cs, i + 1, ⟨c1, c2, e, h1, h2⟩, hlt => by
    obtain ⟨d1, d, d2, e2, hl, hr, hs⟩ := All2.at_ z hR xs c2 i h2 (by simpa using hlt)
    refine ⟨c1 ++ d1, d, d2, by rw [e, e2, List.append_assoc], by rw [List.length_append, hR _ _ h1, hl, Nat.add_mul]; omega, by simpa using hr, fun y c' hy => ?_⟩
    simp only [List.set_cons_succ]
    exact ⟨c1, d1 ++ (c' ++ d2), by simp [List.append_assoc], h1, hs y c' hy⟩
theorem mkPr_cells (a b : V) : (mkPr a b).cells = a.cells + b.cells := by unfold mkPr; split <;> rfl
theorem get_rep : ∀ (p : List Step) (v u : V) (cs : List Value) (ts : List Nat), VRep G w v cs ts → v.get p = some u → pathOk p →
    ∃ c1 cu c2 tu, cs = c1 ++ (cu ++ c2) ∧ c1.length = offs p ∧ (∀ g, cnt g tu ≤ cnt g ts) ∧ VRep G w u cu tu
  | [], v, u, cs, ts, h, hg, _ => by
    simp only [V.get, Option.some.injEq] at hg; subst hg
    exact ⟨[], cs, [], ts, by simp, rfl, fun _ => Nat.le_refl _, h⟩
  | .l :: p, v, u, cs, ts, h, hg, hp => by
    cases v with
    | pr a b =>
      simp only [V.get] at hg
      obtain ⟨c1, c2, t1, t2, e1, e2, h1, h2⟩ := h
      obtain ⟨d1, du, d2, tu, e3, hl, hc, hu⟩ := get_rep p a u c1 t1 h1 hg hp
      exact ⟨d1, du, d2 ++ c2, tu, by simp [e1, e3], hl, fun g => by have := hc g; simp [e2]; omega, hu⟩
    | dat τ x =>
      cases τ with
      | pair a b =>
        simp only [V.get] at hg
        obtain ⟨⟨c1, c2, e1, h1, h2⟩, rfl⟩ := h
        obtain ⟨d1, du, d2, tu, e3, hl, hc, hu⟩ := get_rep p (.dat a x.1) u c1 [] ⟨h1, rfl⟩ hg hp
        exact ⟨d1, du, d2 ++ c2, tu, by simp [e1, e3], hl, hc, hu⟩
      | _ => simp [V.get] at hg
    | _ => simp [V.get] at hg
  | .r o :: p, v, u, cs, ts, h, hg, hp => by
    cases v with
    | pr a b =>
      simp only [V.get] at hg
      obtain ⟨c1, c2, t1, t2, e1, e2, h1, h2⟩ := h
      cases ho : Nat.beq a.cells o with
      | false => simp [ho] at hg
      | true =>
        simp only [ho, cond_true] at hg
        obtain ⟨d1, du, d2, tu, e3, hl, hc, hu⟩ := get_rep p b u c2 t2 h2 hg hp
        refine ⟨c1 ++ d1, du, d2, tu, by simp [e1, e3], ?_, fun g => by have := hc g; simp [e2]; omega, hu⟩
        rw [List.length_append, VRep.length a c1 t1 h1, hl, beq_nat.1 ho]; rfl
    | dat τ x =>
      cases τ with
      | pair a b =>
        simp only [V.get] at hg
        obtain ⟨⟨c1, c2, e1, h1, h2⟩, rfl⟩ := h
        cases ho : Nat.beq a.cells o with
        | false => simp [ho] at hg
        | true =>
          simp only [ho, cond_true] at hg
          obtain ⟨d1, du, d2, tu, e3, hl, hc, hu⟩ := get_rep p (.dat b x.2) u c2 [] ⟨h2, rfl⟩ hg hp
          refine ⟨c1 ++ d1, du, d2, tu, by simp [e1, e3], ?_, hc, hu⟩
          rw [List.length_append, DRep.length a _ c1 h1, hl, beq_nat.1 ho]; rfl
      | _ => simp [V.get] at hg
    | _ => simp [V.get] at hg
  | .ix n sz i :: p, v, u, cs, ts, h, hg, hp => by
    cases v with
    | dat τ x =>
      cases τ with
      | arr m e =>
        simp only [V.get] at hg
        obtain ⟨⟨hl, h2⟩, rfl⟩ := h
        cases ho : Nat.beq m n && Nat.beq e.cells sz with
        | false => simp [ho] at hg
        | true =>
          simp only [ho, cond_true] at hg
          simp only [Bool.and_eq_true] at ho
          have hm := beq_nat.1 ho.1
          have hs := beq_nat.1 ho.2
          obtain ⟨c1, c, c2, e1, hl1, hr, _⟩ := All2.at_ e.zero (fun x c => DRep.length e x c) x cs i h2 (by rw [hl, hm]; exact hp.1)
          obtain ⟨d1, du, d2, tu, e3, hl3, hc, hu⟩ := get_rep p (.dat e (rd e x i)) u c [] ⟨hr, rfl⟩ hg hp.2
          refine ⟨c1 ++ d1, du, d2 ++ c2, tu, by simp [e1, e3], ?_, hc, hu⟩
          rw [List.length_append, hl1, hl3, hs]; rfl
      | _ => simp [V.get] at hg
    | _ => simp [V.get] at hg
theorem as_rep (τ : Ty) : ∀ (v : V) (x : τ.D) (cs : List Value) (ts : List Nat), V.as τ v = some x → VRep G w v cs ts → DRep G.I τ x cs := by
  intro v
  induction v generalizing τ with
  | dat τ' y =>
    intro x cs ts h hv
    simp only [V.as] at h
    split at h
    · rename_i e; subst e; injection h with h; subst h; exact hv.1
    · cases h
  | own e ys =>
    intro x cs ts h hv
    simp only [V.as] at h
    split at h
    · rename_i e; subst e; injection h with h; subst h; exact OwnRep.dat hv
    · cases h
  | pr a b iha ihb =>
    intro x cs ts h hv
    cases τ with
    | pair ta tb =>
      simp only [V.as, Option.bind_eq_some_iff] at h
      obtain ⟨x1, h1, x2, h2, e⟩ := h
      injection e with e; subst e
      obtain ⟨c1, c2, t1, t2, e1, _, g1, g2⟩ := hv
      exact ⟨c1, c2, e1, iha ta x1 c1 t1 h1 g1, ihb tb x2 c2 t2 h2 g2⟩
    | _ => simp [V.as] at h
  | _ => intro x cs ts h; simp [V.as] at h
theorem as_cells (τ : Ty) : ∀ (v : V) (x : τ.D), V.as τ v = some x → v.cells = τ.cells ∧ v.agg = τ.agg := by
  intro v
  induction v generalizing τ with
  | dat τ' y =>
    intro x h
    simp only [V.as] at h
    split at h
    · rename_i e; subst e; exact ⟨rfl, rfl⟩
    · cases h
  | own e ys =>
    intro x h
    simp only [V.as] at h
    split at h
    · rename_i e; subst e; exact ⟨rfl, rfl⟩
    · cases h
  | pr a b iha ihb =>
    intro x h
    cases τ with
    | pair ta tb =>
      simp only [V.as, Option.bind_eq_some_iff] at h
      obtain ⟨x1, h1, x2, h2, e⟩ := h
      exact ⟨by show a.cells + b.cells = ta.cells + tb.cells; rw [(iha ta x1 h1).1, (ihb tb x2 h2).1], rfl⟩
    | _ => simp [V.as] at h
  | _ => intro x h; simp [V.as] at h
theorem put_rep : ∀ (p : List Step) (v u v' : V) (cs cu : List Value) (ts tu : List Nat), VRep G w v cs ts → VRep G w u cu tu → V.put p v u = some v' → pathOk p →
    v'.cells = v.cells ∧ v'.agg = v.agg ∧ ∃ c1 c0 c2 t', cs = c1 ++ (c0 ++ c2) ∧ c1.length = offs p ∧ c0.length = cu.length ∧ (∀ g, cnt g t' ≤ cnt g ts + cnt g tu) ∧ VRep G w v' (c1 ++ (cu ++ c2)) t'
  | [], v, u, v', cs, cu, ts, tu, h, hu, hg, _ => by
    simp only [V.put] at hg
    cases ho : Nat.beq v.cells u.cells && (v.agg == u.agg) with
    | false => simp [ho] at hg
    | true =>
      simp only [ho, cond_true, Option.some.injEq] at hg; subst hg
      simp only [Bool.and_eq_true, beq_iff_eq] at ho
      refine ⟨(beq_nat.1 ho.1).symm, ho.2.symm, [], cs, [], tu, by simp, rfl, ?_, fun g => by omega, by simpa using hu⟩
      rw [VRep.length v cs ts h, VRep.length u cu tu hu, beq_nat.1 ho.1]
  | .l :: p, v, u, v', cs, cu, ts, tu, h, hu, hg, hp => by
    cases v with
    | pr a b =>
      simp only [V.put, Option.map_eq_some_iff] at hg
      obtain ⟨a', ha, rfl⟩ := hg
      obtain ⟨c1, c2, t1, t2, e1, e2, h1, h2⟩ := h
      obtain ⟨hc, hag, d1, d0, d2, t', e3, hl, hl0, hcn, hv⟩ := put_rep p a u a' c1 cu t1 tu h1 hu ha hp
      refine ⟨by rw [mkPr_cells, hc]; rfl, by rw [mkPr_agg]; rfl, d1, d0, d2 ++ c2, t' ++ t2, by simp [e1, e3], hl, hl0, fun g => by have := hcn g; simp [e2]; omega, ?_⟩
      have := mkPr_rep hv h2
      simpa [List.append_assoc] using this
    | dat τ x =>
      cases τ with
      | pair a b =>
        simp only [V.put, Option.map_eq_some_iff] at hg
        obtain ⟨a', ha, rfl⟩ := hg
        obtain ⟨⟨c1, c2, e1, h1, h2⟩, rfl⟩ := h
        obtain ⟨hc, hag, d1, d0, d2, t', e3, hl, hl0, hcn, hv⟩ := put_rep p (.dat a x.1) u a' c1 cu [] tu ⟨h1, rfl⟩ hu ha hp
        refine ⟨by rw [mkPr_cells, hc]; rfl, by rw [mkPr_agg]; rfl, d1, d0, d2 ++ c2, t' ++ [], by simp [e1, e3], hl, hl0, fun g => by have := hcn g; simp at this ⊢; omega, ?_⟩
        have := mkPr_rep hv (show VRep G w (.dat b x.2) c2 [] from ⟨h2, rfl⟩)
        simpa [List.append_assoc] using this
      | _ => simp [V.put] at hg
    | _ => simp [V.put] at hg
  | .r o :: p, v, u, v', cs, cu, ts, tu, h, hu, hg, hp => by
    cases v with
    | pr a b =>
      simp only [V.put] at hg
      cases ho : Nat.beq a.cells o with
      | false => simp [ho] at hg
      | true =>
        simp only [ho, cond_true, Option.map_eq_some_iff] at hg
        obtain ⟨b', hb, rfl⟩ := hg
        obtain ⟨c1, c2, t1, t2, e1, e2, h1, h2⟩ := h
        obtain ⟨hc, hag, d1, d0, d2, t', e3, hl, hl0, hcn, hv⟩ := put_rep p b u b' c2 cu t2 tu h2 hu hb hp
        refine ⟨by rw [mkPr_cells, hc]; rfl, by rw [mkPr_agg]; rfl, c1 ++ d1, d0, d2, t1 ++ t', by simp [e1, e3], ?_, hl0, fun g => by have := hcn g; simp [e2]; omega, ?_⟩
        · rw [List.length_append, VRep.length a c1 t1 h1, hl, beq_nat.1 ho]; rfl
        · have := mkPr_rep h1 hv
          simpa [List.append_assoc] using this
    | dat τ x =>
      cases τ with
      | pair a b =>
        simp only [V.put] at hg
        cases ho : Nat.beq a.cells o with
        | false => simp [ho] at hg
        | true =>
          simp only [ho, cond_true, Option.map_eq_some_iff] at hg
          obtain ⟨b', hb, rfl⟩ := hg
          obtain ⟨⟨c1, c2, e1, h1, h2⟩, rfl⟩ := h
          obtain ⟨hc, hag, d1, d0, d2, t', e3, hl, hl0, hcn, hv⟩ := put_rep p (.dat b x.2) u b' c2 cu [] tu ⟨h2, rfl⟩ hu hb hp
          refine ⟨by rw [mkPr_cells, hc]; rfl, by rw [mkPr_agg]; rfl, c1 ++ d1, d0, d2, [] ++ t', by simp [e1, e3], ?_, hl0, fun g => by have := hcn g; simp at this ⊢; omega, ?_⟩
          · rw [List.length_append, DRep.length a _ c1 h1, hl, beq_nat.1 ho]; rfl
          · have := mkPr_rep (show VRep G w (.dat a x.1) c1 [] from ⟨h1, rfl⟩) hv
            simpa [List.append_assoc] using this
      | _ => simp [V.put] at hg
    | _ => simp [V.put] at hg
  | .ix n sz i :: p, v, u, v', cs, cu, ts, tu, h, hu, hg, hp => by
    cases v with
    | dat τ x =>
      cases τ with
      | arr m e =>
        simp only [V.put] at hg
        obtain ⟨⟨hl, h2⟩, rfl⟩ := h
        cases ho : Nat.beq m n && Nat.beq e.cells sz with
        | false => simp [ho] at hg
        | true =>
          simp only [ho, cond_true, Option.bind_eq_some_iff] at hg
          simp only [Bool.and_eq_true] at ho
          have hm := beq_nat.1 ho.1
          have hs := beq_nat.1 ho.2
          obtain ⟨v1, hv1, y, hy, he⟩ := hg
          injection he with he; subst he
          obtain ⟨c1, c, c2, e1, hl1, hr, hset⟩ := All2.at_ e.zero (fun x c => DRep.length e x c) x cs i h2 (by rw [hl, hm]; exact hp.1)
          obtain ⟨hc, hag, d1, d0, d2, t', e3, hl3, hl0, hcn, hv⟩ := put_rep p (.dat e (rd e x i)) u v1 c cu [] tu ⟨hr, rfl⟩ hu hv1 hp.2
          refine ⟨rfl, rfl, c1 ++ d1, d0, d2 ++ c2, [], by simp [e1, e3], ?_, hl0, fun g => by simp, ?_⟩
          · rw [List.length_append, hl1, hl3, hs]; rfl
          · have hd := as_rep e v1 y _ _ hy hv
            have := hset y _ hd
            refine ⟨⟨by simpa [upd] using hl, ?_⟩, rfl⟩
            simpa [List.append_assoc, upd] using this
      | _ => simp [V.put] at hg
    | _ => simp [V.put] at hg
end Go.Proofs.Ytennedlpmacicaa.Pal
