/- The abstract run's state, and the machine's: what is kept from operation to operation. -/
import Derived.Test.YtennedlpmacicaaRep
namespace Go.Proofs.Ytennedlpmacicaa.Pal
open Go

def keys {β : Type} (m : List (Nat × β)) : List Nat := m.map (·.1)
theorem MemRep.ev {Y : Nat → Nat → Prop} {G G' : Gh} {w w' : World} (hE : Ev Y G w G' w') : ∀ (mem : List (Nat × V)) (ts : List Nat), (∀ k ∈ allRefs mem, G'.ρ k = G.ρ k) → (∀ k ∈ keys mem, G'.ρ k = G.ρ k) →
    (∀ g ∈ ts, ∀ o, ¬ Y g o) → (∀ k ∈ keys mem, ∀ b o, G.O b o = some k → ¬ Y b o) → MemRep G w mem ts → MemRep G' w' mem ts
  | [], _, _, _, _, _, h => h
  | (k, v) :: r, ts, hr, hk, hY, hO, ⟨t1, t2, cs, e, h1, h2, h3, h4⟩ => by
    subst e
    have hl := VRep.length v cs t1 h1
    have hρ : G'.ρ k = G.ρ k := hk k (by simp [keys])
    refine ⟨t1, t2, cs, rfl, h1.ev hE v cs t1 (fun x hx => hr x (by simp [allRefs, hx])) (fun g hg => hY g (by simp [hg])), ?_, ?_,
      MemRep.ev hE r t2 (fun x hx => hr x (by simp [allRefs, hx])) (fun x hx => hk x (by simp [keys] at hx ⊢; exact .inr hx)) (fun g hg => hY g (by simp [hg])) (fun x hx => hO x (by simp [keys] at hx ⊢; exact .inr hx)) h4⟩
    · intro j v' hj
      rw [hρ]
      have hc := h2 j v' hj
      have hlt : j < v.cells := by rw [← hl]; exact (List.getElem?_eq_some_iff.1 hj).1
      rw [hE.evo.cell (World.block_lt_of_cell? w _ hc) (hO k (by simp [keys]) _ _ (h3 j hlt).1)]
      exact hc
    · intro j hj
      rw [hρ]
      have hc : ∃ u, cs[j]? = some u := ⟨_, List.getElem?_eq_getElem (by omega)⟩
      obtain ⟨u, hu⟩ := hc
      have hb := World.block_lt_of_cell? w _ (h2 j u hu)
      exact ⟨(hE.own _ _ hb).trans (h3 j hj).1, (hE.evo.frozen hb).trans (h3 j hj).2⟩

structure Wf (G : Gh) (w : World) : Prop where
  holds : ∀ b o v, G.I b o = some v → w.cell? ⟨b, o, none⟩ = some v
  io : ∀ b o v, G.I b o = some v → G.O b o = none
  lt : ∀ b o k, G.O b o = some k → b < w.heap.size
structure Base (X : Nat → Nat → Prop) (G0 : Gh) (w0 : World) (G : Gh) (w : World) : Prop where
  ev : Ev X G0 w0 G w
  wf : Wf G w
  par : ∀ j, G.ρ (1000000 + j) = G0.ρ (1000000 + j)
  xo : ∀ b o k, b < w0.heap.size → G.O b o = some k → X b o
def cnt (g : Nat) (l : List Nat) : Nat := l.count g
@[simp] theorem cnt_nil (g : Nat) : cnt g [] = 0 := rfl
@[simp] theorem cnt_append (g : Nat) (a b : List Nat) : cnt g (a ++ b) = cnt g a + cnt g b := by simp [cnt]
theorem cnt_pos {g : Nat} {l : List Nat} : g ∈ l ↔ 0 < cnt g l := by simp [cnt, List.count_pos_iff]
/-- The state, and a value beside it. -/
def RSv (X : Nat → Nat → Prop) (G0 : Gh) (w0 : World) (G : Gh) (s : St) (tmps : Array Value) (w : World) (v : V) (x : Value) : Prop :=
  Base X G0 w0 G w ∧ ∃ tE tM tV, EnvRep G w tmps s.env tE ∧ MemRep G w s.mem tM ∧ TRep G w v x tV ∧ (∀ g, cnt g tE + cnt g tM + cnt g tV ≤ 1) ∧
    ∀ g, 0 < cnt g tE + cnt g tM + cnt g tV → w0.heap.size ≤ g ∨ ∀ o, X g o
def RS (X : Nat → Nat → Prop) (G0 : Gh) (w0 : World) (G : Gh) (s : St) (tmps : Array Value) (w : World) : Prop :=
  Base X G0 w0 G w ∧ ∃ tE tM, EnvRep G w tmps s.env tE ∧ MemRep G w s.mem tM ∧ (∀ g, cnt g tE + cnt g tM ≤ 1) ∧
    ∀ g, 0 < cnt g tE + cnt g tM → w0.heap.size ≤ g ∨ ∀ o, X g o

/-! ### Entries are found, are struck -/
theorem lk_cons (k : Nat) (v : V) (r : List (Nat × V)) (t : Nat) : lk ((k, v) :: r) t = if k = t then some v else lk r t := by
  simp only [lk]
  by_cases h : k = t
  · subst h; simp
  · have : Nat.beq k t = false := by rw [Bool.eq_false_iff]; intro e; exact h (Nat.eq_of_beq_eq_true e)
    simp [h, this]
theorem rm_cons (k : Nat) (v : V) (r : List (Nat × V)) (t : Nat) : rm ((k, v) :: r) t = if k = t then rm r t else (k, v) :: rm r t := by
  simp only [rm]
  by_cases h : k = t
  · subst h; simp
  · have : Nat.beq k t = false := by rw [Bool.eq_false_iff]; intro e; exact h (Nat.eq_of_beq_eq_true e)
    simp [h, this]
def notLent : V → Prop
  | .lent _ => False
  | _ => True
theorem EnvRep.cons {G : Gh} {w : World} {tmps : Array Value} {t : Nat} {v : V} {r : List (Nat × V)} {ts : List Nat} (hn : notLent v) :
    EnvRep G w tmps ((t, v) :: r) ts ↔ ∃ t1 t2, ts = t1 ++ t2 ∧ TRep G w v (tmps.getD t undef) t1 ∧ EnvRep G w tmps r t2 := by
  cases v <;> first | exact Iff.rfl | exact hn.elim
theorem EnvRep.rm {G : Gh} {w : World} {tmps : Array Value} (t : Nat) : ∀ (env : List (Nat × V)) (ts : List Nat), EnvRep G w tmps env ts → ∃ t2, (∀ g, cnt g t2 ≤ cnt g ts) ∧ EnvRep G w tmps (rm env t) t2
  | [], ts, h => ⟨ts, fun _ => Nat.le_refl _, h⟩
  | (k, v) :: r, ts, h => by
    rw [rm_cons]
    cases v with
    | lent u =>
      obtain ⟨t2, a, b⟩ := EnvRep.rm t r ts h.2
      split
      · exact ⟨t2, a, b⟩
      · exact ⟨t2, a, h.1, b⟩
    | _ =>
      obtain ⟨s1, s2, rfl, h1, h2⟩ := h
      obtain ⟨t2, a, b⟩ := EnvRep.rm t r s2 h2
      split
      · exact ⟨t2, fun g => by have := a g; simp; omega, b⟩
      · exact ⟨s1 ++ t2, fun g => by have := a g; simp; omega, s1, t2, rfl, h1, b⟩
theorem EnvRep.find {G : Gh} {w : World} {tmps : Array Value} (t : Nat) : ∀ (env : List (Nat × V)) (ts : List Nat) (v : V), EnvRep G w tmps env ts → lk env t = some v → notLent v →
    ∃ t1 t2, (∀ g, cnt g t1 + cnt g t2 ≤ cnt g ts) ∧ TRep G w v (tmps.getD t undef) t1 ∧ EnvRep G w tmps (Pal.rm env t) t2
  | [], _, _, _, h, _ => by simp [lk] at h
  | (k, u) :: r, ts, v, h, hl, hn => by
    rw [lk_cons] at hl
    rw [rm_cons]
    by_cases e : k = t
    · rw [if_pos e] at hl ⊢
      injection hl with hl; subst hl; subst e
      obtain ⟨s1, s2, rfl, h1, h2⟩ := (EnvRep.cons hn).1 h
      obtain ⟨t2, a, b⟩ := EnvRep.rm k r s2 h2
      exact ⟨s1, t2, fun g => by have := a g; simp; omega, h1, b⟩
    · rw [if_neg e] at hl ⊢
      cases u with
      | lent x =>
        obtain ⟨t1, t2, a, b, c⟩ := EnvRep.find t r ts v h.2 hl hn
        exact ⟨t1, t2, a, b, h.1, c⟩
      | _ =>
        obtain ⟨s1, s2, rfl, h1, h2⟩ := h
        obtain ⟨t1, t2, a, b, c⟩ := EnvRep.find t r s2 v h2 hl hn
        exact ⟨t1, s1 ++ t2, fun g => by have := a g; simp; omega, b, s1, t2, rfl, h1, c⟩
theorem getD_set_same {a : Array Value} {d : Nat} {x : Value} (h : d < a.size) : (a.setIfInBounds d x).getD d undef = x := by
  simp [Array.getD, h]
theorem getD_set_other {a : Array Value} {d t : Nat} {x : Value} (h : d ≠ t) : (a.setIfInBounds d x).getD t undef = a.getD t undef := by
  simp only [Array.getD_eq_getD_getElem?, Array.getElem?_setIfInBounds, h, if_false]
/-- A temporary is written: what is known of the others stays. -/
theorem EnvRep.write {G : Gh} {w : World} {tmps : Array Value} (d : Nat) (x : Value) : ∀ (env : List (Nat × V)) (ts : List Nat), EnvRep G w tmps env ts →
    ∃ t2, (∀ g, cnt g t2 ≤ cnt g ts) ∧ EnvRep G w (tmps.setIfInBounds d x) (rmW env d) t2
  | [], ts, h => ⟨ts, fun _ => Nat.le_refl _, h⟩
  | (k, v) :: r, ts, h => by
    cases v with
    | lent u =>
      obtain ⟨t2, a, b⟩ := EnvRep.write d x r ts h.2
      simp only [rmW]
      by_cases e : k = d
      · subst e; simp; exact ⟨t2, a, b⟩
      · by_cases e' : u = d
        · subst e'; simp; exact ⟨t2, a, b⟩
        · have h1 : Nat.beq k d = false := by rw [Bool.eq_false_iff]; intro z; exact e (Nat.eq_of_beq_eq_true z)
          have h2 : Nat.beq u d = false := by rw [Bool.eq_false_iff]; intro z; exact e' (Nat.eq_of_beq_eq_true z)
          simp only [h1, h2, Bool.or_false, cond_false]
          refine ⟨t2, a, ?_, b⟩
          rw [getD_set_other (Ne.symm e), getD_set_other (Ne.symm e')]
          exact h.1
    | _ =>
      obtain ⟨s1, s2, rfl, h1, h2⟩ := h
      obtain ⟨t2, a, b⟩ := EnvRep.write d x r s2 h2
      simp only [rmW]
      by_cases e : k = d
      · subst e; simp; exact ⟨t2, fun g => by have := a g; omega, b⟩
      · have h3 : Nat.beq k d = false := by rw [Bool.eq_false_iff]; intro z; exact e (Nat.eq_of_beq_eq_true z)
        simp only [h3, Bool.or_false, cond_false]
        refine ⟨s1 ++ t2, fun g => by have := a g; simp; omega, s1, t2, rfl, ?_, b⟩
        rw [getD_set_other (Ne.symm e)]
        exact h1
theorem MemRep.rm {G : Gh} {w : World} (t : Nat) : ∀ (mem : List (Nat × V)) (ts : List Nat), MemRep G w mem ts → ∃ t2, (∀ g, cnt g t2 ≤ cnt g ts) ∧ MemRep G w (rm mem t) t2
  | [], ts, h => ⟨ts, fun _ => Nat.le_refl _, h⟩
  | (k, v) :: r, ts, ⟨s1, s2, cs, e, h1, h2, h3, h4⟩ => by
    rw [rm_cons]
    obtain ⟨t2, a, b⟩ := MemRep.rm t r s2 h4
    subst e
    split
    · exact ⟨t2, fun g => by have := a g; simp; omega, b⟩
    · exact ⟨s1 ++ t2, fun g => by have := a g; simp; omega, s1, t2, cs, rfl, h1, h2, h3, b⟩
theorem MemRep.find {G : Gh} {w : World} (t : Nat) : ∀ (mem : List (Nat × V)) (ts : List Nat) (v : V), MemRep G w mem ts → lk mem t = some v →
    ∃ t1 t2 cs, (∀ g, cnt g t1 + cnt g t2 ≤ cnt g ts) ∧ VRep G w v cs t1 ∧ CellsAt w (G.ρ t).1 (G.ρ t).2 cs ∧ OwnsAt G w t v.cells ∧ MemRep G w (Pal.rm mem t) t2
  | [], _, _, _, h => by simp [lk] at h
  | (k, u) :: r, ts, v, ⟨s1, s2, cs, e, h1, h2, h3, h4⟩, hl => by
    rw [lk_cons] at hl
    rw [rm_cons]
    subst e
    by_cases e : k = t
    · rw [if_pos e] at hl ⊢
      injection hl with hl; subst hl; subst e
      obtain ⟨t2, a, b⟩ := MemRep.rm k r s2 h4
      exact ⟨s1, t2, cs, fun g => by have := a g; simp; omega, h1, h2, h3, b⟩
    · rw [if_neg e] at hl ⊢
      obtain ⟨t1, t2, cs', a, b, c, d, f⟩ := MemRep.find t r s2 v h4 hl
      exact ⟨t1, s1 ++ t2, cs', fun g => by have := a g; simp; omega, b, c, d, s1, t2, cs, rfl, h1, h2, h3, f⟩
theorem keys_rm (t : Nat) : ∀ (m : List (Nat × V)), ∀ k ∈ keys (rm m t), k ∈ keys m ∧ k ≠ t
  | [], k, h => by simp [rm, keys] at h
  | (q, v) :: r, k, h => by
    rw [rm_cons] at h
    split at h
    · have := keys_rm t r k h
      exact ⟨by simp [keys] at this ⊢; exact .inr this.1, this.2⟩
    · rename_i hne
      simp only [keys, List.map_cons, List.mem_cons] at h ⊢
      rcases h with rfl | h
      · exact ⟨.inl rfl, hne⟩
      · have := keys_rm t r k h
        exact ⟨.inr this.1, this.2⟩

/-! ### A copy -/
theorem mkPr_rep {G : Gh} {w : World} {a b : V} {c1 c2 : List Value} {t1 t2 : List Nat} (h1 : VRep G w a c1 t1) (h2 : VRep G w b c2 t2) : VRep G w (mkPr a b) (c1 ++ c2) (t1 ++ t2) := by
  unfold mkPr
  split
  · obtain ⟨h1, rfl⟩ := h1
    obtain ⟨h2, rfl⟩ := h2
    exact ⟨⟨c1, c2, rfl, h1, h2⟩, rfl⟩
  · exact ⟨c1, c2, t1, t2, rfl, rfl, h1, h2⟩
theorem mkPr_agg (a b : V) : (mkPr a b).agg = true := by unfold mkPr; split <;> rfl
theorem copy_agg : ∀ v : V, v.copy.agg = v.agg
  | .pr a b => by show (mkPr a.copy b.copy).agg = _; rw [mkPr_agg]; rfl
  | .own _ _ => rfl
  | .dat _ _ => rfl
  | .ref _ _ => rfl
  | .nilp => rfl
  | .ip _ _ => rfl
  | .fn _ _ => rfl
  | .tup2 _ _ => rfl
  | .tup3 _ _ _ => rfl
  | .lent _ => rfl
  | .unit => rfl
  | .raw _ _ => rfl
  | .any => rfl
theorem OwnRep.dat {G : Gh} {w : World} {e : Ty} {xs : List e.D} {cs : List Value} {ts : List Nat} (h : OwnRep G w e xs cs ts) : DRep G.I (.slc e) xs cs := by
  obtain ⟨a, len, cap, h1, h2, h3, h4⟩ := h
  refine ⟨a, len, cap, h1, h2, h3.1, ?_⟩
  rcases h4 with ⟨hc, _⟩ | ⟨g, ha, _, hel, _⟩
  · exact .inl (List.length_eq_zero_iff.1 (by omega))
  · exact .inr ⟨g, 0, ha, hel⟩
theorem VRep.copy {G : Gh} {w : World} : ∀ (v : V) (cs : List Value) (ts : List Nat), VRep G w v cs ts → VRep G w v.copy cs []
  | .dat τ x, cs, ts, ⟨h, _⟩ => ⟨h, rfl⟩
  | .own e xs, cs, ts, h => ⟨OwnRep.dat h, rfl⟩
  | .pr a b, cs, ts, ⟨c1, c2, t1, t2, h1, h2, h3, h4⟩ => by subst h1; exact mkPr_rep (VRep.copy a _ _ h3) (VRep.copy b _ _ h4)
  | .ref k p, cs, ts, ⟨h1, h2, _⟩ => ⟨h1, h2, rfl⟩
  | .nilp, cs, ts, ⟨h, _⟩ => ⟨h, rfl⟩
  | .ip τ x, cs, ts, ⟨b, o, c, h1, h2, h3, _⟩ => ⟨b, o, c, h1, h2, h3, rfl⟩
  | .fn f caps, cs, ts, ⟨vs, h1, h2, _⟩ => ⟨vs, h1, h2, rfl⟩
  | .tup2 a b, cs, ts, ⟨va, vb, ca, cb, t1, t2, h1, h2, h3, h4, h5, h6⟩ => ⟨va, vb, ca, cb, [], [], h1, rfl, VRep.copy a _ _ h3, by rw [copy_agg]; exact h4, VRep.copy b _ _ h5, by rw [copy_agg]; exact h6⟩
  | .tup3 a b d, cs, ts, ⟨va, vb, vd, ca, cb, cd, t1, t2, t3, h1, h2, h3, h4, h5, h6, h7, h8⟩ =>
    ⟨va, vb, vd, ca, cb, cd, [], [], [], h1, rfl, VRep.copy a _ _ h3, by rw [copy_agg]; exact h4, VRep.copy b _ _ h5, by rw [copy_agg]; exact h6, VRep.copy d _ _ h7, by rw [copy_agg]; exact h8⟩
  | .lent _, _, _, h => h.elim
  | .unit, cs, ts, ⟨h, _⟩ => ⟨h, rfl⟩
  | .raw _ _, cs, ts, ⟨_, _, _, h, _⟩ => ⟨⟨_, h, rfl⟩, rfl⟩
  | .any, cs, ts, ⟨h, _⟩ => ⟨h, rfl⟩
theorem TRep.copy {G : Gh} {w : World} {v : V} {x : Value} {ts : List Nat} (h : TRep G w v x ts) : TRep G w v.copy x [] := by
  obtain ⟨cs, h1, h2⟩ := h
  exact ⟨cs, h1.copy v cs ts, by rw [copy_agg]; exact h2⟩
theorem copyO_some {v u : V} (h : v.copyO = some u) : notLent v ∧ u = v.copy := by
  cases v <;> simp [V.copyO] at h <;> first | exact ⟨trivial, h.symm⟩ | exact h.elim

/-! ### Operands -/
variable {X : Nat → Nat → Prop} {G0 G : Gh} {w0 w : World} {s : St} {a : Act}
theorem cV_rep {e : Option Ty} {x : Value} {v : V} (h : cV e x = some v) : TRep G w v x [] := by
  unfold cV at h
  split at h
  · injection h with h; subst h; exact ⟨_, ⟨rfl, rfl⟩, rfl⟩
  · injection h with h; subst h; exact ⟨_, ⟨rfl, rfl⟩, rfl⟩
  · injection h with h; subst h; exact ⟨_, ⟨rfl, rfl⟩, rfl⟩
  · injection h with h; subst h; exact ⟨_, ⟨rfl, rfl⟩, rfl⟩
  · split at h
    · injection h with h; subst h
      exact ⟨_, ⟨none, 0, 0, rfl, rfl, by omega, .inl ⟨rfl, rfl⟩⟩, rfl⟩
    · cases h
  · cases h
theorem opd_rep {e : Option Ty} {x : Operand} {v : V} (hR : RS X G0 w0 G s a.tmps w) (h : opd e s x = some v) : TRep G w v (a.eval x) [] := by
  obtain ⟨_, tE, tM, hE, _⟩ := hR
  cases x with
  | tmp t =>
    simp only [opd, Option.bind_eq_some_iff] at h
    obtain ⟨u, hu, hc⟩ := h
    obtain ⟨hn, rfl⟩ := copyO_some hc
    obtain ⟨t1, t2, _, hT, _⟩ := EnvRep.find t s.env tE u hE hu hn
    exact hT.copy
  | const y => exact cV_rep h
  | func f =>
    simp only [opd, Option.some.injEq] at h; subst h
    exact ⟨_, ⟨#[], rfl, rfl, rfl⟩, rfl⟩
  | global g => simp [opd] at h
theorem RS.withV {v : V} {x : Value} (hR : RS X G0 w0 G s a.tmps w) (h : TRep G w v x []) : RSv X G0 w0 G s a.tmps w v x := by
  obtain ⟨hB, tE, tM, h1, h2, h3, h4⟩ := hR
  exact ⟨hB, tE, tM, [], h1, h2, h, by simpa using h3, by simpa using h4⟩
theorem tak_rep {mv : Bool} {e : Option Ty} {x : Operand} {v : V} {s' : St} (hR : RS X G0 w0 G s a.tmps w) (h : tak mv e s x = some (v, s')) : RSv X G0 w0 G s' a.tmps w v (a.eval x) := by
  cases x with
  | tmp t =>
    cases mv with
    | true =>
      simp only [tak, cond_true, Option.bind_eq_some_iff, Option.map_eq_some_iff] at h
      obtain ⟨u, hu, c, hc, he⟩ := h
      obtain ⟨hn, rfl⟩ := copyO_some hc
      injection he with h1 h2; subst h1; subst h2
      obtain ⟨hB, tE, tM, hE, hM, h3, h4⟩ := hR
      obtain ⟨t1, t2, hcnt, hT, hE2⟩ := EnvRep.find t s.env tE u hE hu hn
      exact ⟨hB, t2, tM, t1, hE2, hM, hT, fun g => by have := hcnt g; have := h3 g; omega, fun g hg => h4 g (by have := hcnt g; omega)⟩
    | false =>
      simp only [tak, cond_false, Option.map_eq_some_iff] at h
      obtain ⟨u, hu, he⟩ := h
      injection he with h1 h2; subst h1; subst h2
      exact hR.withV (opd_rep (e := none) hR hu)
  | const y =>
    simp only [tak, Option.map_eq_some_iff] at h
    obtain ⟨u, hu, he⟩ := h
    injection he with h1 h2; subst h1; subst h2
    exact hR.withV (cV_rep hu)
  | func f =>
    simp only [tak, Option.some.injEq, Prod.mk.injEq] at h
    obtain ⟨rfl, rfl⟩ := h
    exact hR.withV ⟨_, ⟨#[], rfl, rfl, rfl⟩, rfl⟩
  | global g => simp [tak] at h
/-- A result is laid into its temporary. -/
theorem RSv.put {v : V} {x : Value} {d : Option Nat} (hv : notLent v) (hd : ∀ t, d = some t → t < a.tmps.size) (h : RSv X G0 w0 G s a.tmps w v x) : RS X G0 w0 G (s.dst d v) (a.put d x).tmps w := by
  obtain ⟨hB, tE, tM, tV, h1, h2, h3, h4, h5⟩ := h
  cases d with
  | none => exact ⟨hB, tE, tM, h1, h2, fun g => by have := h4 g; omega, fun g hg => h5 g (by omega)⟩
  | some t =>
    obtain ⟨t2, hc, hE⟩ := EnvRep.write t x s.env tE h1
    refine ⟨hB, tV ++ t2, tM, ?_, h2, fun g => by have := h4 g; have := hc g; simp; omega, fun g hg => h5 g (by have := hc g; simp at hg; omega)⟩
    refine (EnvRep.cons hv).2 ⟨tV, t2, rfl, ?_, hE⟩
    show TRep G w v ((a.tmps.setIfInBounds t x).getD t undef) tV
    rw [getD_set_same (hd t rfl)]
    exact h3
theorem notLent_of_TRep {v : V} {x : Value} {ts : List Nat} (h : TRep G w v x ts) : notLent v := by
  obtain ⟨cs, h, _⟩ := h
  cases v <;> first | trivial | exact h.elim
end Go.Proofs.Ytennedlpmacicaa.Pal
