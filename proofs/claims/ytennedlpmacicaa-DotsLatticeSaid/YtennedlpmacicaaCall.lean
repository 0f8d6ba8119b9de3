/- Calls: what a function promises, and how a caller goes on. -/
import Derived.Test.YtennedlpmacicaaVal
namespace Go.Proofs.Ytennedlpmacicaa.Pal
open Go
variable {P : Program} {X Y : Nat → Nat → Prop} {G0 G G' : Gh} {w0 w w' : World} {s : St} {a : Act} {c : Cx}

/-- Values that are handed over. -/
def ArgsRep (G : Gh) (w : World) : List V → List Value → List Nat → Prop
  | [], xs, ts => xs = [] ∧ ts = []
  | v :: vs, xs, ts => ∃ x xs' t1 t2, xs = x :: xs' ∧ ts = t1 ++ t2 ∧ TRep G w v x t1 ∧ ArgsRep G w vs xs' t2
/-- What a call hands back beside what it was handed: something new, or a list that it was given. -/
def Rest (w0 : World) (G : Gh) (w : World) (n : Nat) : List V → Option Value → List Nat → Prop
  | [], _, t => t = []
  | [.raw e xs], ax, t => ∃ x, ax = some x ∧ TRep G w (.raw e xs) x t
  | [u], _, t => w0.heap.size ≤ (G.ρ (1000000 + n)).1 ∧ MemRep G w [(1000000 + n, u)] t
  | _, _, _ => False
def Post (X : Nat → Nat → Prop) (G : Gh) (w : World) (n : Nat) (vr : V) (os : List V) (x : Value) (ax : Option Value) (G' : Gh) (w' : World) : Prop :=
  Ev X G w G' w' ∧ Wf G' w' ∧ (∀ j, j < n → G'.ρ (1000000 + j) = G.ρ (1000000 + j)) ∧
    ∃ tV tM tX, TRep G' w' vr x tV ∧ MemRep G' w' (number 1000000 (os.take n)) tM ∧ Rest w G' w' n (os.drop n) ax tX ∧ (∀ g, cnt g tV + cnt g tM + cnt g tX ≤ 1) ∧
      ∀ g, 0 < cnt g tV + cnt g tM + cnt g tX → w.heap.size ≤ g ∨ ∀ o, X g o
def Does (P : Program) (f : Nat) (args : Array Value) (w : World) (R : Value → World → Prop) : Prop :=
  ((callFunc f args).run P w = .ok (.enter f args) w ∧ Calls P f args w fun e w' => match e with | .returned v => R v w' | _ => False) ∨
  ∃ v w', (callFunc f args).run P w = .ok (.value v) w' ∧ R v w'
def Entry.val (e : Entry) (args objs : List V) : Option (V × List V) := e.run (V × List V) args objs fun v os => some (v, os)
/-- What is promised of a function. -/
structure CallOK (P : Program) (f : Nat) (e : Entry) : Prop where
  nat : ∀ (α : Type) args objs (K : V → List V → Option α), e.run α args objs K = (e.val args objs).bind fun p => K p.1 p.2
  ok : ∀ args objs vr os, e.val args objs = some (vr, os) → ∀ X G w argv tA tM, Wf G w → (∀ b o k, G.O b o = some k → X b o ∧ 1000000 ≤ k) → ArgsRep G w args argv tA → MemRep G w (number 1000000 objs) tM →
    (∀ g, cnt g tA + cnt g tM ≤ 1) → (∀ g, 0 < cnt g tA + cnt g tM → ∀ o, X g o) →
    Does P f argv.toArray w fun x w' => ∃ G', Post X G w objs.length vr os x argv.head? G' w'

theorem Does.mono {P : Program} {f : Nat} {args : Array Value} {w : World} {R R' : Value → World → Prop} (h : Does P f args w R) (k : ∀ v w', R v w' → R' v w') : Does P f args w R' := by
  rcases h with ⟨h1, h2⟩ | ⟨v, w', h1, h2⟩
  · refine .inl ⟨h1, Calls.mono h2 fun e w' he => ?_⟩
    cases e with
    | returned v => exact k v w' he
    | _ => exact he
  · exact .inr ⟨v, w', h1, k v w' h2⟩

/-! ### What is known of a value does not hang on the variables -/
theorem OwnB.swap {g n m : Nat} (hI : ∀ b o, G'.I b o = G.I b o) (hO : ∀ o, G'.O g o = none) (h : OwnB G w g n m) : OwnB G' w g n m :=
  ⟨h.1, fun o ho => (hI g o).trans (h.2.1 o ho), hO⟩
theorem Im.le_of_eq {I J : Im} (h : ∀ b o, J b o = I b o) : I.le J := fun b o v hv => (h b o).trans hv
theorem VRep.swap (hI : ∀ b o, G'.I b o = G.I b o) : ∀ (v : V) (cs : List Value) (ts : List Nat), v.refs = [] → (∀ g ∈ ts, ∀ o, G'.O g o = none) → VRep G w v cs ts → VRep G' w v cs ts
  | .dat τ x, cs, ts, _, _, ⟨h, e⟩ => ⟨DRep.mono (Im.le_of_eq hI) τ x cs h, e⟩
  | .own e xs, cs, ts, _, hO, ⟨ad, len, cap, h1, h2, h3, h4⟩ => by
    refine ⟨ad, len, cap, h1, h2, h3, h4.imp id ?_⟩
    rintro ⟨g, ha, rfl, hel, hob⟩
    exact ⟨g, ha, rfl, hel.mono (Im.le_of_eq hI) (fun x c => DRep.mono (Im.le_of_eq hI) e x c), hob.swap hI (hO g (by simp))⟩
  | .pr a b, cs, ts, hr, hO, ⟨c1, c2, t1, t2, h1, h2, h3, h4⟩ => by
    simp only [V.refs, List.append_eq_nil_iff] at hr
    exact ⟨c1, c2, t1, t2, h1, h2, VRep.swap hI a c1 t1 hr.1 (fun g h => hO g (by simp [h2, h])) h3, VRep.swap hI b c2 t2 hr.2 (fun g h => hO g (by simp [h2, h])) h4⟩
  | .ref k p, cs, ts, hr, _, _ => by simp [V.refs] at hr
  | .nilp, cs, ts, _, _, h => h
  | .ip τ x, cs, ts, _, _, ⟨b, o, c, h1, h2, h3, h4⟩ => ⟨b, o, c, h1, DRep.mono (Im.le_of_eq hI) τ x c h2, h3.mono (Im.le_of_eq hI), h4⟩
  | .fn f caps, cs, ts, hr, _, ⟨vs, h1, h2, h3⟩ => by
    have : caps = [] := by simpa [V.refs] using hr
    subst this
    exact ⟨vs, h1, h2, h3⟩
  | .tup2 a b, cs, ts, hr, hO, ⟨va, vb, ca, cb, t1, t2, h1, h2, h3, h4, h5, h6⟩ => by
    simp only [V.refs, List.append_eq_nil_iff] at hr
    exact ⟨va, vb, ca, cb, t1, t2, h1, h2, VRep.swap hI a ca t1 hr.1 (fun g h => hO g (by simp [h2, h])) h3, h4, VRep.swap hI b cb t2 hr.2 (fun g h => hO g (by simp [h2, h])) h5, h6⟩
  | .tup3 a b d, cs, ts, hr, hO, ⟨va, vb, vd, ca, cb, cd, t1, t2, t3, h1, h2, h3, h4, h5, h6, h7, h8⟩ => by
    simp only [V.refs, List.append_eq_nil_iff] at hr
    exact ⟨va, vb, vd, ca, cb, cd, t1, t2, t3, h1, h2, VRep.swap hI a ca t1 hr.1.1 (fun g h => hO g (by simp [h2, h])) h3, h4, VRep.swap hI b cb t2 hr.1.2 (fun g h => hO g (by simp [h2, h])) h5, h6,
      VRep.swap hI d cd t3 hr.2 (fun g h => hO g (by simp [h2, h])) h7, h8⟩
  | .lent _, _, _, _, _, h => h
  | .unit, cs, ts, _, _, h => h
  | .raw e xs, cs, ts, _, hO, ⟨ad, len, cap, h1, h2, h3, hf, h4⟩ => by
    refine ⟨ad, len, cap, h1, h2, h3, hf, h4.imp id ?_⟩
    rintro ⟨g, ha, rfl, hb, hI', hO'⟩
    exact ⟨g, ha, rfl, hb, fun o => (hI g o).trans (hI' o), hO g (by simp)⟩
  | .any, cs, ts, _, _, h => h
theorem TRep.swap (hI : ∀ b o, G'.I b o = G.I b o) {v : V} {x : Value} {ts : List Nat} (hr : v.refs = []) (hO : ∀ g ∈ ts, ∀ o, G'.O g o = none) (h : TRep G w v x ts) : TRep G' w v x ts := by
  obtain ⟨cs, h1, h2⟩ := h
  exact ⟨cs, h1.swap hI v cs ts hr hO, h2⟩

/-! ### The variables whose addresses are handed over -/
def idx : List (Nat × List Step) → Nat → Nat → Option Nat
  | [], _, _ => none
  | (q, _) :: r, n, k => if q = k then some n else idx r (n + 1) k
theorem idx_lt : ∀ (l : List (Nat × List Step)) (n k j : Nat), idx l n k = some j → n ≤ j ∧ j < n + l.length ∧ (l.map (·.1))[j - n]? = some k
  | [], _, _, _, h => by simp [idx] at h
  | (q, p) :: r, n, k, j, h => by
    simp only [idx] at h
    split at h
    · rename_i e; injection h with h; subst h; subst e; simp
    · obtain ⟨h1, h2, h3⟩ := idx_lt r (n + 1) k j h
      refine ⟨by omega, by simp; omega, ?_⟩
      rw [show j - n = (j - (n + 1)) + 1 by omega]
      simpa using h3
theorem idx_mem : ∀ (l : List (Nat × List Step)) (n k : Nat), k ∈ l.map (·.1) → ∃ j, idx l n k = some j
  | [], _, _, h => by simp at h
  | (q, p) :: r, n, k, h => by
    simp only [idx]
    split
    · exact ⟨_, rfl⟩
    · rename_i e
      simp only [List.map_cons, List.mem_cons] at h
      exact idx_mem r (n + 1) k (h.resolve_left (fun e' => e e'.symm))
/-- What the callee knows. -/
def Gh.sub (G : Gh) (l : List (Nat × List Step)) : Gh :=
  { I := G.I, O := fun b o => (G.O b o).bind (idx l 1000000), ρ := fun q => if 1000000 ≤ q then G.ρ ((l.map (·.1)).getD (q - 1000000) 0) else G.ρ q }
theorem sub_ρ (G : Gh) (l : List (Nat × List Step)) (j : Nat) : (G.sub l).ρ (1000000 + j) = G.ρ ((l.map (·.1)).getD j 0) := by
  simp only [Gh.sub]; rw [if_pos (by omega), Nat.add_sub_cancel_left]
def rmL (m : List (Nat × V)) : List (Nat × List Step) → List (Nat × V)
  | [] => m
  | (k, _) :: r => rmL (rm m k) r
theorem memN_mem : ∀ (l : List Nat) (t : Nat), memN t l = false → t ∉ l
  | [], _, _ => by simp
  | k :: r, t, h => by
    simp only [memN, Bool.or_eq_false_iff] at h
    simp only [List.mem_cons, not_or]
    refine ⟨fun e => ?_, memN_mem r t h.2⟩
    subst e
    have : Nat.beq t t = true := beq_nat.2 rfl
    rw [this] at h; cases h.1
theorem keys_rmL : ∀ (l : List (Nat × List Step)) (m : List (Nat × V)), ∀ k ∈ keys (rmL m l), k ∈ keys m ∧ k ∉ l.map (·.1)
  | [], _, k, h => ⟨h, by simp⟩
  | (q, _) :: r, m, k, h => by
    obtain ⟨h1, h2⟩ := keys_rmL r (rm m q) k h
    obtain ⟨h3, h4⟩ := keys_rm q m k h1
    exact ⟨h3, by simp only [List.map_cons, List.mem_cons, not_or]; exact ⟨h4, h2⟩⟩
theorem lk_rm_other {k t : Nat} (h : k ≠ t) : ∀ m : List (Nat × V), lk (rm m k) t = lk m t
  | [] => rfl
  | (q, v) :: r => by
    rw [rm_cons, lk_cons]
    split
    · rename_i e; subst e; rw [lk_rm_other h r, if_neg h]
    · rw [lk_cons, lk_rm_other h r]
theorem contents_other : ∀ (l : List (Nat × List Step)) (m : List (Nat × V)) (k : Nat), k ∉ l.map (·.1) → contents (rm m k) l = contents m l
  | [], _, _, _ => rfl
  | (q, []) :: r, m, k, h => by
    simp only [List.map_cons, List.mem_cons, not_or] at h
    simp only [contents, lk_rm_other h.1, contents_other r m k h.2]
  | (q, _ :: _) :: r, m, k, h => rfl
/-- Objects at places. -/
def ObjsRep (G : Gh) (w : World) : List (Nat × List Step) → List V → List Nat → Prop
  | [], vs, ts => vs = [] ∧ ts = []
  | (k, _) :: l, vs, ts => ∃ v vs' t1 t2 cs, vs = v :: vs' ∧ ts = t1 ++ t2 ∧ VRep G w v cs t1 ∧ CellsAt w (G.ρ k).1 (G.ρ k).2 cs ∧ OwnsAt G w k v.cells ∧ ObjsRep G w l vs' t2
theorem mem_split : ∀ (l : List (Nat × List Step)) (m : List (Nat × V)) (vs : List V) (ts : List Nat), distinct l = true → contents m l = some vs → MemRep G w m ts →
    ∃ to tr, (∀ g, cnt g to + cnt g tr ≤ cnt g ts) ∧ ObjsRep G w l vs to ∧ MemRep G w (rmL m l) tr
  | [], m, vs, ts, _, h, hM => by
    simp only [contents, Option.some.injEq] at h; subst h
    exact ⟨[], ts, fun g => by simp, ⟨rfl, rfl⟩, hM⟩
  | (k, []) :: r, m, vs, ts, hd, h, hM => by
    simp only [distinct, Bool.and_eq_true, Bool.not_eq_true'] at hd
    simp only [contents, Option.bind_eq_some_iff, Option.some.injEq] at h
    obtain ⟨v, hv, us, hus, rfl⟩ := h
    obtain ⟨t1, t2, cs, hc, h1, h2, h3, h4⟩ := MemRep.find k m ts v hM hv
    obtain ⟨to, tr, hc', h5, h6⟩ := mem_split r (rm m k) us t2 hd.2 (by rw [contents_other r m k (memN_mem _ _ hd.1)]; exact hus) h4
    exact ⟨t1 ++ to, tr, fun g => by have := hc g; have := hc' g; simp; omega, ⟨v, us, t1, to, cs, rfl, rfl, h1, h2, h3, h5⟩, h6⟩
  | (k, _ :: _) :: r, m, vs, ts, hd, h, hM => by simp [contents] at h
theorem noRefs_spec : ∀ (vs : List V), noRefs vs = true → ∀ v ∈ vs, v.refs = []
  | [], _, v, h => by simp at h
  | u :: r, h, v, hv => by
    simp only [noRefs, Bool.and_eq_true, List.isEmpty_iff] at h
    rcases List.mem_cons.1 hv with rfl | hv
    · exact h.1
    · exact noRefs_spec r h.2 v hv
end Go.Proofs.Ytennedlpmacicaa.Pal
