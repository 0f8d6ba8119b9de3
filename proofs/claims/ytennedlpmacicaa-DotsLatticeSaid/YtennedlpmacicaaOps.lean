/- Operations that turn no memory: the abstract run's answer is the machine's. -/
import Derived.Test.YtennedlpmacicaaEq
import Derived.Calls
namespace Go.Proofs.Ytennedlpmacicaa.Pal
open Go
variable {P : Program} {X : Nat → Nat → Prop} {G0 G : Gh} {w0 w : World} {s : St} {a : Act} {c : Cx}

theorem TRep.dat_int {k : IntKind} {n : Int} {x : Value} {ts : List Nat} (h : TRep G w (.dat (.int k) n) x ts) : x = .int k n := by
  obtain ⟨cs, ⟨h1, _⟩, h2⟩ := h
  simp only [DRep] at h1; subst h1
  simpa [V.agg, Ty.agg] using h2.symm
theorem TRep.dat_bool {b : Bool} {x : Value} {ts : List Nat} (h : TRep G w (.dat .bool b) x ts) : x = .bool b := by
  obtain ⟨cs, ⟨h1, _⟩, h2⟩ := h
  simp only [DRep] at h1; subst h1
  simpa [V.agg, Ty.agg] using h2.symm
theorem TRep.dat_str {l : List UInt8} {x : Value} {ts : List Nat} (h : TRep G w (.dat .str l) x ts) : x = .string ⟨l.toArray⟩ := by
  obtain ⟨cs, ⟨h1, _⟩, h2⟩ := h
  simp only [DRep] at h1; subst h1
  simpa [V.agg, Ty.agg] using h2.symm
theorem TRep.dat_slc {e : Ty} {xs : List e.D} {x : Value} {ts : List Nat} (h : TRep G w (.dat (.slc e) xs) x ts) : ∃ ad len cap, x = .slice ad len cap ∧ xs.length = len ∧ len ≤ cap ∧ (xs = [] ∨ ∃ b o, ad = some ⟨b, o, none⟩ ∧ Elems G.I e.cells (DRep G.I e) b o xs) := by
  obtain ⟨cs, ⟨h1, _⟩, h2⟩ := h
  obtain ⟨ad, len, cap, e1, e2, e3, e4⟩ := h1
  subst e1
  exact ⟨ad, len, cap, by simpa [V.agg, Ty.agg] using h2.symm, e2, e3, e4⟩
theorem TRep.dat_agg {τ : Ty} {y : τ.D} {x : Value} {ts : List Nat} (h : TRep G w (.dat τ y) x ts) : DVal G.I τ y x := by
  obtain ⟨cs, ⟨h1, _⟩, h2⟩ := h
  exact ⟨cs, h1, h2⟩
theorem DVal.trep {τ : Ty} {y : τ.D} {x : Value} (h : DVal G.I τ y x) : TRep G w (.dat τ y) x [] := by
  obtain ⟨cs, h1, h2⟩ := h
  exact ⟨cs, ⟨h1, rfl⟩, h2⟩
theorem TRep.int (k : IntKind) (n : Int) : TRep G w (.dat (.int k) n) (.int k n) [] := ⟨_, ⟨rfl, rfl⟩, rfl⟩
theorem TRep.bool (b : Bool) : TRep G w (.dat .bool b) (.bool b) [] := ⟨_, ⟨rfl, rfl⟩, rfl⟩
theorem TRep.str (l : List UInt8) : TRep G w (.dat .str l) (.string ⟨l.toArray⟩) [] := ⟨_, ⟨rfl, rfl⟩, rfl⟩
theorem TRep.ref_ {k : Nat} {p : List Step} {x : Value} {ts : List Nat} (h : TRep G w (.ref k p) x ts) : x = .pointer (some (G.addr k p)) ∧ pathOk p := by
  obtain ⟨cs, ⟨h1, h2, _⟩, h3⟩ := h
  subst h1
  exact ⟨by simpa [V.agg] using h3.symm, h2⟩
theorem TRep.nilp_ {x : Value} {ts : List Nat} (h : TRep G w .nilp x ts) : x = .pointer none := by
  obtain ⟨cs, ⟨h1, _⟩, h3⟩ := h
  subst h1
  simpa [V.agg] using h3.symm
theorem TRep.ip_ {τ : Ty} {y : τ.D} {x : Value} {ts : List Nat} (h : TRep G w (.ip τ y) x ts) : ∃ b o cc, x = .pointer (some ⟨b, o, none⟩) ∧ DRep G.I τ y cc ∧ AtI G.I b o cc := by
  obtain ⟨cs, ⟨b, o, cc, h1, h2, h3, _⟩, h4⟩ := h
  subst h1
  exact ⟨b, o, cc, by simpa [V.agg] using h4.symm, h2, h3⟩
theorem TRep.as_ {τ : Ty} {v : V} {y : τ.D} {x : Value} {ts : List Nat} (hv : V.as τ v = some y) (h : TRep G w v x ts) : DVal G.I τ y x := by
  obtain ⟨cs, h1, h2⟩ := h
  exact ⟨cs, as_rep τ v y cs ts hv h1, by rw [← (as_cells τ v y hv).2]; exact h2⟩

theorem ba_size (l : List UInt8) : (⟨l.toArray⟩ : ByteArray).size = l.length := by simp [ByteArray.size]
theorem ba_toList (l : List UInt8) : (⟨l.toArray⟩ : ByteArray).toList = l := by rw [ByteArray.toList_eq]
theorem bytesLess_eq : ∀ x y, Op.bytesLess x y = sless x y
  | _, [] => by cases ‹List UInt8› <;> rfl
  | [], _ :: _ => rfl
  | a :: x, b :: y => by simp only [Op.bytesLess, sless, bytesLess_eq x y]
theorem some_of_br {α : Type} {b : Bool} {x y : Option α} {r : α} (h : br b x y = some r) : (b = true ∧ x = some r) ∨ (b = false ∧ y = some r) := by
  cases b
  · exact .inr ⟨rfl, h⟩
  · exact .inl ⟨rfl, h⟩
theorem br_then {α : Type} {b : Bool} {x : Option α} {r : α} (h : br b x none = some r) : b = true ∧ x = some r := by
  rcases some_of_br h with h | ⟨_, h⟩
  · exact h
  · cases h
theorem br_else {α : Type} {b : Bool} {x : Option α} {r : α} (h : br b none x = some r) : b = false ∧ x = some r := by
  rcases some_of_br h with ⟨_, h⟩ | h
  · cases h
  · exact h

/-! ### Numbers and texts -/
theorem binInt_run {α : Type} {op : BinOp} {k k' : IntKind} {m n : Int} {pt : Bool} {ty : Option Ty} {K : V → Option α} {r : α} (hk : op = .shl ∨ op = .shr ∨ k = k')
    (h : binV pt ty op (.dat (.int k) m) (.dat (.int k') n) K = some r) (T : TypeId) :
    ∃ v x, (binOp op T (.int k m) (.int k' n)).run P w = .ok x w ∧ TRep G w v x [] ∧ K v = some r := by
  have hs : op = .shl ∨ op = .shr ∨ (op ≠ .shl ∧ op ≠ .shr ∧ k = k') := by
    rcases hk with h | h | h
    · exact .inl h
    · exact .inr (.inl h)
    · by_cases h1 : op = .shl
      · exact .inl h1
      · by_cases h2 : op = .shr
        · exact .inr (.inl h2)
        · exact .inr (.inr ⟨h1, h2, h⟩)
  rcases hs with rfl | rfl | ⟨h1, h2, rfl⟩
  · simp only [binV] at h
    obtain ⟨hb, h⟩ := br_else h
    have hz : ¬ n < 0 := by simpa [ilt] using hb
    refine ⟨_, .int k _, ?_, TRep.int _ _, h⟩
    simp only [binOp, Op.shift, if_neg hz]; rfl
  · simp only [binV] at h
    obtain ⟨hb, h⟩ := br_else h
    have hz : ¬ n < 0 := by simpa [ilt] using hb
    refine ⟨_, .int k _, ?_, TRep.int _ _, h⟩
    simp only [binOp, Op.shift, if_neg hz]; rfl
  · cases op <;> simp only [binV] at h
    case add => exact ⟨_, .int k _, by rw [show binOp .add T (.int k m) (.int k n) = Op.intArith .add k m n from by simp [binOp]]; rfl, TRep.int _ _, h⟩
    case sub => exact ⟨_, .int k _, by rw [show binOp .sub T (.int k m) (.int k n) = Op.intArith .sub k m n from by simp [binOp]]; rfl, TRep.int _ _, h⟩
    case mul => exact ⟨_, .int k _, by rw [show binOp .mul T (.int k m) (.int k n) = Op.intArith .mul k m n from by simp [binOp]]; rfl, TRep.int _ _, h⟩
    case quo =>
      obtain ⟨hb, h⟩ := br_else h
      have hz : ¬ n = 0 := by simpa [ieq] using hb
      exact ⟨_, .int k _, by rw [show binOp .quo T (.int k m) (.int k n) = Op.intDiv .quo k m n from by simp [binOp]]; simp only [Op.intDiv, if_neg hz]; rfl, TRep.int _ _, h⟩
    case rem =>
      obtain ⟨hb, h⟩ := br_else h
      have hz : ¬ n = 0 := by simpa [ieq] using hb
      exact ⟨_, .int k _, by rw [show binOp .rem T (.int k m) (.int k n) = Op.intDiv .rem k m n from by simp [binOp]]; simp only [Op.intDiv, if_neg hz]; rfl, TRep.int _ _, h⟩
    case and => exact ⟨_, .int k _, by rw [show binOp .and T (.int k m) (.int k n) = Op.intBits .and k m n from by simp [binOp]]; rfl, TRep.int _ _, h⟩
    case or => exact ⟨_, .int k _, by rw [show binOp .or T (.int k m) (.int k n) = Op.intBits .or k m n from by simp [binOp]]; rfl, TRep.int _ _, h⟩
    case xor => exact ⟨_, .int k _, by rw [show binOp .xor T (.int k m) (.int k n) = Op.intBits .xor k m n from by simp [binOp]]; rfl, TRep.int _ _, h⟩
    case shl => exact absurd rfl h1
    case shr => exact absurd rfl h2
    case andNot => cases h
    case eql => exact ⟨_, .bool _, by rw [show binOp .eql T (.int k m) (.int k n) = Op.intCmp .eql m n from by simp [binOp]]; rfl, TRep.bool _, h⟩
    case neq => exact ⟨_, .bool _, by rw [show binOp .neq T (.int k m) (.int k n) = Op.intCmp .neq m n from by simp [binOp]]; rfl, TRep.bool _, h⟩
    case lss => exact ⟨_, .bool _, by rw [show binOp .lss T (.int k m) (.int k n) = Op.intCmp .lss m n from by simp [binOp]]; rfl, TRep.bool _, h⟩
    case leq => exact ⟨_, .bool _, by rw [show binOp .leq T (.int k m) (.int k n) = Op.intCmp .leq m n from by simp [binOp]]; rfl, TRep.bool _, h⟩
    case gtr => exact ⟨_, .bool _, by rw [show binOp .gtr T (.int k m) (.int k n) = Op.intCmp .gtr m n from by simp [binOp]]; rfl, TRep.bool _, h⟩
    case geq => exact ⟨_, .bool _, by rw [show binOp .geq T (.int k m) (.int k n) = Op.intCmp .geq m n from by simp [binOp]]; rfl, TRep.bool _, h⟩
theorem binStr_run {α : Type} {op : BinOp} {m n : List UInt8} {pt : Bool} {ty : Option Ty} {K : V → Option α} {r : α}
    (h : binV pt ty op (.dat .str m) (.dat .str n) K = some r) (T : TypeId) :
    ∃ v x, (binOp op T (.string ⟨m.toArray⟩) (.string ⟨n.toArray⟩)).run P w = .ok x w ∧ TRep G w v x [] ∧ K v = some r := by
  cases op <;> simp only [binV] at h
  case add =>
    obtain ⟨hb, h⟩ := br_then h
    have hl : m.length + n.length ≤ 4611686018427387904 := by simpa [roomS] using hb
    refine ⟨_, .string _, ?_, TRep.str _, h⟩
    simp only [binOp, Op.stringOp, ba_size]
    have hm : IntKind.i64.max = 9223372036854775807 := rfl
    rw [if_neg (by rw [hm]; omega)]
    rfl
  case eql => exact ⟨_, .bool _, by simp only [binOp, Op.stringOp, ba_toList]; rfl, TRep.bool _, h⟩
  case neq => exact ⟨_, .bool _, by simp only [binOp, Op.stringOp, ba_toList]; rfl, TRep.bool _, h⟩
  case lss => exact ⟨_, .bool _, by simp only [binOp, Op.stringOp, ba_toList, bytesLess_eq]; rfl, TRep.bool _, h⟩
  case leq => exact ⟨_, .bool _, by simp only [binOp, Op.stringOp, ba_toList, bytesLess_eq]; rfl, TRep.bool _, h⟩
  case gtr => exact ⟨_, .bool _, by simp only [binOp, Op.stringOp, ba_toList, bytesLess_eq]; rfl, TRep.bool _, h⟩
  case geq => exact ⟨_, .bool _, by simp only [binOp, Op.stringOp, ba_toList, bytesLess_eq]; rfl, TRep.bool _, h⟩
  all_goals cases h
theorem kn_inj {k k' : IntKind} (h : kn k = kn k') : k = k' := by cases k <;> cases k' <;> first | rfl | (simp [kn] at h)
theorem TT.ti (hT : TT P c) {t : TypeId} {ti : TInfo} (hl : lkN c.types t = some ti) : tyB P 40 t ti.ty = true ∧ ti.ty.dep ≤ 9000 ∧ P.eqGuardType P.depth t = false ∧ ∀ fs, P.underlying t = some (.struct fs) → fs.size = ti.nf := by
  have := hT.tab t ti hl
  simp only [tiB, Bool.and_eq_true, Bool.not_eq_true'] at this
  obtain ⟨⟨⟨h1, h2⟩, h3⟩, h4⟩ := this
  refine ⟨h1, Nat.le_of_ble_eq_true h2, h4, fun fs hfs => ?_⟩
  rw [hfs] at h3
  exact beq_nat.1 h3
theorem TT.ty (hT : TT P c) {t : TypeId} {τ : Ty} (h : c.ty t = some τ) : tyB P 40 t τ = true ∧ τ.dep ≤ 9000 ∧ P.eqGuardType P.depth t = false := by
  simp only [Cx.ty, Option.map_eq_some_iff] at h
  obtain ⟨ti, hl, rfl⟩ := h
  have := hT.ti hl
  exact ⟨this.1, this.2.1, this.2.2.1⟩
theorem TT.pt (hT : TT P c) {t : TypeId} (h : memN t c.ptrs = true) : ∃ e, P.underlying t = some (.pointer e) := by
  have := hT.ptr t h
  unfold ptB at this
  split at this
  · rename_i e i he hi; exact ⟨e, he⟩
  · cases this
theorem guard_plain {op : BinOp} {t : TypeId} {x y : Operand} {u v : Value} (h : ∀ cs ds, ¬ (u = .agg cs ∧ v = .agg ds)) (h2 : ¬ (u = .nilIface ∧ v = .nilIface)) : (eqGuard op t x y u v).run P w = .ok () w := by
  cases op <;> first
    | rfl
    | (unfold eqGuard; simp only [Bool.not_true, Bool.false_eq_true, if_false]; cases u <;> cases v <;> first | rfl | exact absurd ⟨rfl, rfl⟩ h2 | exact absurd ⟨rfl, rfl⟩ (h _ _))
theorem eq_val {τ : Ty} (hq : τ.hasEq = true) {t : TypeId} (ht : tyB P 40 t τ = true) (hd : τ.dep ≤ 9000) (hg : P.eqGuardType P.depth t = false) {y z : τ.D} {u v : Value} (hu : DVal G.I τ y u) (hv : DVal G.I τ z v) (ox oy : Operand) (op : BinOp) :
    (eqGuard op t ox oy u v).run P w = .ok () w ∧ (Op.equal t u v).run P w = .ok (deq τ y z) w ∧ (binOp .eql t u v = do pure (.bool (← Op.equal t u v))) ∧ (binOp .neq t u v = do pure (.bool (!(← Op.equal t u v)))) := by
  have hq0 : τ.hasEq0 = true := by cases τ <;> simp_all [Ty.hasEq, Ty.hasEq0]
  have he := (eq_run (P := P) τ hq0).1 40 t 10000 ht (by omega) G.I y z u v hu hv w
  refine ⟨?_, he, ?_⟩
  · obtain ⟨cu, hcu, eu⟩ := hu
    obtain ⟨cv, hcv, ev⟩ := hv
    cases hag : τ.agg with
    | true =>
      simp [hag] at eu ev
      subst eu; subst ev
      exact run_eqGuard_agg w op t ox oy _ _ hg
    | false =>
      cases τ <;> simp [Ty.agg, Ty.hasEq] at hag hq
      simp only [DRep] at hcu hcv; subst hcu; subst hcv
      simp [Ty.agg] at eu ev; subst eu; subst ev
      exact guard_plain (by simp) (by simp)
  · obtain ⟨cu, hcu, eu⟩ := hu
    obtain ⟨cv, hcv, ev⟩ := hv
    cases hag : τ.agg with
    | true =>
      simp [hag] at eu ev
      subst eu; subst ev
      exact ⟨rfl, rfl⟩
    | false =>
      cases τ <;> simp [Ty.agg, Ty.hasEq] at hag hq
      simp only [DRep] at hcu hcv; subst hcu; subst hcv
      simp [Ty.agg] at eu ev; subst eu; subst ev
      exact ⟨rfl, rfl⟩
theorem binTyped_run {α : Type} (hT : TT P c) {op : BinOp} {t : TypeId} {ox oy : Operand} {v u : V} {xv xu : Value} {K : V → Option α} {r : α} {t1 t2 : List Nat}
    (hv : TRep G w v xv t1) (hu : TRep G w u xu t2)
    (h : (match c.ty t with
      | some τ => bif τ.hasEq then (V.as τ v).bind fun a => (V.as τ u).bind fun b => match op with
        | .eql => K (.dat .bool (deq τ a b))
        | .neq => K (.dat .bool (bnot (deq τ a b)))
        | _ => none
        else none
      | none => none) = some r) :
    ∃ v' x', (do eqGuard op t ox oy xv xu; binOp op t xv xu).run P w = .ok x' w ∧ TRep G w v' x' [] ∧ K v' = some r := by
  split at h
  · rename_i τ hτ
    obtain ⟨ht, hd, hg⟩ := hT.ty hτ
    cases hq : τ.hasEq with
    | false => simp [hq] at h
    | true =>
      simp only [hq, cond_true, Option.bind_eq_some_iff] at h
      obtain ⟨a, ha, b, hb, h⟩ := h
      obtain ⟨e1, e2, e3, e4⟩ := eq_val (w := w) hq ht hd hg (TRep.as_ ha hv) (TRep.as_ hb hu) ox oy op
      cases op <;> simp only at h
      case eql => exact ⟨_, .bool _, by simp only [Sem.run_bind, e1, Result.andThen_ok, e3, e2]; rfl, TRep.bool _, h⟩
      case neq => exact ⟨_, .bool _, by simp only [Sem.run_bind, e1, Result.andThen_ok, e4, e2]; rfl, TRep.bool _, h⟩
      all_goals cases h
  · cases h
theorem equal_pn {t e : TypeId} (hpt : P.underlying t = some (.pointer e)) (b : Option Addr) : (Op.equal t (.pointer none) (.pointer b)).run P w = .ok b.isNone w := by
  show (Op.equalIn (9999 + 1) t _ _).run P w = _
  rw [Op.equalIn]
  simp only [Sem.run_bind, run_underlying hpt, Result.andThen_ok]
  rfl
theorem equal_np {t e : TypeId} (hpt : P.underlying t = some (.pointer e)) (b : Addr) : (Op.equal t (.pointer (some b)) (.pointer none)).run P w = .ok false w := by
  show (Op.equalIn (9999 + 1) t _ _).run P w = _
  rw [Op.equalIn]
  simp only [Sem.run_bind, run_underlying hpt, Result.andThen_ok]
  rfl
theorem binOp_run {α : Type} (hT : TT P c) {op : BinOp} {t : TypeId} {ox oy : Operand} {v u : V} {xv xu : Value} {K : V → Option α} {r : α} {t1 t2 : List Nat}
    (hv : TRep G w v xv t1) (hu : TRep G w u xu t2) (hok : binOK op v u = true) (h : binV (memN t c.ptrs) (c.ty t) op v u K = some r) :
    ∃ v' x', (do eqGuard op t ox oy xv xu; binOp op t xv xu).run P w = .ok x' w ∧ TRep G w v' x' [] ∧ K v' = some r := by
  unfold binV at h
  split at h
  · rename_i k m k' n
    have e1 := hv.dat_int
    have e2 := hu.dat_int
    subst e1; subst e2
    have hgd := guard_plain (P := P) (w := w) (op := op) (t := t) (x := ox) (y := oy) (u := .int k m) (v := .int k' n) (by simp) (by simp)
    obtain ⟨v', x', hr, ht, hk⟩ := binInt_run (P := P) (G := G) (w := w) (op := op) (k := k) (k' := k') (m := m) (n := n) (pt := false) (ty := none) (K := K) (r := r) (by
      cases op <;> simp [binOK] at hok ⊢
      all_goals exact kn_inj hok) h t
    exact ⟨v', x', by simp only [Sem.run_bind, hgd, Result.andThen_ok, hr], ht, hk⟩
  · rename_i m n
    have e1 := hv.dat_str
    have e2 := hu.dat_str
    subst e1; subst e2
    have hgd := guard_plain (P := P) (w := w) (op := op) (t := t) (x := ox) (y := oy) (u := .string ⟨m.toArray⟩) (v := .string ⟨n.toArray⟩) (by simp) (by simp)
    obtain ⟨v', x', hr, ht, hk⟩ := binStr_run (P := P) (G := G) (w := w) (op := op) (m := m) (n := n) (pt := false) (ty := none) (K := K) (r := r) h t
    exact ⟨v', x', by simp only [Sem.run_bind, hgd, Result.andThen_ok, hr], ht, hk⟩
  · have e1 := hv.nilp_
    have e2 := hu.nilp_
    subst e1; subst e2
    have hgd := guard_plain (P := P) (w := w) (op := op) (t := t) (x := ox) (y := oy) (u := .pointer none) (v := .pointer none) (by simp) (by simp)
    cases hp : memN t c.ptrs with
    | false => simp [hp] at h
    | true =>
      simp only [hp, cond_true] at h
      obtain ⟨e, hpt⟩ := hT.pt hp
      have he : (Op.equal t (.pointer none) (.pointer none)).run P w = .ok true w := by
        exact equal_pn hpt none
      cases op <;> simp only at h
      case eql => exact ⟨_, .bool _, by simp only [Sem.run_bind, hgd, Result.andThen_ok, binOp, he]; rfl, TRep.bool _, h⟩
      case neq => exact ⟨_, .bool _, by simp only [Sem.run_bind, hgd, Result.andThen_ok, binOp, he]; rfl, TRep.bool _, h⟩
      all_goals cases h
  · have e1 := hv.ref_.1
    have e2 := hu.nilp_
    subst e1; subst e2
    have hgd := fun a => guard_plain (P := P) (w := w) (op := op) (t := t) (x := ox) (y := oy) (u := .pointer (some a)) (v := .pointer none) (by simp) (by simp)
    cases hp : memN t c.ptrs with
    | false => simp [hp] at h
    | true =>
      simp only [hp, cond_true] at h
      obtain ⟨e, hpt⟩ := hT.pt hp
      have he : ∀ a, (Op.equal t (.pointer (some a)) (.pointer none)).run P w = .ok false w := fun a => by
        exact equal_np hpt a
      cases op <;> simp only at h
      case eql => exact ⟨_, .bool _, by simp only [Sem.run_bind, hgd, Result.andThen_ok, binOp, he]; rfl, TRep.bool _, h⟩
      case neq => exact ⟨_, .bool _, by simp only [Sem.run_bind, hgd, Result.andThen_ok, binOp, he]; rfl, TRep.bool _, h⟩
      all_goals cases h
  · have e1 := hv.nilp_
    have e2 := hu.ref_.1
    subst e1; subst e2
    have hgd := fun a => guard_plain (P := P) (w := w) (op := op) (t := t) (x := ox) (y := oy) (u := .pointer none) (v := .pointer (some a)) (by simp) (by simp)
    cases hp : memN t c.ptrs with
    | false => simp [hp] at h
    | true =>
      simp only [hp, cond_true] at h
      obtain ⟨e, hpt⟩ := hT.pt hp
      have he : ∀ a, (Op.equal t (.pointer none) (.pointer (some a))).run P w = .ok false w := fun a => by
        exact equal_pn hpt (some a)
      cases op <;> simp only at h
      case eql => exact ⟨_, .bool _, by simp only [Sem.run_bind, hgd, Result.andThen_ok, binOp, he]; rfl, TRep.bool _, h⟩
      case neq => exact ⟨_, .bool _, by simp only [Sem.run_bind, hgd, Result.andThen_ok, binOp, he]; rfl, TRep.bool _, h⟩
      all_goals cases h
  · exact binTyped_run hT hv hu h
end Go.Proofs.Ytennedlpmacicaa.Pal
