/- The table of types, held against the program's. -/
import Derived.Test.YtennedlpmacicaaPath
import Derived.Laws.Cells
import Derived.Laws.IdiomCopy
namespace Go.Proofs.Ytennedlpmacicaa.Pal
open Go

def zcells : Ty → List Value
  | .int k => [.int k 0]
  | .bool => [.bool false]
  | .str => [.string .empty]
  | .slc _ => [.slice none 0 0]
  | .arr n e => (List.replicate n (zcells e)).flatten
  | .pair a b => zcells a ++ zcells b
/-- Surely the same (of zero values). -/
def zeq : Value → Value → Bool
  | .int k n, .int k' n' => (k == k') && (n == n')
  | .bool a, .bool b => a == b
  | .string a, .string b => Nat.beq a.size 0 && Nat.beq b.size 0
  | .slice none 0 0, .slice none 0 0 => true
  | _, _ => false
def zeqL : List Value → List Value → Bool
  | [], [] => true
  | a :: x, b :: y => zeq a b && zeqL x y
  | _, _ => false
theorem zeq_eq {a b : Value} (h : zeq a b = true) : a = b := by
  unfold zeq at h
  split at h
  · simp only [Bool.and_eq_true, beq_iff_eq] at h; rw [h.1, h.2]
  · simp only [beq_iff_eq] at h; rw [h]
  · rename_i x y
    simp only [Bool.and_eq_true] at h
    have h1 := beq_nat.1 h.1
    have h2 := beq_nat.1 h.2
    have e : ∀ z : ByteArray, z.size = 0 → z = .empty := fun z hz => by
      cases z with
      | mk d => 
        have : d = #[] := Array.eq_empty_of_size_eq_zero (by simpa [ByteArray.size] using hz)
        subst this; rfl
    rw [e x h1, e y h2]
  · rfl
  · cases h
theorem zeqL_eq : ∀ {a b : List Value}, zeqL a b = true → a = b
  | [], [], _ => rfl
  | [], _ :: _, h => by simp [zeqL] at h
  | _ :: _, [], h => by simp [zeqL] at h
  | a :: x, b :: y, h => by
    simp only [zeqL, Bool.and_eq_true] at h
    rw [zeq_eq h.1, zeqL_eq h.2]
def flds (f : TypeId → Ty → Bool) : List Field → Nat → Ty → Bool
  | [], _, _ => false
  | [g], o, τ => Nat.beq g.offset o && f g.type τ && (g.name != "_")
  | g :: g' :: r, o, τ => match τ with
    | .pair a b => Nat.beq g.offset o && f g.type a && (g.name != "_") && flds f (g' :: r) (o + a.cells) b
    | _ => false
def descB (f : TypeId → Ty → Bool) (held : Bool) : TypeDesc → Ty → Bool
  | .int k, .int k' => k == k'
  | .bool, .bool => true
  | .string, .str => true
  | .slice E, .slc e => f E e
  | .array m E, .arr m' e => Nat.beq m m' && f E e
  | .struct fs, .pair a b => Nat.ble 2 fs.size && flds f fs.toList 0 (.pair a b) && !held
  | _, _ => false
def tyB (P : Program) : Nat → TypeId → Ty → Bool
  | 0, _, _ => false
  | n + 1, T, τ => match P.info? T, P.underlying T with
    | some i, some d => Nat.beq i.size τ.cells && Nat.blt 0 τ.cells && Nat.ble i.bytes 32768 &&
      (match i.zero with | some z => zeqL z.cells.toList (zcells τ) | none => false) &&
      descB (tyB P n) (P.stoodInHeld T) d τ
    | _, _ => false
def Ty.dep : Ty → Nat
  | .arr _ e => e.dep + 1
  | .pair a b => max a.dep b.dep + 1
  | _ => 1
def tiB (P : Program) (T : TypeId) (ti : TInfo) : Bool :=
  tyB P 40 T ti.ty && Nat.ble ti.ty.dep 9000 && (match P.underlying T with | some (.struct fs) => Nat.beq fs.size ti.nf | _ => true) && !(P.eqGuardType P.depth T)
def ptB (P : Program) (T : TypeId) : Bool := match P.underlying T, P.info? T with
  | some (.pointer _), some i => Nat.beq i.size 1 && (match i.zero with | some (.pointer none) => true | _ => false)
  | _, _ => false
/-- The table is right. -/
structure TT (P : Program) (c : Cx) : Prop where
  tab : ∀ T ti, lkN c.types T = some ti → tiB P T ti = true
  ptr : ∀ T, memN T c.ptrs = true → ptB P T = true
theorem memN_all {p : Nat → Bool} : ∀ (l : List Nat) (t : Nat), l.all p = true → memN t l = true → p t = true
  | [], _, _, h => by simp [memN] at h
  | k :: r, t, ha, h => by
    simp only [List.all_cons, Bool.and_eq_true] at ha
    simp only [memN, Bool.or_eq_true] at h
    rcases h with h | h
    · rw [← beq_nat.1 h]; exact ha.1
    · exact memN_all r t ha.2 h
theorem TT.of {P : Program} {c : Cx} (h : c.types.all (fun x => tiB P x.1 x.2) = true) (hp : c.ptrs.all (ptB P) = true) : TT P c := by
  refine ⟨?_, fun T hT => memN_all c.ptrs T hp hT⟩
  intro T ti ht
  have key : ∀ l : List (Nat × TInfo), l.all (fun x => tiB P x.1 x.2) = true → lkN l T = some ti → tiB P T ti = true := by
    intro l
    induction l with
    | nil => intro _ h; simp [lkN] at h
    | cons x r ih =>
      obtain ⟨k, v⟩ := x
      intro ha hl
      simp only [List.all_cons, Bool.and_eq_true] at ha
      simp only [lkN] at hl
      cases hb : Nat.beq k T with
      | true =>
        simp only [hb, cond_true, Option.some.injEq] at hl
        rw [← beq_nat.1 hb, ← hl]; exact ha.1
      | false =>
        simp only [hb, cond_false] at hl
        exact ih ha.2 hl
  exact key c.types h ht

structure TyI (P : Program) (T : TypeId) (τ : Ty) : Prop where
  info : ∃ i, P.info? T = some i ∧ i.size = τ.cells ∧ i.bytes ≤ 32768 ∧ ∃ z, i.zero = some z ∧ z.cells.toList = zcells τ
  pos : 0 < τ.cells
section
variable {P : Program} {n : Nat} {T : TypeId} {τ : Ty}
theorem tyB_i (h : tyB P n T τ = true) : TyI P T τ := by
  cases n with
  | zero => simp [tyB] at h
  | succ n =>
    simp only [tyB] at h
    split at h
    · rename_i i d hi hd
      simp only [Bool.and_eq_true] at h
      obtain ⟨⟨⟨⟨h1, h2⟩, h3⟩, h4⟩, h5⟩ := h
      refine ⟨⟨i, hi, beq_nat.1 h1, Nat.le_of_ble_eq_true h3, ?_⟩, ?_⟩
      · split at h4
        · rename_i z hz; exact ⟨z, hz, zeqL_eq h4⟩
        · cases h4
      · have := Nat.le_of_ble_eq_true h2; omega
    · cases h
theorem tyB_d (h : tyB P (n + 1) T τ = true) : ∃ d, P.underlying T = some d ∧ descB (tyB P n) (P.stoodInHeld T) d τ = true := by
  simp only [tyB] at h
  split at h
  · rename_i i d hi hd
    simp only [Bool.and_eq_true] at h
    exact ⟨d, hd, h.2⟩
  · cases h
theorem tyB_pos (h : tyB P n T τ = true) : ∃ m, n = m + 1 := by
  cases n with
  | zero => simp [tyB] at h
  | succ m => exact ⟨m, rfl⟩
theorem tyB_int {k : IntKind} (h : tyB P n T (.int k) = true) : P.underlying T = some (.int k) := by
  obtain ⟨m, rfl⟩ := tyB_pos h
  obtain ⟨d, hd, h⟩ := tyB_d h
  cases d <;> simp_all [descB]
theorem tyB_bool (h : tyB P n T .bool = true) : P.underlying T = some .bool := by
  obtain ⟨m, rfl⟩ := tyB_pos h
  obtain ⟨d, hd, h⟩ := tyB_d h
  cases d <;> simp_all [descB]
theorem tyB_str (h : tyB P n T .str = true) : P.underlying T = some .string := by
  obtain ⟨m, rfl⟩ := tyB_pos h
  obtain ⟨d, hd, h⟩ := tyB_d h
  cases d <;> simp_all [descB]
theorem tyB_slc {e : Ty} (h : tyB P n T (.slc e) = true) : ∃ E m, P.underlying T = some (.slice E) ∧ tyB P m E e = true := by
  obtain ⟨m, rfl⟩ := tyB_pos h
  obtain ⟨d, hd, h⟩ := tyB_d h
  cases d <;> simp_all [descB]
  exact ⟨m, h⟩
theorem tyB_arr {e : Ty} {q : Nat} (h : tyB P n T (.arr q e) = true) : ∃ E m, P.underlying T = some (.array q E) ∧ tyB P m E e = true := by
  obtain ⟨m, rfl⟩ := tyB_pos h
  obtain ⟨d, hd, h⟩ := tyB_d h
  cases d <;> simp_all [descB]
  exact ⟨m, h.2⟩
theorem tyB_pair {a b : Ty} (h : tyB P n T (.pair a b) = true) : ∃ fs m, P.underlying T = some (.struct fs) ∧ 2 ≤ fs.size ∧ flds (tyB P m) fs.toList 0 (.pair a b) = true ∧ P.stoodInHeld T = false := by
  obtain ⟨m, rfl⟩ := tyB_pos h
  obtain ⟨d, hd, h⟩ := tyB_d h
  cases d <;> simp_all [descB]
  exact ⟨m, h.1.2⟩
theorem tyB_agg (h : tyB P n T τ = true) (w : World) : (isAgg T).run P w = .ok τ.agg w := by
  cases τ with
  | int k => simp [isAgg, run_underlying (tyB_int h), Ty.agg]
  | bool => simp [isAgg, run_underlying (tyB_bool h), Ty.agg]
  | str => simp [isAgg, run_underlying (tyB_str h), Ty.agg]
  | slc e => obtain ⟨E, m, hu, _⟩ := tyB_slc h; simp [isAgg, run_underlying hu, Ty.agg]
  | arr q e => obtain ⟨E, m, hu, _⟩ := tyB_arr h; simp [isAgg, run_underlying hu, Ty.agg]
  | pair a b => obtain ⟨fs, m, hu, _⟩ := tyB_pair h; simp [isAgg, run_underlying hu, Ty.agg]
theorem TyI.sizeOf (h : TyI P T τ) (w : World) : (sizeOf T).run P w = .ok τ.cells w := by
  obtain ⟨i, hi, hs, _⟩ := h.info
  simp [Go.sizeOf, typeInfo, hi, hs]
theorem TyI.zero (h : TyI P T τ) (w : World) : ∃ z, (zeroValue T).run P w = .ok z w ∧ z.cells.toList = zcells τ := by
  obtain ⟨i, hi, _, _, z, hz, hc⟩ := h.info
  exact ⟨z, by simp [zeroValue, typeInfo, hi, hz], hc⟩
/-- Where a field lies. -/
theorem flds_at (f : TypeId → Ty → Bool) : ∀ (fs : List Field) (o : Nat) (τ : Ty) (i : Nat), flds f fs o τ = true → i < fs.length →
    ∃ g, fs[i]? = some g ∧ g.offset = o + offs (fpath τ fs.length i) ∧ f g.type (fieldTy τ fs.length i) = true ∧ pathOk (fpath τ fs.length i)
  | [], _, _, i, _, hi => by simp at hi
  | [g], o, τ, i, h, hi => by
    simp only [flds, Bool.and_eq_true] at h
    obtain rfl : i = 0 := by simp at hi; omega
    have e : fpath τ 1 0 = [] := by cases τ <;> rfl
    have e' : fieldTy τ 1 0 = τ := by cases τ <;> rfl
    refine ⟨g, rfl, ?_, by show f g.type (fieldTy τ 1 0) = true; rw [e']; exact h.1.2, ?_⟩
    · show g.offset = o + offs (fpath τ 1 0); rw [e, beq_nat.1 h.1.1]; rfl
    · show pathOk (fpath τ 1 0); rw [e]; trivial
  | g :: g' :: r, o, τ, i, h, hi => by
    cases τ with
    | pair a b =>
      simp only [flds, Bool.and_eq_true] at h
      obtain ⟨⟨⟨h1, h2⟩, h3⟩, h4⟩ := h
      cases i with
      | zero =>
        have e : fpath (.pair a b) (g :: g' :: r).length 0 = [.l] := rfl
        exact ⟨g, rfl, by rw [e, beq_nat.1 h1]; rfl, h2, by rw [e]; trivial⟩
      | succ i =>
        have e : fpath (.pair a b) (g :: g' :: r).length (i + 1) = .r a.cells :: fpath b (g' :: r).length i := rfl
        obtain ⟨q, q1, q2, q3, q4⟩ := flds_at f (g' :: r) (o + a.cells) b i h4 (by simpa using hi)
        exact ⟨q, by simpa using q1, by rw [e, offs, q2]; omega, q3, by rw [e]; exact q4⟩
    | _ => simp [flds] at h
end
theorem DRep_zero (I : Im) : ∀ τ : Ty, DRep I τ τ.zero (zcells τ)
  | .int _ => rfl
  | .bool => rfl
  | .str => rfl
  | .slc e => ⟨none, 0, 0, rfl, rfl, Nat.le_refl _, .inl rfl⟩
  | .arr n e => by
    refine ⟨by simp [Ty.zero, zarr], ?_⟩
    have h := DRep_zero I e
    show All2 (DRep I e) (List.replicate n e.zero) (List.replicate n (zcells e)).flatten
    induction n with
    | zero => rfl
    | succ n ih => exact ⟨zcells e, _, by simp [List.replicate_succ], h, ih⟩
  | .pair a b => ⟨zcells a, zcells b, rfl, DRep_zero I a, DRep_zero I b⟩
theorem zeroV_rep (G : Gh) (w : World) : ∀ τ : Ty, VRep G w (zeroV τ) (zcells τ) []
  | .int k => ⟨DRep_zero G.I (.int k), rfl⟩
  | .bool => ⟨DRep_zero G.I .bool, rfl⟩
  | .str => ⟨DRep_zero G.I .str, rfl⟩
  | .slc e => ⟨none, 0, 0, rfl, rfl, by omega, .inl ⟨rfl, rfl⟩⟩
  | .arr n e => ⟨DRep_zero G.I (.arr n e), rfl⟩
  | .pair a b => mkPr_rep (zeroV_rep G w a) (zeroV_rep G w b)
theorem zeroV_refs : ∀ τ : Ty, (zeroV τ).refs = []
  | .int k => rfl
  | .bool => rfl
  | .str => rfl
  | .slc e => rfl
  | .arr n e => rfl
  | .pair a b => by
    show (mkPr (zeroV a) (zeroV b)).refs = []
    unfold mkPr
    split
    · rfl
    · simp [V.refs, zeroV_refs a, zeroV_refs b]
end Go.Proofs.Ytennedlpmacicaa.Pal
