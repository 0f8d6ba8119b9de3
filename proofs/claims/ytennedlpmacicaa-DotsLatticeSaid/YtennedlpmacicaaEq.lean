/- Go's '==' of structs and arrays of data. -/
import Derived.Test.YtennedlpmacicaaTypes
import Derived.Laws.StructEq
import Derived.ChangeKeysEq
namespace Go.Proofs.Ytennedlpmacicaa.Pal
open Go
variable {P : Program}

/-- Data as a value. -/
def DVal (I : Im) (τ : Ty) (x : τ.D) (v : Value) : Prop := ∃ cs, DRep I τ x cs ∧ (if τ.agg then v = .agg cs.toArray else cs = [v])
theorem part_run {n : Nat} {T : TypeId} {τ : Ty} (h : tyB P n T τ = true) (c1 cu c2 : List Value) (hl : cu.length = τ.cells) (w : World) :
    ∃ v, (part T (c1 ++ (cu ++ c2)).toArray c1.length).run P w = .ok v w ∧ (if τ.agg then v = .agg cu.toArray else cu = [v]) := by
  have hs := (tyB_i h).sizeOf w
  have ha := tyB_agg h w
  cases hag : τ.agg with
  | true =>
    rw [hag] at ha
    refine ⟨.agg cu.toArray, ?_, by simp⟩
    simp only [part, Sem.run_bind, ha, Result.andThen_ok, if_true, hs, Sem.run_pure]
    congr 2
    apply Array.ext'
    simp [hl.symm]
  | false =>
    rw [hag] at ha
    have h1 : τ.cells = 1 := by cases τ <;> simp [Ty.agg] at hag <;> rfl
    rw [h1] at hl
    obtain ⟨v, rfl⟩ := List.length_eq_one_iff.1 hl
    refine ⟨v, ?_, by simp⟩
    simp [part, ha]
def EqA (P : Program) (τ : Ty) : Prop := ∀ (n : Nat) (T : TypeId) (d : Nat), tyB P n T τ = true → τ.dep ≤ d →
  ∀ (I : Im) (x y : τ.D) (u v : Value), DVal I τ x u → DVal I τ y v → ∀ w, (Op.equalIn d T u v).run P w = .ok (deq τ x y) w
def EqF (P : Program) (τ : Ty) : Prop := ∀ (n : Nat) (fs : List Field) (c1 c1' cx cy : List Value) (d : Nat), 2 ≤ fs.length → flds (tyB P n) fs c1.length τ = true → c1'.length = c1.length → τ.dep ≤ d + 1 →
  ∀ (I : Im) (x y : τ.D), DRep I τ x cx → DRep I τ y cy → ∀ w, (Op.eqFields d (c1 ++ cx).toArray (c1' ++ cy).toArray fs).run P w = .ok (deq τ x y) w
theorem eqItems_run {e : Ty} (IH : EqA P e) {n : Nat} {E : TypeId} (hE : tyB P n E e = true) {d : Nat} (hd : e.dep ≤ d) (I : Im) :
    ∀ (xs ys : List e.D) (c1 c1' cx cy : List Value) (k : Nat), c1.length = k * e.cells → c1'.length = k * e.cells → xs.length = ys.length → All2 (DRep I e) xs cx → All2 (DRep I e) ys cy →
      ∀ w, (Op.eqItems d E e.cells (c1 ++ cx).toArray (c1' ++ cy).toArray ((List.range xs.length).map (k + ·))).run P w = .ok (arrEq (deq e) xs ys) w
  | [], [], _, _, _, _, _, _, _, _, _, _, w => by simp [Op.eqItems, arrEq]
  | [], _ :: _, _, _, _, _, _, _, _, h, _, _, _ => by simp at h
  | _ :: _, [], _, _, _, _, _, _, _, h, _, _, _ => by simp at h
  | x :: xs, y :: ys, c1, c1', _, _, k, h1, h2, hl, ⟨a1, a2, rfl, ha, ha'⟩, ⟨b1, b2, rfl, hb, hb'⟩, w => by
    have la := DRep.length e x a1 ha
    have lb := DRep.length e y b1 hb
    obtain ⟨u, hu, hu'⟩ := part_run hE c1 a1 a2 la w
    obtain ⟨v, hv, hv'⟩ := part_run hE c1' b1 b2 lb w
    have hr := IH n E d hE hd I x y u v ⟨a1, ha, hu'⟩ ⟨b1, hb, hv'⟩ w
    have ih := eqItems_run IH hE hd I xs ys (c1 ++ a1) (c1' ++ b1) a2 b2 (k + 1) (by rw [List.length_append, h1, la, Nat.add_mul]; omega) (by rw [List.length_append, h2, lb, Nat.add_mul]; omega) (by simpa using hl) ha' hb' w
    have hmap : (List.range (x :: xs).length).map (k + ·) = k :: (List.range xs.length).map (k + 1 + ·) := by
      simp only [List.length_cons, List.range_succ_eq_map, List.map_cons, List.map_map, Nat.add_zero]
      congr 1
      apply List.map_congr_left
      intro j _
      simp only [Function.comp]
      omega
    rw [hmap]
    rw [h1] at hu
    rw [h2] at hv
    simp only [Op.eqItems, Sem.run_bind, hu, hv, hr, Result.andThen_ok]
    simp only [List.append_assoc] at ih
    cases hq : deq e x y with
    | false => simp [arrEq, hq]
    | true =>
      simp only [Bool.not_true, Bool.false_eq_true, if_false]
      rw [ih]
      simp [arrEq, hq]
theorem eq_run : ∀ τ : Ty, τ.hasEq0 = true → EqA P τ ∧ EqF P τ
  | .int k, _ => ⟨fun n T d h hd I x y u v ⟨cu, hu, eu⟩ ⟨cv, hv, ev⟩ w => by
      obtain ⟨d, rfl⟩ : ∃ q, d = q + 1 := ⟨d - 1, by simp [Ty.dep] at hd; omega⟩
      simp only [DRep] at hu hv; subst hu; subst hv
      simp [Ty.agg] at eu ev; subst eu; subst ev
      rw [run_equalIn_int w d T k k x y (tyB_int h)]; rfl,
    fun n fs c1 c1' cx cy d h2 h => by cases fs with | nil => simp at h2 | cons g r => cases r with | nil => simp at h2 | cons g' r => simp [flds] at h⟩
  | .bool, _ => ⟨fun n T d h hd I x y u v ⟨cu, hu, eu⟩ ⟨cv, hv, ev⟩ w => by
      obtain ⟨d, rfl⟩ : ∃ q, d = q + 1 := ⟨d - 1, by simp [Ty.dep] at hd; omega⟩
      simp only [DRep] at hu hv; subst hu; subst hv
      simp [Ty.agg] at eu ev; subst eu; subst ev
      rw [run_equalIn_bool' w d T x y (tyB_bool h)]; rfl,
    fun n fs c1 c1' cx cy d h2 h => by cases fs with | nil => simp at h2 | cons g r => cases r with | nil => simp at h2 | cons g' r => simp [flds] at h⟩
  | .str, _ => ⟨fun n T d h hd I x y u v ⟨cu, hu, eu⟩ ⟨cv, hv, ev⟩ w => by
      obtain ⟨d, rfl⟩ : ∃ q, d = q + 1 := ⟨d - 1, by simp [Ty.dep] at hd; omega⟩
      simp only [DRep] at hu hv; subst hu; subst hv
      simp [Ty.agg] at eu ev; subst eu; subst ev
      rw [run_equalIn_string w d T _ _ (tyB_str h), ByteArray.toList_eq, ByteArray.toList_eq]; rfl,
    fun n fs c1 c1' cx cy d h2 h => by cases fs with | nil => simp at h2 | cons g r => cases r with | nil => simp at h2 | cons g' r => simp [flds] at h⟩
  | .slc _, h => by simp [Ty.hasEq0] at h
  | .arr q e, hq => by
    have IH := (eq_run e hq).1
    refine ⟨fun n T d h hd I x y u v ⟨cu, hu, eu⟩ ⟨cv, hv, ev⟩ w => ?_, fun n fs c1 c1' cx cy d h2 h => by cases fs with | nil => simp at h2 | cons g r => cases r with | nil => simp at h2 | cons g' r => simp [flds] at h⟩
    obtain ⟨d, rfl⟩ : ∃ q, d = q + 1 := ⟨d - 1, by simp [Ty.dep] at hd; omega⟩
    obtain ⟨E, m, hE, he⟩ := tyB_arr h
    obtain ⟨i, hi, hs, _⟩ := (tyB_i he).info
    obtain ⟨hlx, hx⟩ := hu
    obtain ⟨hly, hy⟩ := hv
    simp [Ty.agg] at eu ev; subst eu; subst ev
    rw [run_equalIn_array w d _ _ hE hi]
    have hc : P.cellsOf E = e.cells := by simp [Program.cellsOf, hi, hs]
    rw [hc]
    have := eqItems_run IH he (by simp [Ty.dep] at hd; omega) I x y [] [] cu cv 0 (by simp) (by simp) (by rw [hlx, hly]) hx hy w
    show _ = Result.ok (arrEq (deq e) x y) w
    simpa [hlx] using this
  | .pair a b, hq => by
    simp only [Ty.hasEq0, Bool.and_eq_true] at hq
    have Ha := eq_run a hq.1
    have Hb := eq_run b hq.2
    have hF : EqF P (.pair a b) := by
      intro n fs c1 c1' cx cy d h2 h hl hd I x y hx hy w
      obtain ⟨x1, x2, rfl, hx1, hx2⟩ := hx
      obtain ⟨y1, y2, rfl, hy1, hy2⟩ := hy
      have lx := DRep.length a _ x1 hx1
      have ly := DRep.length a _ y1 hy1
      have hd' : a.dep ≤ d ∧ b.dep ≤ d := by simp [Ty.dep] at hd; omega
      match fs, h2, h with
      | g :: g' :: r, _, h =>
        simp only [flds, Bool.and_eq_true] at h
        obtain ⟨⟨⟨h1, hg⟩, hn⟩, hr⟩ := h
        have hn' : g.name ≠ "_" := by simpa using hn
        obtain ⟨u, hu, hu'⟩ := part_run hg c1 x1 x2 lx w
        obtain ⟨v, hv, hv'⟩ := part_run hg c1' y1 y2 ly w
        rw [hl] at hv
        have hq1 := Ha.1 n g.type d hg hd'.1 I x.1 y.1 u v ⟨x1, hx1, hu'⟩ ⟨y1, hy1, hv'⟩ w
        have hrest : (Op.eqFields d (c1 ++ (x1 ++ x2)).toArray (c1' ++ (y1 ++ y2)).toArray (g' :: r)).run P w = .ok (deq b x.2 y.2) w := by
          cases r with
          | nil =>
            simp only [flds, Bool.and_eq_true] at hr
            obtain ⟨⟨h3, hg'⟩, hn2⟩ := hr
            have hn2' : g'.name ≠ "_" := by simpa using hn2
            have lx2 := DRep.length b _ x2 hx2
            have ly2 := DRep.length b _ y2 hy2
            obtain ⟨u2, hu2, hu2'⟩ := part_run hg' (c1 ++ x1) x2 [] lx2 w
            obtain ⟨v2, hv2, hv2'⟩ := part_run hg' (c1' ++ y1) y2 [] ly2 w
            rw [List.length_append, lx] at hu2
            rw [List.length_append, ly, hl] at hv2
            simp only [List.append_nil, List.append_assoc] at hu2 hv2
            have hq2 := Hb.1 n g'.type d hg' hd'.2 I x.2 y.2 u2 v2 ⟨x2, hx2, hu2'⟩ ⟨y2, hy2, hv2'⟩ w
            simp only [Op.eqFields, hn2', ne_eq, not_false_eq_true, if_true, Sem.run_bind, beq_nat.1 h3, hu2, hv2, hq2, Result.andThen_ok]
            cases deq b x.2 y.2 <;> simp
          | cons g2 r =>
            have hb2 : b.dep ≤ d + 1 := by omega
            have := Hb.2 n (g' :: g2 :: r) (c1 ++ x1) (c1' ++ y1) x2 y2 d (by simp) (by rw [List.length_append, lx]; exact hr) (by rw [List.length_append, List.length_append, hl, lx, ly]) hb2 I x.2 y.2 hx2 hy2 w
            simpa [List.append_assoc] using this
        rw [Op.eqFields]
        simp only [hn', ne_eq, not_false_eq_true, if_true, Sem.run_bind, beq_nat.1 h1, hu, hv, hq1, Result.andThen_ok]
        cases hdq : deq a x.1 y.1 with
        | false => simp [deq, hdq]
        | true => simp [deq, hdq, hrest]
    refine ⟨fun n T d h hd I x y u v ⟨cu, hu, eu⟩ ⟨cv, hv, ev⟩ w => ?_, hF⟩
    obtain ⟨d, rfl⟩ : ∃ q, d = q + 1 := ⟨d - 1, by simp [Ty.dep] at hd; omega⟩
    obtain ⟨fs, m, hfs, h2, hfl, hst⟩ := tyB_pair h
    simp [Ty.agg] at eu ev; subst eu; subst ev
    have hfo : P.fieldsOf T = fs := by simp [Program.fieldsOf, hfs]
    rw [run_equalIn_struct w d T _ _ (by rw [hfo]; exact hfs) hst, hfo]
    have := hF m fs.toList [] [] cu cv d (by simpa using h2) hfl rfl hd I x y hu hv w
    simpa using this
end Go.Proofs.Ytennedlpmacicaa.Pal
