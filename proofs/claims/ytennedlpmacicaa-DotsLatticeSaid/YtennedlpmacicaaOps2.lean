/- Operations that turn no memory, the rest of them. -/
import Derived.Test.YtennedlpmacicaaOps
namespace Go.Proofs.Ytennedlpmacicaa.Pal
open Go
variable {P : Program} {X : Nat → Nat → Prop} {G0 G : Gh} {w0 w : World} {s : St} {a : Act} {c : Cx}

theorem runV {m : Sem Value} {x : Value} {w' : World} (h : m.run P w = .ok x w') : (do pure (Next.value (← m)) : Sem Next).run P w = .ok (.value x) w' := by
  simp only [Sem.run_bind, h, Result.andThen_ok]; rfl
theorem add_plain' (g j n : Nat) : (⟨g, j, none⟩ : Addr).add n = ⟨g, j + n, none⟩ := by unfold Addr.add; split <;> simp_all
theorem offs_append : ∀ p q : List Step, offs (p ++ q) = offs p + offs q
  | [], q => by simp [offs]
  | .l :: p, q => by simp [offs, offs_append p q]
  | .r o :: p, q => by simp [offs, offs_append p q]; omega
  | .ix n sz i :: p, q => by simp [offs, offs_append p q]; omega
theorem pathOk_append : ∀ p q : List Step, pathOk p → pathOk q → pathOk (p ++ q)
  | [], q, _, h => h
  | .l :: p, q, h, k => pathOk_append p q h k
  | .r o :: p, q, h, k => pathOk_append p q h k
  | .ix n sz i :: p, q, h, k => ⟨h.1, pathOk_append p q h.2 k⟩
theorem TRep.ref_mk {k : Nat} {p : List Step} (hp : pathOk p) : TRep G w (.ref k p) (.pointer (some (G.addr k p))) [] := ⟨_, ⟨rfl, hp, rfl⟩, rfl⟩
theorem TRep.ip_mk {τ : Ty} {y : τ.D} {b o : Nat} {cc : List Value} (h1 : DRep G.I τ y cc) (h2 : AtI G.I b o cc) : TRep G w (.ip τ y) (.pointer (some ⟨b, o, none⟩)) [] := ⟨_, ⟨b, o, cc, rfl, h1, h2, rfl⟩, rfl⟩
theorem field_at (hT : TT P c) {t : Nat} {ti : TInfo} {f : Nat} (hl : lkN c.types t = some ti) (hf : fieldOK ti f = true) :
    ∃ fs g, P.underlying t = some (.struct fs) ∧ fs[f]? = some g ∧ g.offset = offs (fpath ti.ty ti.nf f) ∧ pathOk (fpath ti.ty ti.nf f) ∧ ∃ z, (∀ w, (sizeOf g.type).run P w = .ok z w) ∧ z ≠ 0 := by
  obtain ⟨h1, _, _, h4⟩ := hT.ti hl
  simp only [fieldOK, Bool.and_eq_true] at hf
  obtain ⟨hp, hb⟩ := hf
  have hlt := Nat.le_of_ble_eq_true hb
  cases hty : ti.ty with
  | pair x y =>
    rw [hty] at h1
    obtain ⟨fs, m, hfs, h2, hfl, _⟩ := tyB_pair h1
    have hn := h4 fs hfs
    obtain ⟨g, e1, e2, e3, e4⟩ := flds_at (tyB P m) fs.toList 0 (.pair x y) f hfl (by simp; omega)
    have hlen : fs.toList.length = ti.nf := by simpa using hn
    rw [hlen] at e2 e4
    refine ⟨fs, g, hfs, by simpa using e1, by rw [e2]; simp, e4, _, fun w => (tyB_i e3).sizeOf w, ?_⟩
    have := (tyB_i e3).pos
    omega
  | _ => simp [hty] at hp
theorem TT.lay (hT : TT P c) {t : Nat} {ly : Nat × Bool} (h : c.lay t = some ly) (w : World) : (sizeOf t).run P w = .ok ly.1 w ∧ (isAgg t).run P w = .ok ly.2 w := by
  unfold Cx.lay at h
  split at h
  · rename_i ti hl
    injection h with h; subst h
    have := (hT.ti hl).1
    exact ⟨(tyB_i this).sizeOf w, tyB_agg this w⟩
  · cases hp : memN t c.ptrs with
    | false => simp [hp] at h
    | true =>
      simp only [hp, cond_true, Option.some.injEq] at h; subst h
      have := hT.ptr t hp
      unfold ptB at this
      split at this
      · rename_i e i he hi
        simp only [Bool.and_eq_true] at this
        exact ⟨by simp [sizeOf, typeInfo, hi, beq_nat.1 this.1], by simp [isAgg, run_underlying he]⟩
      · cases this
theorem TT.zero (hT : TT P c) {t : Nat} {z : V} (h : c.zero t = some z) (G : Gh) (w : World) : ∃ x cs, (zeroValue t).run P w = .ok x w ∧ VRep G w z cs [] ∧ x.cells.toList = cs ∧ z.refs = [] := by
  unfold Cx.zero at h
  split at h
  · rename_i ti hl
    injection h with h; subst h
    obtain ⟨x, h1, h2⟩ := (tyB_i (hT.ti hl).1).zero w
    exact ⟨x, zcells ti.ty, h1, zeroV_rep G w ti.ty, h2, zeroV_refs ti.ty⟩
  · cases hp : memN t c.ptrs with
    | false => simp [hp] at h
    | true =>
      simp only [hp, cond_true, Option.some.injEq] at h; subst h
      have := hT.ptr t hp
      unfold ptB at this
      split at this
      · rename_i e i he hi
        simp only [Bool.and_eq_true] at this
        have hz := this.2
        split at hz
        · rename_i hz'
          exact ⟨.pointer none, [.pointer none], by simp [zeroValue, typeInfo, hi, hz'], ⟨rfl, rfl⟩, rfl, rfl⟩
        · cases hz
      · cases this
theorem fieldAt_run {t f : Nat} {b o : Nat} {fs : Array Field} {g : Field} {z : Nat} (hu : P.underlying t = some (.struct fs)) (hg : fs[f]? = some g) (hz : ∀ w, (sizeOf g.type).run P w = .ok z w) (h0 : z ≠ 0) :
    (Instr.fieldAt t (.pointer (some ⟨b, o, none⟩)) f).run P w = .ok (.pointer (some ⟨b, o + g.offset, none⟩)) w := by
  simp only [Instr.fieldAt, Sem.run_bind, run_underlying hu, Result.andThen_ok, hg, Instr.sureAddr]
  simp only [fieldPlace, Sem.run_bind, hz, Result.andThen_ok, Sem.run_pure, if_neg h0, add_plain']
theorem inL_spec {α : Type} {i : Int} {xs : List α} (h : inL i xs = true) : 0 ≤ i ∧ i < xs.length ∧ natOf i < xs.length := by
  simp only [inL, Bool.and_eq_true, decide_eq_true_eq] at h
  exact ⟨h.1, h.2, by simp only [natOf]; omega⟩
theorem inB_spec {i : Int} {n : Nat} (h : inB i n = true) : 0 ≤ i ∧ i < n ∧ natOf i < n := by
  simp only [inB, Bool.and_eq_true, decide_eq_true_eq] at h
  exact ⟨h.1, h.2, by simp only [natOf]; omega⟩
theorem inS_spec {l h n : Int} (hh : inS l h n = true) : 0 ≤ l ∧ l ≤ h ∧ h ≤ n := by
  simp only [inS, Bool.and_eq_true, decide_eq_true_eq] at hh
  exact ⟨hh.1.1, hh.1.2, hh.2⟩
theorem DVal.slc {e : Ty} {xs : List e.D} {x : Value} (h : DVal G.I (.slc e) xs x) : ∃ ad len cap, x = .slice ad len cap ∧ xs.length = len ∧ len ≤ cap ∧ (xs = [] ∨ ∃ b o, ad = some ⟨b, o, none⟩ ∧ Elems G.I e.cells (DRep G.I e) b o xs) :=
  (h.trep (w := default)).dat_slc
theorem rd_at {e : Ty} {xs : List e.D} {i : Nat} (h : i < xs.length) : xs[i]? = some (rd e xs i) := by
  simp [rd, List.getD, List.getElem?_eq_getElem h]
theorem indexSlice_run {t E : Nat} {e : Ty} {m : Nat} (hu : P.underlying t = some (.slice E)) (hE : tyB P m E e = true) {xs : List e.D} {v : Value} (hv : DVal G.I (.slc e) xs v) {k : IntKind} {i : Int} (hi : inL i xs = true) :
    ∃ x, (Instr.indexAt t v (.int k i)).run P w = .ok x w ∧ TRep G w (.ip e (rd e xs (natOf i))) x [] := by
  obtain ⟨h0, h1, h2⟩ := inL_spec hi
  obtain ⟨ad, len, cap, rfl, hl, hc, hx⟩ := hv.slc
  rcases hx with rfl | ⟨b, o, rfl, hel⟩
  · simp at h2
  obtain ⟨cc, hcc, hat⟩ := hel (natOf i) (rd e xs (natOf i)) (rd_at h2)
  refine ⟨.pointer (some ⟨b, o + natOf i * e.cells, none⟩), ?_, TRep.ip_mk hcc hat⟩
  simp only [Instr.indexAt, asIntOf, Sem.run_bind, Sem.run_pure, Result.andThen_ok, run_underlying hu]
  rw [if_pos ⟨h0, by rw [← hl]; exact h1⟩]
  simp only [Sem.run_bind, (tyB_i hE).sizeOf, Result.andThen_ok, Sem.run_pure, add_plain']
  rfl
theorem indexArr_run {t E : Nat} {e : Ty} {m q : Nat} (hu : P.underlying t = some (.array q E)) (hE : tyB P m E e = true) {b o : Nat} {k : IntKind} {i : Int} (hi : inB i q = true) :
    (Instr.indexAt t (.pointer (some ⟨b, o, none⟩)) (.int k i)).run P w = .ok (.pointer (some ⟨b, o + natOf i * e.cells, none⟩)) w := by
  obtain ⟨h0, h1, h2⟩ := inB_spec hi
  simp only [Instr.indexAt, asIntOf, Sem.run_bind, Sem.run_pure, Result.andThen_ok, run_underlying hu, Instr.sureAddr]
  rw [if_pos ⟨h0, h1⟩]
  simp only [Sem.run_bind, (tyB_i hE).sizeOf, Result.andThen_ok, Sem.run_pure, add_plain']
  rfl
theorem Elems.drop {α : Type} {I : Im} {sz : Nat} {R : α → List Value → Prop} {b o : Nat} {xs : List α} (h : Elems I sz R b o xs) (l n : Nat) : Elems I sz R b (o + l * sz) ((xs.take n).drop l) := by
  intro i x hx
  rw [List.getElem?_drop] at hx
  have hx' : xs[l + i]? = some x := by
    rw [List.getElem?_take] at hx
    split at hx
    · exact hx
    · cases hx
  obtain ⟨cc, h1, h2⟩ := h (l + i) x hx'
  refine ⟨cc, h1, ?_⟩
  have : o + l * sz + i * sz = o + (l + i) * sz := by rw [Nat.add_mul]; omega
  rw [this]; exact h2
theorem bounds_run {lo hi : Option Value} {len cap : Nat} {isSlice : Bool} {l h : Int} {k1 k2 : IntKind} (hlo : lo = none ∧ l = 0 ∨ lo = some (.int k1 l)) (hhi : hi = none ∧ h = len ∨ hi = some (.int k2 h)) (hlc : len ≤ cap) (hb : inS l h len = true) :
    (Instr.sliceBounds isSlice len cap lo hi none).run P w = .ok (l.toNat, h.toNat, cap) w := by
  obtain ⟨h1, h2, h3⟩ := inS_spec hb
  have e1 : ∀ code, (Instr.sliceBound (.int k2 h) cap code).run P w = .ok h.toNat w := fun code => by
    simp only [Instr.sliceBound, asIntOf, Sem.run_bind, Sem.run_pure, Result.andThen_ok]
    rw [if_pos ⟨by omega, by omega⟩]; rfl
  have e2 : ∀ code, (Instr.sliceBound (.int k1 l) h.toNat code).run P w = .ok l.toNat w := fun code => by
    simp only [Instr.sliceBound, asIntOf, Sem.run_bind, Sem.run_pure, Result.andThen_ok]
    rw [if_pos ⟨by omega, by omega⟩]; rfl
  rcases hlo with ⟨rfl, rfl⟩ | rfl <;> rcases hhi with ⟨rfl, rfl⟩ | rfl
  · simp [Instr.sliceBounds]
  · simp [Instr.sliceBounds, e1]
  · have e2' : ∀ code, (Instr.sliceBound (.int k1 l) len code).run P w = .ok l.toNat w := fun code => by simpa using e2 code
    simp [Instr.sliceBounds, e2']
  · simp [Instr.sliceBounds, e1, e2]
theorem sliceSlc_run {t E : Nat} {e : Ty} {m : Nat} (hu : P.underlying t = some (.slice E)) (hE : tyB P m E e = true) {xs : List e.D} {v : Value} (hv : DVal G.I (.slc e) xs v) {lo hi : Option Value} {l h : Int} {k1 k2 : IntKind}
    (hlo : lo = none ∧ l = 0 ∨ lo = some (.int k1 l)) (hhi : hi = none ∧ h = ilen xs ∨ hi = some (.int k2 h)) (hb : inS l h (ilen xs) = true) :
    ∃ x, (Instr.sliceAt t v lo hi none).run P w = .ok x w ∧ TRep G w (.dat (.slc e) (piece xs l h)) x [] := by
  obtain ⟨h1, h2, h3⟩ := inS_spec hb
  obtain ⟨ad, len, cap, rfl, hl, hc, hx⟩ := hv.slc
  have h3' : h ≤ len := by simp only [ilen] at h3; omega
  have hbr := bounds_run (P := P) (w := w) (isSlice := true) hlo (by simpa [ilen, hl] using hhi) hc (by simpa [ilen, hl] using hb)
  refine ⟨.slice (if cap = l.toNat then ad else ad.map (·.add (l.toNat * e.cells))) (h.toNat - l.toNat) (cap - l.toNat), ?_, ?_⟩
  · simp only [Instr.sliceAt, Sem.run_bind, run_underlying hu, Result.andThen_ok, Instr.slice, hbr, (tyB_i hE).sizeOf, Sem.run_pure]
  · refine ⟨_, ⟨⟨_, _, _, rfl, ?_, by omega, ?_⟩, rfl⟩, rfl⟩
    · simp only [piece, List.length_drop, List.length_take]; omega
    · rcases hx with rfl | ⟨b, o, rfl, hel⟩
      · exact .inl (by simp [piece])
      · by_cases hp : piece xs l h = []
        · exact .inl hp
        · refine .inr ⟨b, o + l.toNat * e.cells, ?_, hel.drop l.toNat h.toNat⟩
          have : cap ≠ l.toNat := by
            intro ec
            apply hp
            apply List.length_eq_zero_iff.1
            simp only [piece, List.length_drop, List.length_take]
            omega
          rw [if_neg this]
          simp [add_plain']
theorem sliceStr_run {t : Nat} (hu : P.underlying t = some .string) {xs : List UInt8} {lo hi : Option Value} {l h : Int} {k1 k2 : IntKind}
    (hlo : lo = none ∧ l = 0 ∨ lo = some (.int k1 l)) (hhi : hi = none ∧ h = ilen xs ∨ hi = some (.int k2 h)) (hb : inS l h (ilen xs) = true) :
    (Instr.sliceAt t (.string ⟨xs.toArray⟩) lo hi none).run P w = .ok (.string ⟨(piece xs l h).toArray⟩) w := by
  have hsz := ba_size xs
  have hbr := bounds_run (P := P) (w := w) (isSlice := false) (len := xs.length) (cap := xs.length) hlo (by simpa [ilen] using hhi) (Nat.le_refl _) (by simpa [ilen] using hb)
  simp only [Instr.sliceAt, Sem.run_bind, run_underlying hu, Result.andThen_ok, Instr.slice, hsz, hbr, Sem.run_pure]
  simp only [Option.isSome_none, Bool.false_eq_true, if_false, Sem.run_bind, Sem.run_pure, Result.andThen_ok, hbr]
  congr 2
  apply ByteArray.ext
  rw [ByteArray.data_extract]
  apply Array.ext'
  simp [piece, List.extract, List.drop_take]
theorem index_run {t : Nat} (hu : P.underlying t = some .string) {xs : List UInt8} {k : IntKind} {i : Int} (hi : inL i xs = true) :
    (Instr.index t (.string ⟨xs.toArray⟩) (.int k i)).run P w = .ok (.int .u8 (byteAt xs i)) w := by
  obtain ⟨h0, h1, h2⟩ := inL_spec hi
  have h2' : i.toNat < xs.length := h2
  simp only [Instr.index, asIntOf, Sem.run_bind, Sem.run_pure, Result.andThen_ok, run_underlying hu, if_pos h0]
  have : (⟨xs.toArray⟩ : ByteArray)[i.toNat]? = some (xs[i.toNat]) := by
    rw [getElem?_pos _ _ (by rw [ba_size]; exact h2')]
    rfl
  rw [this]
  simp only [Sem.run_pure, byteAt, List.getD, List.getElem?_eq_getElem h2']
  rfl
theorem len_run {t ty : Nat} {τ : Ty} {v : V} {x : Value} {n : Int} {ts : List Nat} (ht : tyB P 40 t τ = true) (hv : TRep G w v x ts) (hok : lenOK τ v = true) (hn : lenV v = some n) :
    (Builtin.len_ #[t] ty #[x]).run P w = .ok (.int .i64 n) w := by
  unfold lenOK at hok
  split at hok
  · obtain ⟨E, m, hu, _⟩ := tyB_slc ht
    obtain ⟨ad, len, cap, rfl, hl, _⟩ := hv.dat_slc
    simp only [lenV, Option.some.injEq] at hn
    subst hn
    simp [Builtin.len_, run_underlying hu, goInt, ilen, hl]
  · have hu := tyB_str ht
    have e1 := hv.dat_str
    subst e1
    simp only [lenV, Option.some.injEq] at hn
    subst hn
    simp [Builtin.len_, run_underlying hu, goInt, ilen, ba_size]
  · obtain ⟨E, m, hu, _⟩ := tyB_arr ht
    simp only [lenV, Option.some.injEq] at hn
    subst hn
    simp [Builtin.len_, run_underlying hu, goInt, beq_nat.1 hok]
  · cases hok
theorem convert_run {q t : Nat} (hq : ∃ d, P.underlying q = some d) {k k' : IntKind} {n : Int} (hu : P.underlying t = some (.int k)) : (convert q t (.int k' n)).run P w = .ok (.int k (iwrap k n)) w := by
  obtain ⟨d, hd⟩ := hq
  simp [convert, run_underlying hd, run_underlying hu, Conv.intToInt, iwrap]
theorem convertS_run {q t : Nat} (hq : P.underlying q = some .string) {b : ByteArray} (hu : P.underlying t = some .string) : (convert q t (.string b)).run P w = .ok (.string b) w := by
  simp [convert, run_underlying hq, run_underlying hu]
end Go.Proofs.Ytennedlpmacicaa.Pal
