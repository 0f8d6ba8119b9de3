/- Lists that are made, and grow: the machine's operations. -/
import Derived.Test.YtennedlpmacicaaMem4
import Derived.Laws.NewFold
namespace Go.Proofs.Ytennedlpmacicaa.Pal
open Go
variable {P : Program} {X Y : Nat → Nat → Prop} {G0 G G' : Gh} {w0 w w' : World} {s : St} {a : Act} {c : Cx}

theorem fillAll {e : Ty} {sz : Nat} (hsz : sz = e.cells) : ∀ (ps : List (Nat × V)) (vs : List (Nat × Value)) (xs : List e.D) (k : Nat) (A B : List Value), Parts G w ps vs → asAll e k ps = some xs → A.length = k * sz → B.length = ps.length * sz →
    ∃ cs, Instr.fill (fun i => some (i * sz, sz)) (A ++ B).toArray vs = some (A ++ cs).toArray ∧ All2 (DRep G.I e) xs cs
  | [], _, xs, k, A, B, .nil, h, _, hB => by
    simp only [asAll, Option.some.injEq] at h; subst h
    have : B = [] := List.eq_nil_of_length_eq_zero (by simpa using hB)
    subst this
    exact ⟨[], rfl, rfl⟩
  | (i, u) :: ps, _, xs, k, A, B, .cons (x := x) (xs := vs) hu hps, h, hA, hB => by
    simp only [asAll] at h
    cases hi : Nat.beq i k with
    | false => simp [hi] at h
    | true =>
      simp only [hi, cond_true, Option.bind_eq_some_iff, Option.some.injEq] at h
      obtain ⟨y, hy, ys, hys, rfl⟩ := h
      obtain rfl := beq_nat.1 hi
      obtain ⟨cu, hu1, hu2⟩ := hu
      have hcu := cells_of hu1 hu2
      have hlu : cu.length = sz := by rw [VRep.length u cu [] hu1, (as_cells e u y hy).1, hsz]
      have hd := as_rep e u y cu [] hy hu1
      have hBl : B.length = sz + ps.length * sz := by rw [hB, List.length_cons, Nat.add_mul]; omega
      obtain ⟨cs, h1, h2⟩ := fillAll hsz ps vs ys (i + 1) (A ++ cu) (B.drop sz) hps hys (by rw [List.length_append, hA, hlu, Nat.add_mul]; omega) (by rw [List.length_drop]; omega)
      refine ⟨cu ++ cs, ?_, cu, cs, rfl, hd, h2⟩
      have hB2 : B = B.take sz ++ B.drop sz := (List.take_append_drop sz B).symm
      rw [hB2, fill_step (A := A) (B := B.take sz) (C := B.drop sz) rfl hcu hlu hA.symm (by rw [List.length_take, hlu]; omega)]
      rw [← List.append_assoc, h1, List.append_assoc]
theorem parts_length {ps : List (Nat × V)} {vs : List (Nat × Value)} (h : Parts G w ps vs) : ps.length = vs.length := by
  induction h with
  | nil => rfl
  | cons _ _ ih => simp [ih]
theorem buildSlice_run {t E n m : Nat} {e : Ty} (hR : RS X G0 w0 G s a.tmps w) (hu : P.underlying t = some (.slice E)) (hE : tyB P m E e = true) {ps : List (Nat × V)} {parts : Array (Nat × Value)} {xs : List e.D}
    (hps : Parts G w ps parts.toList) (hn : ps.length = n) (hb : n * e.cells ≤ 16777216) (hx : asAll e 0 ps = some xs) :
    ∃ v w' G', (Instr.buildSlice t n parts).run P w = .ok v w' ∧ RSv X G0 w0 G' s a.tmps w' (.own e xs) v := by
  obtain ⟨z, hz, hzc⟩ := (tyB_i hE).zero w
  have hzl : z.cells.size = e.cells := by rw [← Array.length_toList, hzc, DRep.length e _ _ (DRep_zero G.I e)]
  have hsz := (tyB_i hE).sizeOf w
  have key : ∀ zc : Array Value, zc.size = n * e.cells → ∃ cs, Instr.fill (fun i => some (i * e.cells, e.cells)) zc parts.toList = some cs.toArray ∧ All2 (DRep G.I e) xs cs := by
    intro zc hzc
    obtain ⟨cs, h1, h2⟩ := fillAll (G := G) (w := w) rfl ps parts.toList xs 0 [] zc.toList hps hx (by simp) (by simp [hn, hzc])
    exact ⟨cs, by simpa using h1, h2⟩
  have hxl : xs.length = n := by
    have : ∀ (ps : List (Nat × V)) (k : Nat) (xs : List e.D), asAll e k ps = some xs → xs.length = ps.length := by
      intro ps
      induction ps with
      | nil => intro k xs h; simp only [asAll, Option.some.injEq] at h; subst h; rfl
      | cons p r ih =>
        intro k xs h
        obtain ⟨i, u⟩ := p
        simp only [asAll] at h
        cases hi : Nat.beq i k with
        | false => simp [hi] at h
        | true =>
          simp only [hi, cond_true, Option.bind_eq_some_iff, Option.some.injEq] at h
          obtain ⟨y, _, ys, hys, rfl⟩ := h
          simp [ih _ _ hys]
    rw [this ps 0 xs hx, hn]
  obtain ⟨cs, hf, hA⟩ := key ((Array.range (n * e.cells)).map ((if n * e.cells = 0 then (#[] : Array Value) else z.cells)[· % (if n * e.cells = 0 then (#[] : Array Value) else z.cells).size]!)) (by simp)
  have hcl := All2.length (fun x c => DRep.length e x c) xs cs hA
  refine ⟨.slice (some ⟨w.heap.size, 0, none⟩) n n, w.alloc (.cells cs.toArray E), _, ?_, by
    have := RS.fresh hR (T := E) (cap := n) (arr := cs.toArray) hA (by have := (tyB_i hE).pos; have : n ≤ n * e.cells := Nat.le_mul_of_pos_right n (by omega); omega) (by simp [hcl, hxl]) (fun j v h => by simpa using h)
    rw [hxl] at this; exact this⟩
  have hlim : ¬ (n * e.cells > 2 ^ 24) := by omega
  simp only [Instr.buildSlice, Sem.run_bind, run_underlying hu, Result.andThen_ok, hsz]
  rw [if_neg hlim]
  by_cases h0 : n * e.cells = 0
  · simp only [h0, if_true] at hf ⊢
    simp only [Sem.run_bind, Sem.run_pure, Result.andThen_ok, hf, newRow, run_newObj_alloc]
  · simp only [h0, if_false] at hf ⊢
    simp only [Sem.run_bind, Sem.run_pure, Result.andThen_ok, hz, hf, newRow, run_newObj_alloc]
theorem room_spec {α : Type} {xs ys : List α} (h : room xs ys = true) : xs.length + ys.length ≤ 4294967296 := by simpa [room] using h
theorem append_run {t t2 ty E E2 m : Nat} {e e' : Ty} {xs ys : List e.D} {x y : Value} (hR : RSv X G0 w0 G s a.tmps w (.own e xs) x) (hy : DVal G.I (.slc e) ys y) (hu : P.underlying t = some (.slice E)) (hu2 : P.underlying t2 = some (.slice E2)) (hE : tyB P m E e' = true) (hce : e'.cells = e.cells)
    (hroom : room xs ys = true) : ∃ v w' G', (Builtin.append_ #[t, t2] ty #[x, y]).run P w = .ok v w' ∧ RSv X G0 w0 G' s a.tmps w' (.own e (app xs ys)) v := by
  obtain ⟨ie, hie, his, hib, z, hz, hzc⟩ := (tyB_i hE).info
  rw [hce] at his
  have hzl : z.cells.size = e.cells := by rw [← Array.length_toList, hzc, DRep.length e' _ _ (DRep_zero G.I e'), hce]
  have hroom' := room_spec hroom
  obtain ⟨ay, m', cy, rfl, hyl, hyc, hyE⟩ := hy.slc
  obtain ⟨news, hnA, hnl, _, hnr⟩ := firstCells_run (P := P) hR.1.wf (ad := ay) (cap := cy) hyl hyE
  have hR0 := hR
  obtain ⟨hB, tE, tM, tV, h1, h2, ⟨_, ⟨ax, len, cap, rfl, hxl, hxc, hxO⟩, hx'⟩, h4, h5⟩ := hR
  simp only [V.agg, Bool.false_eq_true, if_false, List.cons.injEq, and_true] at hx'
  subst hx'
  by_cases hfit : len + m' ≤ cap
  · -- it stays where it is
    by_cases hy0 : ys = []
    · subst hy0
      simp only [List.length_nil] at hyl; subst hyl
      have hn0 : news = [] := List.eq_nil_of_length_eq_zero (by simpa using hnl)
      subst hn0
      have hb : (Builtin.append_ #[t, t2] ty #[.slice ax len cap, .slice ay 0 cy]).run P w = .ok (.slice ax len cap) w := by
        have hf := hnr w hB.wf.holds
        cases ax with
        | none => simp [Builtin.append_, run_underlying hu, run_underlying hu2, sizeOf, typeInfo, hie, his, Builtin.lenOf, hxc, hf]
        | some ad => simp [Builtin.append_, run_underlying hu, run_underlying hu2, sizeOf, typeInfo, hie, his, Builtin.lenOf, hxc, hf, storeCells]
      refine ⟨_, _, G, hb, ?_⟩
      have : app xs ([] : List e.D) = xs := by simp [app]
      rw [this]; exact hR0
    · have hm : 0 < m' := by rw [← hyl]; exact List.length_pos_iff.2 hy0
      rcases hxO with ⟨hc, _⟩ | ⟨g, rfl, _, _⟩
      · omega
      obtain ⟨hst, G', hR'⟩ := RSv.grow (xs := xs) (ys := ys) (by rw [hxl]; exact hR0) hnA (by omega) (by omega)
      refine ⟨.slice (some ⟨g, 0, none⟩) (len + m') cap, _, G', ?_, by rw [hxl, hyl] at hR'; exact hR'⟩
      have hf := hnr w hB.wf.holds
      have hs := hst P
      rw [hxl] at hs
      simp [Builtin.append_, run_underlying hu, run_underlying hu2, sizeOf, typeInfo, hie, his, Builtin.lenOf, hfit, hf, Addr.add_lit, hs]
  · -- it is laid anew
    have hx2 : xs = [] ∨ ∃ b o, ax = some ⟨b, o, none⟩ ∧ Elems G.I e.cells (DRep G.I e) b o xs := by
      rcases hxO with ⟨hc, _⟩ | ⟨g, ha, _, hel, _⟩
      · exact .inl (List.length_eq_zero_iff.1 (by omega))
      · exact .inr ⟨g, 0, ha, hel⟩
    obtain ⟨olds, hoA, hol, _, hor⟩ := firstCells_run (P := P) hB.wf (ad := ax) (cap := cap) hxl hx2
    have hA := All2.append xs ys olds news hoA hnA
    have hcl := All2.length (fun x c => DRep.length e x c) _ _ hA
    have hge := grownCap_ge w (len + m') cap E
    have hRd : RS X G0 w0 G s a.tmps w.drew := hR0.rs.drew
    have hfr := RS.fresh hRd (T := E) (cap := grownCap w (len + m') cap E) (arr := olds.toArray ++ news.toArray ++ Builtin.zeroCells z.cells (grownCap w (len + m') cap E - (len + m'))) hA (by rw [List.length_append]; have := grownCap_le_maxLen w (len + m') cap E (by unfold maxLen; omega); unfold maxLen at this; omega)
      (by simp only [Array.size_append, List.size_toArray, size_zeroCells, hzl, hol, hnl, ← Nat.add_mul]; congr 1; omega)
      (fun j v h => by
        have hj := (List.getElem?_eq_some_iff.1 h).1
        rw [← Array.getElem?_toList]
        simp only [Array.toList_append, List.append_assoc]
        rw [← List.append_assoc, List.getElem?_append_left hj]; exact h)
    refine ⟨.slice (some ⟨w.heap.size, 0, none⟩) (len + m') (grownCap w (len + m') cap E), _, _, ?_, by rw [List.length_append, hxl, hyl] at hfr; exact hfr⟩
    have h63' : ¬ (9223372036854775807 < ((len : Int) + (m' : Int))) := by omega
    have h48 : Builtin.nextslicecap (len + m') cap * ie.bytes ≤ 281474976710656 := growslice_fits (by omega) (by
      have h6 : (len + m') * ie.bytes ≤ 4294967296 * 32768 := Nat.mul_le_mul (by omega) hib
      omega)
    have h48' : ¬ (281474976710656 < Builtin.nextslicecap (len + m') cap * ie.bytes) := by omega
    have hf := hnr w.drew hRd.1.wf.holds
    have hfo := hor w.drew hRd.1.wf.holds
    simp [Builtin.append_, run_underlying hu, run_underlying hu2, sizeOf, typeInfo, zeroValue, hie, hz, his, Builtin.lenOf, hfit, h63', h48', Question.forced, hf, hfo, newRow, grownCap]
    rw [← Array.append_assoc]; congr 3
    simp
end Go.Proofs.Ytennedlpmacicaa.Pal
