/- What is built of parts; lists that are made, and grow. -/
import Derived.Test.YtennedlpmacicaaMem2
namespace Go.Proofs.Ytennedlpmacicaa.Pal
open Go
variable {P : Program} {X Y : Nat → Nat → Prop} {G0 G G' : Gh} {w0 w w' : World} {s : St} {a : Act} {c : Cx}

/-- Cells laid over others, from a place on. -/
theorem setSeg : ∀ (l : List Value) (k off : Nat) (A B : List Value) (C : List Value), off + k = A.length → l.length = B.length →
    ((l.zipIdx k).foldl (fun (cs : Array Value) (p : Value × Nat) => cs.setIfInBounds (off + p.2) p.1) (A ++ (B ++ C)).toArray) = (A ++ (l ++ C)).toArray
  | [], _, _, A, [], C, _, _ => rfl
  | [], _, _, _, _ :: _, _, _, h => by simp at h
  | x :: l, k, off, A, [], C, _, h => by simp at h
  | x :: l, k, off, A, b :: B, C, h, hl => by
    simp only [List.zipIdx_cons, List.foldl_cons]
    have e : ((A ++ (b :: B ++ C)).toArray).setIfInBounds (off + k) x = ((A ++ [x]) ++ (B ++ C)).toArray := by
      apply Array.ext'
      simp only [Array.toList_setIfInBounds, h]
      simp
    rw [e, setSeg l (k + 1) off (A ++ [x]) B C (by simp; omega) (by simpa using hl)]
    simp
theorem zipIdx_arr (v : Value) (off : Nat) (cells : Array Value) : v.cells.zipIdx.foldl (fun cs (p : Value × Nat) => cs.setIfInBounds (off + p.2) p.1) cells = (v.cells.toList.zipIdx 0).foldl (fun (cs : Array Value) (p : Value × Nat) => cs.setIfInBounds (off + p.2) p.1) cells := by
  rw [← Array.foldl_toList, Array.toList_zipIdx]
theorem fill_step {place : Nat → Option (Nat × Nat)} {i off size : Nat} {v : Value} {r : List (Nat × Value)} {A B C l : List Value} (hp : place i = some (off, size)) (hv : v.cells.toList = l) (hs : l.length = size) (hA : off = A.length) (hB : l.length = B.length) :
    Instr.fill place (A ++ (B ++ C)).toArray ((i, v) :: r) = Instr.fill place (A ++ (l ++ C)).toArray r := by
  have hsz : v.cells.size = l.length := by rw [← hv, Array.length_toList]
  rw [Instr.fill]
  simp only [hp]
  rw [if_neg]
  · congr 1
    have h1 := zipIdx_arr v off (A ++ (B ++ C)).toArray
    have h2 := setSeg l 0 off A B C (by simpa using hA) hB
    rw [hv] at h1
    exact h1.trans h2
  · simp only [hsz, hs, ne_eq, not_true, decide_false, Bool.false_or, decide_eq_true_eq, Bool.or_eq_true, not_or, gt_iff_lt, Nat.not_lt]
    simp [hA]
    omega
/-- The parts, related one by one. -/
inductive Parts (G : Gh) (w : World) : List (Nat × V) → List (Nat × Value) → Prop where
  | nil : Parts G w [] []
  | cons {i : Nat} {v : V} {x : Value} {ps : List (Nat × V)} {xs : List (Nat × Value)} : TRep G w v x [] → Parts G w ps xs → Parts G w ((i, v) :: ps) ((i, x) :: xs)
theorem opds_parts {ρ : Option Ty → Operand → Option V} (hρ : ∀ e x v, ρ e x = some v → TRep G w v (a.eval x) []) : ∀ (l : List (Nat × Operand)) (ps : List (Nat × V)), opds ρ l = some ps → Parts G w ps (l.map fun p => (p.1, a.eval p.2))
  | [], ps, h => by simp only [opds, Option.some.injEq] at h; subst h; exact .nil
  | (i, x) :: r, ps, h => by
    simp only [opds, Option.bind_eq_some_iff, Option.some.injEq] at h
    obtain ⟨v, hv, vs, hvs, rfl⟩ := h
    exact .cons (hρ _ _ _ hv) (opds_parts hρ r vs hvs)
theorem fillV_run {τ : Ty} {nf : Nat} {place : Nat → Option (Nat × Nat)}
    (hpl : match τ with
      | .arr n e => ∀ i, i < n → place i = some (i * e.cells, e.cells)
      | .pair _ _ => ∀ i, i < nf → place i = some (offs (fpath τ nf i), (fieldTy τ nf i).cells) ∧ pathOk (fpath τ nf i)
      | _ => True) :
    ∀ (ps : List (Nat × V)) (xs : List (Nat × Value)) (v v' : V) (cs : List Value), Parts G w ps xs → VRep G w v cs [] → fillV τ nf v ps = some v' →
      ∃ cs', Instr.fill place cs.toArray xs = some cs'.toArray ∧ VRep G w v' cs' [] ∧ v'.agg = v.agg ∧ v'.cells = v.cells
  | [], _, v, v', cs, .nil, hv, h => by
    simp only [fillV, Option.some.injEq] at h; subst h
    exact ⟨cs, rfl, hv, rfl, rfl⟩
  | (i, u) :: r, _, v, v', cs, .cons (x := x) (xs := xs) hu hps, hv, h => by
    obtain ⟨cu, hu1, hu2⟩ := hu
    have hcu := cells_of hu1 hu2
    have hlu := VRep.length u cu [] hu1
    have go : ∀ (p : List Step) (off size : Nat) (v1 : V), place i = some (off, size) → offs p = off → pathOk p → u.cells = size → V.put p v u = some v1 → fillV τ nf v1 r = some v' →
        ∃ cs', Instr.fill place cs.toArray ((i, x) :: xs) = some cs'.toArray ∧ VRep G w v' cs' [] ∧ v'.agg = v.agg ∧ v'.cells = v.cells := by
      intro p off size v1 hp ho hpo hs hput hrest
      obtain ⟨hc1, hag, d1, d0, d2, t', e1, hl1, hl0, hcn, hv1⟩ := put_rep p v u v1 cs cu [] [] hv hu1 hput hpo
      have ht' : t' = [] := by
        cases t' with
        | nil => rfl
        | cons g t => have := hcn g; simp [cnt] at this
      subst ht'
      obtain ⟨cs', g1, g2, g3, g4⟩ := fillV_run hpl r xs v1 v' (d1 ++ (cu ++ d2)) hps hv1 hrest
      refine ⟨cs', ?_, g2, g3.trans hag, g4.trans hc1⟩
      rw [e1, fill_step (A := d1) (B := d0) (C := d2) hp hcu (by rw [hlu, hs]) (by rw [hl1, ho]) hl0.symm]
      exact g1
    cases τ with
    | arr n e =>
      simp only [fillV] at h
      cases hb : Nat.blt i n && Nat.beq u.cells e.cells && !(isTup u) with
      | false => simp [hb] at h
      | true =>
        simp only [hb, cond_true, Option.bind_eq_some_iff] at h
        simp only [Bool.and_eq_true] at hb
        have hlt := Nat.le_of_ble_eq_true hb.1.1
        obtain ⟨v1, hput, hrest⟩ := h
        exact go [.ix n e.cells i] _ _ v1 (hpl i (by omega)) (by simp [offs]) (by refine ⟨?_, trivial⟩; omega) (beq_nat.1 hb.1.2) hput hrest
    | pair a b =>
      simp only [fillV] at h
      cases hb : Nat.blt i nf && Nat.beq u.cells (fieldTy (.pair a b) nf i).cells && !(isTup u) with
      | false => simp [hb] at h
      | true =>
        simp only [hb, cond_true, Option.bind_eq_some_iff] at h
        simp only [Bool.and_eq_true] at hb
        have hlt := Nat.le_of_ble_eq_true hb.1.1
        obtain ⟨v1, hput, hrest⟩ := h
        exact go _ _ _ v1 (hpl i (by omega)).1 rfl (hpl i (by omega)).2 (beq_nat.1 hb.1.2) hput hrest
    | _ => simp [fillV] at h
end Go.Proofs.Ytennedlpmacicaa.Pal
