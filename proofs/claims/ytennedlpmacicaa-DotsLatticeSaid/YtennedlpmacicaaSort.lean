/- slices.SortFunc: what it leaves in a row of the call's own. -/
import Derived.Test.YtennedlpmacicaaFrz
import Derived.Test.YtennedlpmacicaaFns
import Derived.Shelf.SlSortCmp.WholeK
import Derived.Shelf.SlSortCmp.NoneTotal
namespace Go.Proofs.Ytennedlpmacicaa.Pal
open Go Go.Sort
variable {P : Program} {X Y : Nat → Nat → Prop} {G0 G G' : Gh} {w0 w w' : World} {s : St} {a : Act} {c : Cx} {Q : Exit → Act → World → Prop}

/-! ### Cells of plain data -/
def plainT : Ty → Bool
  | .int _ | .bool | .str => true
  | .slc _ | .arr .. => false
  | .pair a b => plainT a && plainT b
def encT : (τ : Ty) → τ.D → List Value
  | .int k, n => [.int k n]
  | .bool, b => [.bool b]
  | .str, s => [.string ⟨s.toArray⟩]
  | .slc _, _ => []
  | .arr .., _ => []
  | .pair a b, x => encT a x.1 ++ encT b x.2
theorem plain_flat : ∀ τ : Ty, plainT τ = true → flat τ = true
  | .int _, _ => rfl
  | .bool, _ => rfl
  | .str, _ => rfl
  | .slc _, h => by simp [plainT] at h
  | .arr _ _, h => by simp [plainT] at h
  | .pair a b, h => by
    simp only [plainT, Bool.and_eq_true] at h
    simp [flat, plain_flat a h.1, plain_flat b h.2]
theorem encT_rep {I : Im} : ∀ (τ : Ty) (x : τ.D) (cs : List Value), plainT τ = true → (DRep I τ x cs ↔ cs = encT τ x)
  | .int _, _, _, _ => Iff.rfl
  | .bool, _, _, _ => Iff.rfl
  | .str, _, _, _ => Iff.rfl
  | .slc _, _, _, h => by simp [plainT] at h
  | .arr _ _, _, _, h => by simp [plainT] at h
  | .pair a b, x, cs, h => by
    simp only [plainT, Bool.and_eq_true] at h
    constructor
    · rintro ⟨c1, c2, e, h1, h2⟩
      rw [e, (encT_rep a x.1 c1 h.1).1 h1, (encT_rep b x.2 c2 h.2).1 h2]; rfl
    · intro e
      exact ⟨encT a x.1, encT b x.2, e, (encT_rep a _ _ h.1).2 rfl, (encT_rep b _ _ h.2).2 rfl⟩
theorem encT_len (τ : Ty) (h : plainT τ = true) (x : τ.D) : (encT τ x).length = τ.cells := DRep.length (I := fun _ _ => none) τ x _ ((encT_rep τ x _ h).2 rfl)
theorem all2_flat {e : Ty} (h : plainT e = true) : ∀ (xs : List e.D) (cc : List Value), All2 (DRep (fun _ _ => none) e) xs cc ↔ cc = xs.flatMap (encT e)
  | [], cc => Iff.rfl
  | x :: xs, cc => by
    constructor
    · rintro ⟨c1, c2, e1, h1, h2⟩
      rw [e1, (encT_rep e x c1 h).1 h1, (all2_flat h xs c2).1 h2]; rfl
    · intro e1
      exact ⟨encT e x, xs.flatMap (encT e), e1, (encT_rep e x _ h).2 rfl, (all2_flat h xs _).2 rfl⟩
theorem flatMap_len {e : Ty} (h : plainT e = true) (xs : List e.D) : (xs.flatMap (encT e)).length = xs.length * e.cells := by
  have := All2.len ((all2_flat h xs _).2 rfl)
  exact this
theorem flatMap_get {e : Ty} (h : plainT e = true) : ∀ (xs : List e.D) (j : Nat), j < xs.length * e.cells → ∃ x, xs[j / e.cells]? = some x ∧ (xs.flatMap (encT e))[j]? = (encT e x)[j % e.cells]?
  | [], j, hj => by simp at hj
  | x :: xs, j, hj => by
    have hl := encT_len e h x
    rcases Nat.lt_or_ge j e.cells with h1 | h1
    · refine ⟨x, by rw [Nat.div_eq_of_lt h1]; rfl, ?_⟩
      rw [List.flatMap_cons, List.getElem?_append_left (by omega), Nat.mod_eq_of_lt h1]
    · have hpos : 0 < e.cells := by
        rcases Nat.eq_zero_or_pos e.cells with h0 | h0
        · rw [h0] at hj; simp at hj
        · exact h0
      obtain ⟨y, g1, g2⟩ := flatMap_get h xs (j - e.cells) (by simp only [List.length_cons, Nat.add_mul] at hj; omega)
      have hd : j / e.cells = (j - e.cells) / e.cells + 1 := by rw [Nat.div_eq_sub_div hpos h1]
      have hm : j % e.cells = (j - e.cells) % e.cells := Nat.mod_eq_sub_mod h1
      refine ⟨y, by rw [hd]; simpa using g1, ?_⟩
      rw [List.flatMap_cons, List.getElem?_append_right (by omega), hl, hm]; exact g2
/-! ### The order -/
theorem ins_perm {α : Type} (lt : α → α → Bool) (x : α) : ∀ l, (ins lt x l).Perm (x :: l)
  | [] => List.Perm.refl _
  | y :: r => by
    simp only [ins]
    cases lt y x with
    | true => exact ((ins_perm lt x r).cons y).trans (List.Perm.swap x y r)
    | false => exact List.Perm.refl _
theorem isort_perm {α : Type} (lt : α → α → Bool) : ∀ l, (isort lt l).Perm l
  | [] => List.Perm.refl _
  | x :: r => (ins_perm lt x _).trans ((isort_perm lt r).cons x)
theorem ins_sorted {α : Type} {lt : α → α → Bool} (hO : SWO lt) (x : α) : ∀ l, l.Pairwise (fun a b => lt b a = false) → (ins lt x l).Pairwise (fun a b => lt b a = false)
  | [], _ => List.pairwise_singleton _ _
  | y :: r, h => by
    simp only [ins]
    rw [List.pairwise_cons] at h
    have asym : ∀ a b, lt a b = true → lt b a = false := fun a b hab => by
      cases hba : lt b a with
      | false => rfl
      | true => have := hO.trans a b a hab hba; rw [hO.irrefl] at this; cases this
    cases hyx : lt y x with
    | true =>
      simp only [cond_true]
      refine List.pairwise_cons.2 ⟨fun z hz => ?_, ins_sorted hO x r h.2⟩
      have hz' := (ins_perm lt x r).mem_iff.1 hz
      rcases List.mem_cons.1 hz' with rfl | hz'
      · exact asym _ _ hyx
      · exact h.1 z hz'
    | false =>
      simp only [cond_false]
      refine List.pairwise_cons.2 ⟨fun z hz => ?_, List.pairwise_cons.2 h⟩
      rcases List.mem_cons.1 hz with rfl | hz
      · exact hyx
      · exact hO.ntrans z y x (h.1 z hz) hyx
theorem isort_sorted {α : Type} {lt : α → α → Bool} (hO : SWO lt) : ∀ l, (isort lt l).Pairwise (fun a b => lt b a = false)
  | [] => List.Pairwise.nil
  | x :: r => ins_sorted hO x _ (isort_sorted hO r)
theorem sorted_unique {α : Type} {lt : α → α → Bool} (hT : ∀ x y, lt x y = false → lt y x = false → x = y) {l1 l2 : List α} (hp : l1.Perm l2) (h1 : l1.Pairwise (fun a b => lt b a = false)) (h2 : l2.Pairwise (fun a b => lt b a = false)) : l1 = l2 :=
  List.Perm.eq_of_pairwise (fun x y _ _ hx hy => hT x y hy hx) h1 h2 hp

/-! ### The contract -/
theorem run_dat (e : Ty) (hp : plainT e = true) (ha : e.agg = true) (G : Gh) (w : World) (x : e.D) : TRep G w (.dat e x) (.agg (encT e x).toArray) [] := by
  refine ⟨encT e x, ⟨(encT_rep e x _ hp).2 rfl, rfl⟩, ?_⟩
  show (if e.agg then _ else _)
  rw [ha]; rfl
/-- Who calls with plain data, and knows of no memory, finds it as it was. -/
theorem plain_call {g : Nat} {ce : Entry} {args : List V} {argv : List Value} {v : V} (hg : CallOK P g ce) (eg : ∀ args w, (callFunc g args).run P w = .ok (.enter g args) w) (hv : ce.val args [] = some (v, []))
    (hA : ∀ G, ArgsRep G w args argv []) : Calls P g argv.toArray w fun e' w' => (∃ G' y t, e' = .returned y ∧ TRep G' w' v y t) ∧ ∃ q os, w' = grow (w.drewN q) os := by
  let G : Gh := { I := fun _ _ => none, O := fun _ _ => none, ρ := fun _ => (0, 0) }
  have hdo := hg.ok args [] v [] hv (fun _ _ => False) G w argv [] [] ⟨fun _ _ _ h => (by cases h), fun _ _ _ h => (by cases h), fun _ _ _ h => (by cases h)⟩ (fun _ _ _ h => (by cases h)) (hA G) rfl (fun g => by simp) (fun g hg => by simp at hg)
  rcases hdo with ⟨_, h⟩ | ⟨v', w', h, _⟩
  · refine Calls.mono h fun e' w' he => ?_
    cases e' with
    | returned y =>
      obtain ⟨G', hE, _, _, tV, tM, tX, hT, _⟩ := he
      refine ⟨⟨G', y, tV, rfl, hT⟩, w'.drawn - w.drawn, w'.heap.extract w.heap.size w'.heap.size, ?_⟩
      have hheap : w'.heap = w.heap ++ w'.heap.extract w.heap.size w'.heap.size := by
        apply Array.ext_getElem?
        intro i
        rcases Nat.lt_or_ge i w.heap.size with hi | hi
        · rw [Array.getElem?_append_left hi]
          rcases hE.evo.block i hi with h | ⟨c, c', t, fr, h1, h2, h3, h4⟩
          · exact h
          · have : c' = c := Array.ext_getElem? fun j => h4 j (fun h => h)
            rw [h1, h2, this]
        · rw [Array.getElem?_append_right hi, Array.getElem?_extract]
          split
          · congr 1; omega
          · rename_i h5
            rw [Array.getElem?_eq_none]
            have := hE.evo.size
            rcases Nat.lt_or_ge i w'.heap.size with h6 | h6
            · exfalso; apply h5; omega
            · exact h6
      have e1 := hE.evo.os; have e2 := hE.evo.tape; have e3 := hE.evo.output; have e4 := hE.evo.drawn
      unfold grow World.drewN
      cases w' with
      | mk h1 t1 d1 o1 p1 =>
        cases w with
        | mk h0 t0 d0 o0 p0 =>
          simp only at e1 e2 e3 e4 hheap ⊢
          subst e1; subst e2; subst e3
          have : d0 + (d1 - d0) = d1 := by omega
          rw [this, ← hheap]
    | _ => exact he.elim
  · rw [eg] at h; cases h
instance inhD (e : Ty) : Inhabited e.D := ⟨e.zero⟩
theorem cmp_lays {g : Nat} {ce : Entry} {e : Ty} {cf : e.D → e.D → Int} (hp : plainT e = true) (ha : e.agg = true) (hg : CallOK P g ce) (eg : ∀ args w, (callFunc g args).run P w = .ok (.enter g args) w)
    (hcf : ∀ x y, ce.val [.dat e x, .dat e y] [] = some (.dat (.int .i64) (cf x y), [])) (blk off size : Nat) (w : World) : CmpLays P g #[] (encT e) e.cells cf blk off size w := by
  intro m os dk _ x y
  have h := plain_call (w := sortWorldK (encT e) e.cells w blk off m dk os) (argv := [.agg (encT e x).toArray, .agg (encT e y).toArray]) hg eg (hcf x y)
    (fun G => ⟨_, _, [], [], rfl, rfl, run_dat e hp ha _ _ x, _, _, [], [], rfl, rfl, run_dat e hp ha _ _ y, rfl, rfl⟩)
  have h' : Calls P g (#[.agg (encT e x).toArray, .agg (encT e y).toArray] ++ #[]) (sortWorldK (encT e) e.cells w blk off m dk os) _ := h
  refine Calls.mono h' fun e' w' hh => ?_
  obtain ⟨⟨G', y', t, h1, h2⟩, h3⟩ := hh
  exact ⟨by rw [h1, h2.dat_int], h3⟩
theorem holds_raw {e : Ty} (hp : plainT e = true) {gb : Nat} {xs : List e.D} {m : Nat} (h : RawB w gb e xs m) : HoldsK (encT e) e.cells w gb 0 xs.toArray ∧ gb < w.heap.size := by
  obtain ⟨cells, t, cc, hg, hs, hA, hc⟩ := h
  refine ⟨fun j hj => ?_, (Array.getElem?_eq_some_iff.1 hg).1⟩
  simp only [size_flatK, List.size_toArray] at hj
  have hcc := (all2_flat hp xs cc).1 hA
  obtain ⟨x, g1, g2⟩ := flatMap_get hp xs j hj
  have hpos : 0 < e.cells := by
    rcases Nat.eq_zero_or_pos e.cells with h0 | h0
    · rw [h0] at hj; simp at hj
    · exact h0
  have hm : j % e.cells < (encT e x).length := by rw [encT_len e hp]; exact Nat.mod_lt _ hpos
  constructor
  · rw [cell_of hg, Nat.zero_add, get_flatK _ _ _ _ (by simpa using hj)]
    have h1 : (xs.toArray)[j / e.cells]! = x := by
      rw [Array.getElem!_eq_getD, Array.getD_eq_getD_getElem?]; simp [g1]
    rw [h1]
    have h2 : cc[j]? = some ((encT e x)[j % e.cells]) := by rw [hcc, g2, List.getElem?_eq_getElem hm]
    rw [hc j _ h2, getElem!_pos (encT e x) (j % e.cells) hm]; rfl
  · simp only [World.frozen?, hg]; simp

theorem heap_put {gb : Nat} {F : Array Value} {cells : Array Value} {t : TypeId} {fr : Nat × Nat} (hg : w.heap[gb]? = some (.cells cells t fr)) (n : Nat) (os : Array Obj) :
    (grow (putRow id (Sort.ahead w n) gb 0 F) os).heap[gb]? = some (.cells (putCells id 0 F cells) t fr) ∧ (∀ b, b < w.heap.size → b ≠ gb → (grow (putRow id (Sort.ahead w n) gb 0 F) os).heap[b]? = w.heap[b]?) ∧ w.heap.size ≤ (grow (putRow id (Sort.ahead w n) gb 0 F) os).heap.size := by
  have hlt := (Array.getElem?_eq_some_iff.1 hg).1
  refine ⟨?_, fun b hb hne => ?_, ?_⟩
  · show ((w.heap.modify gb _) ++ os)[gb]? = _
    rw [Array.getElem?_append_left (by simpa using hlt), Array.getElem?_modify, if_pos rfl, hg]; rfl
  · show ((w.heap.modify gb _) ++ os)[b]? = _
    rw [Array.getElem?_append_left (by simpa using hb), Array.getElem?_modify, if_neg (by omega)]
  · show w.heap.size ≤ ((w.heap.modify gb _) ++ os).size
    simp
theorem sort_ok {ρ : Shelf.Ren} {e : Ty} {g : Nat} {ce : Entry} {cf : e.D → e.D → Int} (L : SlLaysF0.n6 P ρ) (hp : plainT e = true) (ha : e.agg = true) (aE : ∀ w, (isAgg (ρ.t 24)).run P w = .ok true w) (zE : ∀ w, (Go.sizeOf (ρ.t 24)).run P w = .ok e.cells w)
    (hO : SWO (ltOf cf)) (hT : ∀ x y, ltOf cf x y = false → ltOf cf y x = false → x = y) (hg : CallOK P g ce) (eg : ∀ args w, (callFunc g args).run P w = .ok (.enter g args) w) (ef : ∀ args w, (callFunc (ρ.f 6) args).run P w = .ok (.enter (ρ.f 6) args) w)
    (hcf : ∀ x y, ce.val [.dat e x, .dat e y] [] = some (.dat (.int .i64) (cf x y), [])) : CallOK P (ρ.f 6) (sortE e g (ltOf cf)) := by
  have val : ∀ args objs v os, (sortE e g (ltOf cf)).val args objs = some (v, os) → ∃ xs : List e.D, args = [.raw e xs, .fn g []] ∧ objs = [] ∧ xs.length ≤ 4294967296 ∧ v = .unit ∧ os = [.raw e (isort (ltOf cf) xs)] := by
    intro args objs v os h
    unfold Entry.val sortE at h
    simp only at h
    split at h
    · rename_i e' xs g'
      split at h
      · rename_i he; subst he
        obtain ⟨hb, h⟩ := cond_then h
        obtain ⟨hr, h⟩ := br_then h
        injection h with h; injection h with h1 h2
        have := beq_nat.1 hb
        subst this
        exact ⟨xs, rfl, rfl, by have := hr; simp only [room, List.length_nil, Nat.zero_add, decide_eq_true_eq] at this; exact this, h1.symm, h2.symm⟩
      · cases h
    · cases h
  refine ⟨fun α args objs K => ?_, fun args objs vr os hval X G w argv tA tM hW hX hA hM hcnt htok => ?_⟩
  · unfold Entry.val sortE
    simp only
    split
    · split
      · rw [cond_bind]; congr 1
        rw [br_bind]; rfl
      · rfl
    · rfl
  · obtain ⟨xs, rfl, rfl, hlen, rfl, rfl⟩ := val _ _ _ _ hval
    obtain ⟨x0, r0, t1, t2, rfl, rfl, ⟨cs, ⟨ad, len, cap, e1, e2, e3, hf, e4⟩, hx⟩, x1, r1, t3, t4, rfl, rfl, ⟨cs1, ⟨cv, f1, f2, f3⟩, hx1⟩, rfl, rfl⟩ := hA
    simp only [V.agg, Bool.false_eq_true, if_false] at hx hx1
    rw [e1] at hx; rw [f1] at hx1
    simp only [List.cons.injEq, and_true] at hx hx1
    subst hx; subst hx1; subst f3
    have hcv : cv = #[] := by apply Array.ext'; simpa [capsRep] using f2
    subst hcv
    obtain ⟨hM1, hM2⟩ : tM = [] ∧ True := ⟨hM, trivial⟩
    have post : ∀ w', Evo X w w' → (∀ b o v, G.I b o = some v → w'.cell? ⟨b, o, none⟩ = some v) → RawRep G w' e (isort (ltOf cf) xs) [.slice ad len cap] t1 →
        ∃ G', Post X G w 0 .unit [.raw e (isort (ltOf cf) xs)] (.tuple #[]) (some (.slice ad len cap)) G' w' := by
      intro w' hE hc hr
      refine ⟨G, ⟨hE, Im.le_refl _, fun _ _ _ h => .inl h, fun _ _ _ => rfl⟩, ⟨hc, hW.io, fun b o k h => Nat.lt_of_lt_of_le (hW.lt b o k h) hE.size⟩, fun _ _ => rfl, [], [], t1, unit_undef, rfl, ?_, fun q => ?_, fun q hq => ?_⟩
      · exact ⟨_, rfl, [.slice ad len cap], hr, rfl⟩
      · have := hcnt q; simp at this ⊢; omega
      · exact .inr (htok q (by simp at hq ⊢; omega))
    refine .inl ⟨ef _ _, ?_⟩
    rcases Nat.eq_zero_or_pos len with h0 | h0
    · have hxs : xs = [] := List.eq_nil_of_length_eq_zero (by omega)
      subst hxs; subst h0
      refine Calls.mono (AnyF.slices_SortFunc_none L ad cap (.func (.func g) #[] #[]) w) fun e' w' hh => ?_
      obtain ⟨rfl, rfl⟩ := hh
      exact post w' (Evo.refl _ _) hW.holds ⟨ad, 0, cap, rfl, rfl, e3, hf, e4⟩
    · rcases e4 with ⟨hc0, _⟩ | ⟨gb, rfl, rfl, hraw, hI, hO'⟩
      · omega
      · obtain ⟨hH, hlt⟩ := holds_raw hp hraw
        obtain ⟨cells, ty, cc, hgc, hs, hA2, hcc⟩ := hraw
        have hsz : xs.toArray.size = len := by simpa using e2
        have hcon := AnyQ.slices_SortFunc L e.cells aE zE (encT e) (encT_len e hp) (fun x v hv => oneCell_of_plain (DRep.plain (I := fun _ _ => none) e x _ ((encT_rep e x _ hp).2 rfl) v hv)) cf hO g #[] gb 0 cap xs.toArray w eg
          (cmp_lays hp ha hg eg hcf gb 0 _ w) hH hlt (by rw [hsz]; omega)
        rw [hsz] at hcon
        refine Calls.mono hcon fun e' w' hh => ?_
        obtain ⟨rfl, d', n, os, hperm, hsort, rfl⟩ := hh
        have hd' : d'.toList = isort (ltOf cf) xs := by
          have hs2 : d'.size = len := by rw [hperm.1]; exact hsz
          have hp2 : d'.toList.Perm xs := by
            have := hperm.2.2
            have e5 : d'.extract 0 len = d' := by rw [← hs2]; simp
            have e6 : xs.toArray.extract 0 len = xs.toArray := by rw [← hsz]; simp
            rw [e5, e6] at this
            simpa using this
          refine sorted_unique hT (hp2.trans (isort_perm _ xs).symm) ?_ (isort_sorted hO xs)
          rw [List.pairwise_iff_getElem]
          intro i j hi hj hij
          have := hsort i j (Nat.zero_le _) hij (by rw [← hs2]; simpa using hj)
          have gi : d'[i]! = d'.toList[i] := by rw [getElem!_pos d' i (by simpa using hi)]; simp
          have gj : d'[j]! = d'.toList[j] := by rw [getElem!_pos d' j (by simpa using hj)]; simp
          rw [gi, gj] at this
          exact this
        have hlen' : (isort (ltOf cf) xs).length = len := by rw [(isort_perm (ltOf cf) xs).length_eq]; exact e2
        obtain ⟨k1, k2, k3⟩ := heap_put (F := flatK (encT e) e.cells d') hgc n os
        have hone : cnt gb [gb] = 1 := by simp [cnt]
        have hX1 : ∀ o, X gb o := htok gb (by simp only [cnt_append]; omega)
        refine post _ ⟨rfl, rfl, rfl, k3, fun b hb => ?_, Nat.le_add_right _ _⟩ (fun b o v hv => ?_) ⟨_, len, cap, rfl, hlen', e3, hf, .inr ⟨gb, rfl, rfl, ⟨_, ty, _, k1, by simp [putCells, hs], (all2_flat hp _ _).2 rfl, fun j v hj => ?_⟩, hI, hO'⟩⟩
        · by_cases hb' : b = gb
          · subst hb'
            exact .inr ⟨cells, _, ty, (0, 0), hgc, k1, by simp [putCells], fun j hj => absurd (hX1 j) hj⟩
          · exact .inl (k2 b hb hb')
        · have hb' : b ≠ gb := fun e => by subst e; rw [hI o] at hv; cases hv
          have hh := hW.holds b o v hv
          have hlt' := World.block_lt_of_cell? w _ hh
          have : (sortWorldK (encT e) e.cells w gb 0 n d' os).cell? ⟨b, o, none⟩ = w.cell? ⟨b, o, none⟩ := World.cell?_of_block (w := w) (k2 b hlt' hb')
          rw [this]; exact hh
        · have hjl : j < (isort (ltOf cf) xs).length * e.cells := by
            have := (List.getElem?_eq_some_iff.1 hj).1
            rwa [flatMap_len hp] at this
          obtain ⟨x, q1, q2⟩ := flatMap_get hp _ j hjl
          rw [q2] at hj
          have hds : d'.size = len := by rw [hperm.1]; exact hsz
          have hjd : j < d'.size * e.cells := by rw [hds, ← hlen']; exact hjl
          have hjc : j < cells.size := by
            rw [hs]
            exact Nat.lt_of_lt_of_le hjd (Nat.mul_le_mul_right _ (by omega))
          have hx : d'[j / e.cells]! = x := by
            rw [← hd'] at q1
            rw [Array.getElem!_eq_getD, Array.getD_eq_getD_getElem?]
            have : d'[j / e.cells]? = some x := by simpa using q1
            rw [this]; rfl
          have hm := (List.getElem?_eq_some_iff.1 hj)
          simp only [putCells, Array.getElem?_mapIdx, Array.getElem?_eq_getElem hjc, Option.map_some, size_flatK, Nat.zero_add, Nat.sub_zero]
          rw [if_pos ⟨Nat.zero_le _, hjd⟩, get_flatK _ _ _ _ hjd, hx, getElem!_pos (encT e x) (j % e.cells) hm.1]
          exact congrArg some hm.2
end Go.Proofs.Ytennedlpmacicaa.Pal
