/- Lists that are made, and grow. -/
import Derived.Test.YtennedlpmacicaaMem3
import Derived.Laws.Tables
namespace Go.Proofs.Ytennedlpmacicaa.Pal
open Go
variable {P : Program} {X Y : Nat → Nat → Prop} {G0 G G' : Gh} {w0 w w' : World} {s : St} {a : Act} {c : Cx}

theorem fieldOK_of {ti : TInfo} {x y : Ty} {i : Nat} (h : ti.ty = .pair x y) (hi : i < ti.nf) : fieldOK ti i = true := by
  simp only [fieldOK, h, Bool.true_and]; exact Nat.ble_eq_true_of_le hi
theorem places_of {m : Nat} : ∀ (fs : List Field) (o : Nat) (τ : Ty), flds (tyB P m) fs o τ = true →
    ∃ pl, fs.mapM (fun f => (P.info? f.type).map fun i => (f.offset, i.size)) = some pl ∧ pl.length = fs.length ∧ ∀ i, i < fs.length → pl[i]? = some (o + offs (fpath τ fs.length i), (fieldTy τ fs.length i).cells)
  | [], _, _, h => by simp [flds] at h
  | [g], o, τ, h => by
    simp only [flds, Bool.and_eq_true] at h
    obtain ⟨i, hi, hs, _⟩ := (tyB_i h.1.2).info
    refine ⟨[(g.offset, i.size)], by simp [hi], rfl, fun j hj => ?_⟩
    obtain rfl : j = 0 := by simp at hj; omega
    have e : fpath τ 1 0 = [] := by cases τ <;> rfl
    have e' : fieldTy τ 1 0 = τ := by cases τ <;> rfl
    show some (g.offset, i.size) = some (o + offs (fpath τ 1 0), (fieldTy τ 1 0).cells)
    rw [e, e', beq_nat.1 h.1.1, hs]; rfl
  | g :: g' :: r, o, τ, h => by
    cases τ with
    | pair a b =>
      simp only [flds, Bool.and_eq_true] at h
      obtain ⟨⟨⟨h1, h2⟩, h3⟩, h4⟩ := h
      obtain ⟨pl, e1, e2, e3⟩ := places_of (g' :: r) (o + a.cells) b h4
      obtain ⟨i, hi, hs, _⟩ := (tyB_i h2).info
      refine ⟨(g.offset, i.size) :: pl, ?_, by simp [e2], fun j hj => ?_⟩
      · rw [List.mapM_cons, e1]; simp [hi]
      · cases j with
        | zero =>
          show some (g.offset, i.size) = some (o + offs [.l], a.cells)
          rw [beq_nat.1 h1, hs]; rfl
        | succ j =>
          have := e3 j (by simpa using hj)
          simp only [List.getElem?_cons_succ]
          rw [this]
          show some _ = some (o + offs (.r a.cells :: fpath b (g' :: r).length j), (fieldTy b (g' :: r).length j).cells)
          simp only [offs, Nat.add_assoc]
    | _ => simp [flds] at h
theorem build_run (hT : TT P c) {t : Nat} {ti : TInfo} {ps : List (Nat × V)} {parts : Array (Nat × Value)} {v : V} (hl : lkN c.types t = some ti) (hag : ti.ty.agg = true) (hps : Parts G w ps parts.toList) (hf : fillV ti.ty ti.nf (zeroV ti.ty) ps = some v) :
    ∃ x, (Instr.build t parts).run P w = .ok x w ∧ TRep G w v x [] := by
  obtain ⟨h1, _, _, h4⟩ := hT.ti hl
  obtain ⟨it, hit, hsz, _, z, hz, hzc⟩ := (tyB_i h1).info
  have hzc' : z.cells = (zcells ti.ty).toArray := by apply Array.ext'; simpa using hzc
  have hagz : (zeroV ti.ty).agg = true := by
    cases hty : ti.ty <;> simp [hty, Ty.agg] at hag
    · rfl
    · exact mkPr_agg _ _
  have fin : ∀ (place : Nat → Option (Nat × Nat)) cs', Instr.fill place z.cells parts.toList = some cs'.toArray → P.built t parts.toList = Instr.fill place z.cells parts.toList → VRep G w v cs' [] → v.agg = (zeroV ti.ty).agg → ∃ x, (Instr.build t parts).run P w = .ok x w ∧ TRep G w v x [] := by
    intro place cs' hfill hb hv ha
    exact ⟨_, run_build w t parts cs'.toArray (hb.trans hfill), cs', hv, by rw [ha, hagz]; rfl⟩
  cases hty : ti.ty with
  | arr n e =>
    rw [hty] at h1
    obtain ⟨E, m, hu, hE⟩ := tyB_arr h1
    obtain ⟨ie, hie, hse, _⟩ := (tyB_i hE).info
    rw [hty] at hf fin hzc'
    obtain ⟨cs', g1, g2, g3, _⟩ := fillV_run (τ := .arr n e) (nf := ti.nf) (place := fun i => some (i * ie.size, ie.size)) (fun i _ => by rw [hse]) ps _ _ v (zcells (.arr n e)) hps (zeroV_rep G w (.arr n e)) hf
    rw [← hzc'] at g1
    exact fin _ cs' g1 (by simp [Program.built, hit, hu, hz, hie]) g2 g3
  | pair x y =>
    rw [hty] at h1
    obtain ⟨fs, m, hfs, _, hfl, _⟩ := tyB_pair h1
    have hn : fs.toList.length = ti.nf := by simpa using h4 fs hfs
    obtain ⟨pl, e1, e2, e3⟩ := places_of fs.toList 0 _ hfl
    rw [hty] at hf fin hzc'
    obtain ⟨cs', g1, g2, g3, _⟩ := fillV_run (τ := .pair x y) (nf := ti.nf) (place := fun i => pl.toArray[i]?) (fun i hi => by
      refine ⟨?_, ?_⟩
      · have := e3 i (by omega)
        rw [hn] at this
        simpa using this
      · obtain ⟨_, _, _, _, _, h, _⟩ := field_at hT hl (fieldOK_of hty hi)
        rw [hty] at h; exact h) ps _ _ v (zcells (.pair x y)) hps (zeroV_rep G w (.pair x y)) hf
    rw [← hzc'] at g1
    exact fin _ cs' g1 (by simp [Program.built, hit, hfs, hz, e1]) g2 g3
  | _ => simp [hty, Ty.agg] at hag

/-! ### A list in a block of its own -/
def Gh.row (G : Gh) (g : Nat) (cs : List Value) : Gh := { G with I := fun b o => if b = g then cs[o]? else G.I b o }
theorem Gh.row_ev (hW : Wf G w) (cs : List Value) (o : Obj) : Ev (fun _ _ => False) G w (G.row w.heap.size cs) (w.alloc o) := by
  refine ⟨Evo.alloc _ w o, fun b q v h => ?_, fun b q v h => ?_, fun b q hb => rfl⟩
  · simp only [Gh.row]
    split
    · rename_i e; subst e; rw [(hW.none_new q).1] at h; cases h
    · exact h
  · simp only [Gh.row] at h
    split at h
    · rename_i e; subst e; exact .inr (.inl (Nat.le_refl _))
    · exact .inl h
theorem Gh.row_wf (hW : Wf G w) {cs : List Value} {arr : Array Value} (T : Nat) (hp : ∀ (j : Nat) (v : Value), cs[j]? = some v → arr[j]? = some v) : Wf (G.row w.heap.size cs) (w.alloc (.cells arr T)) := by
  refine ⟨fun b q v h => ?_, fun b q v h => ?_, (hW.alloc _).lt⟩
  · simp only [Gh.row] at h
    split at h
    · rename_i e; subst e; rw [World.cell?_alloc_new]; exact hp q v h
    · exact (hW.alloc _).holds b q v h
  · simp only [Gh.row] at h
    split at h
    · rename_i e; subst e; exact (hW.none_new q).2
    · exact hW.io b q v h
theorem All2.elems {α : Type} {I : Im} {R : α → List Value → Prop} {sz : Nat} (hl : ∀ x c, R x c → c.length = sz) : ∀ (xs : List α) (cs : List Value) (b o : Nat), All2 R xs cs → AtI I b o cs → Elems I sz R b o xs
  | [], _, _, _, _, _ => fun i x h => by simp at h
  | x :: xs, cs, b, o, ⟨c1, c2, e, h1, h2⟩, hA => by
    subst e
    intro i y hy
    cases i with
    | zero =>
      simp only [List.getElem?_cons_zero, Option.some.injEq] at hy; subst hy
      refine ⟨c1, h1, ?_⟩
      intro j v hj
      have hlt : j < c1.length := (List.getElem?_eq_some_iff.1 hj).1
      have := hA j v (by rw [List.getElem?_append_left hlt]; exact hj)
      simpa using this
    | succ i =>
      have hl1 := hl x c1 h1
      obtain ⟨cc, a1, a2⟩ := All2.elems (I := I) hl xs c2 b (o + sz) h2 (fun j v hj => by
        have := hA (c1.length + j) v (by rw [List.getElem?_append_right (by omega)]; simpa using hj)
        rwa [hl1, ← Nat.add_assoc] at this) i y (by simpa using hy)
      exact ⟨cc, a1, by rw [show o + (i + 1) * sz = o + sz + i * sz by rw [Nat.add_mul]; omega]; exact a2⟩
theorem Elems.all2 {α : Type} {I : Im} {R : α → List Value → Prop} {sz : Nat} (hl : ∀ x c, R x c → c.length = sz) : ∀ (xs : List α) (b o : Nat), Elems I sz R b o xs → ∃ cs, All2 R xs cs ∧ AtI I b o cs
  | [], _, _, _ => ⟨[], rfl, fun j v h => by simp at h⟩
  | x :: xs, b, o, h => by
    obtain ⟨c1, h1, hA⟩ := h 0 x rfl
    obtain ⟨c2, h2, hB⟩ := Elems.all2 (I := I) hl xs b (o + sz) (fun i y hy => by
      obtain ⟨cc, a1, a2⟩ := h (i + 1) y (by simpa using hy)
      exact ⟨cc, a1, by rwa [show o + sz + i * sz = o + (i + 1) * sz by rw [Nat.add_mul]; omega]⟩)
    refine ⟨c1 ++ c2, ⟨c1, c2, rfl, h1, h2⟩, fun j v hj => ?_⟩
    have hl1 := hl x c1 h1
    rcases Nat.lt_or_ge j c1.length with hlt | hge
    · rw [List.getElem?_append_left hlt] at hj
      simpa using hA j v hj
    · rw [List.getElem?_append_right hge] at hj
      have := hB (j - c1.length) v hj
      rwa [show o + sz + (j - c1.length) = o + j by omega] at this
theorem All2.append {α : Type} {R : α → List Value → Prop} : ∀ (xs ys : List α) (cs ds : List Value), All2 R xs cs → All2 R ys ds → All2 R (xs ++ ys) (cs ++ ds)
  | [], ys, cs, ds, h, k => by simp only [All2] at h; subst h; exact k
  | x :: xs, ys, _, ds, ⟨c1, c2, e, h1, h2⟩, k => by subst e; exact ⟨c1, c2 ++ ds, by simp, h1, All2.append xs ys c2 ds h2 k⟩
theorem RS.fresh (hR : RS X G0 w0 G s a.tmps w) {e : Ty} {xs : List e.D} {cs : List Value} {arr : Array Value} {T cap : Nat} (hA : All2 (DRep G.I e) xs cs) (hlen : xs.length ≤ cap ∧ cap ≤ 9223372036854775807) (hs : arr.size = cap * e.cells) (hp : ∀ (j : Nat) (v : Value), cs[j]? = some v → arr[j]? = some v) :
    RSv X G0 w0 (G.row w.heap.size cs) s a.tmps (w.alloc (.cells arr T)) (.own e xs) (.slice (some ⟨w.heap.size, 0, none⟩) xs.length cap) := by
  have hW := hR.1.wf
  have hev := Gh.row_ev hW cs (.cells arr T)
  have hR' := (hR.v.step hev (Gh.row_wf hW T hp) (fun _ => rfl) (fun _ _ _ h => h.elim) (fun _ _ => rfl) (fun _ _ h => h.elim)).rs
  have hold := hR.v
  obtain ⟨hB, tE, tM, h1, h2, h3, h4⟩ := hR
  have k1 := h1.ev hev s.env tE (fun _ _ => rfl) (fun _ _ _ h => h)
  have k2 := MemRep.ev hev s.mem tM (fun _ _ => rfl) (fun _ _ => rfl) (fun _ _ _ h => h) (fun _ _ _ _ _ h => h.elim) h2
  have hcl := All2.length (fun x c => DRep.length e x c) xs cs hA
  have hAI : AtI (G.row w.heap.size cs).I w.heap.size 0 cs := by
    intro j v hj
    simp only [Gh.row, if_true, Nat.zero_add]
    exact hj
  refine ⟨hR'.1, tE, tM, [w.heap.size], k1, k2, ⟨_, ⟨_, _, cap, rfl, rfl, hlen, .inr ⟨w.heap.size, rfl, rfl, ?_, ⟨arr, T, heap_alloc_new w _, hs⟩, fun o ho => ?_, fun o => (hW.none_new o).2⟩⟩, rfl⟩, fun g => ?_, fun g hg => ?_⟩
  · exact All2.elems (fun x c => DRep.length e x c) xs cs _ 0 (All2.mono (fun x c => DRep.mono hev.le e x c) _ _ hA) hAI
  · simp only [Gh.row, if_true]
    exact List.getElem?_eq_none (by rw [hcl]; exact ho)
  · have h0 : ∀ t, 0 < cnt g t → (∀ g, 0 < cnt g t → g < w.heap.size ∧ ∀ o, G.O g o = none) → g < w.heap.size := fun t ht k => (k g ht).1
    rcases Nat.lt_or_ge g w.heap.size with hlt | hge
    · have : cnt g [w.heap.size] = 0 := List.count_eq_zero.2 (by simp; omega)
      have := h3 g; omega
    · have z1 : cnt g tE = 0 := by
        rcases Nat.eq_zero_or_pos (cnt g tE) with h | h
        · exact h
        · have := (EnvRep.owned s.env tE h1 g h).1; omega
      have z2 : cnt g tM = 0 := by
        rcases Nat.eq_zero_or_pos (cnt g tM) with h | h
        · exact h
        · have := (MemRep.owned s.mem tM h2 g h).1; omega
      have : cnt g [w.heap.size] ≤ 1 := by simp only [cnt]; exact List.count_le_length (l := [w.heap.size])
      omega
  · by_cases hlt : 0 < cnt g tE + cnt g tM
    · exact h4 g hlt
    · have : 0 < cnt g [w.heap.size] := by omega
      have : g = w.heap.size := by simpa using cnt_pos.2 this
      subst this
      exact .inl hB.ev.evo.size

/-! ### A list that grows -/
theorem loadCells_zero (ad : Addr) : (loadCells ad 0).run P w = .ok #[] w := run_loadCells_list w ad [] (fun j v h => by simp at h)
theorem firstCells_run (hW : Wf G w) {e : Ty} {xs : List e.D} {ad : Option Addr} {len cap : Nat} (h1 : xs.length = len) (h : xs = [] ∨ ∃ b o, ad = some ⟨b, o, none⟩ ∧ Elems G.I e.cells (DRep G.I e) b o xs) :
    ∃ cs, All2 (DRep G.I e) xs cs ∧ cs.length = len * e.cells ∧ (∀ b o, ad = some ⟨b, o, none⟩ → xs ≠ [] → AtI G.I b o cs) ∧ ∀ w' : World, (∀ b o v, G.I b o = some v → w'.cell? ⟨b, o, none⟩ = some v) → (Builtin.firstCells e.cells len (.slice ad len cap)).run P w' = .ok cs.toArray w' := by
  rcases h with h | ⟨b, o, ha, hE⟩
  · subst h
    simp only [List.length_nil] at h1; subst h1
    refine ⟨[], rfl, by simp, fun _ _ _ h => absurd rfl h, fun w' _ => ?_⟩
    cases ad with
    | none => rfl
    | some ad => simp only [Builtin.firstCells, Nat.zero_mul]; exact loadCells_zero ad
  · obtain ⟨cs, hA, hAI⟩ := Elems.all2 (fun x c => DRep.length e x c) xs b o hE
    have hl := All2.length (fun x c => DRep.length e x c) xs cs hA
    rw [h1] at hl
    refine ⟨cs, hA, hl, fun b' o' e1 _ => ?_, fun w' hw' => ?_⟩
    · rw [ha] at e1; injection e1 with e1; injection e1 with e1 e2; subst e1; subst e2; exact hAI
    · subst ha
      simp only [Builtin.firstCells]
      rw [← hl]
      exact run_loadCells_list w' ⟨b, o, none⟩ cs (fun j v hj => by rw [add_plain']; exact hw' b (o + j) v (hAI j v hj))
def Gh.more (G : Gh) (g n : Nat) (news : List Value) : Gh := { G with I := fun b o => if b = g ∧ n ≤ o ∧ o < n + news.length then news[o - n]? else G.I b o }
theorem RSv.grow {e : Ty} {xs ys : List e.D} {g cap : Nat} {news : List Value} (hR : RSv X G0 w0 G s a.tmps w (.own e xs) (.slice (some ⟨g, 0, none⟩) xs.length cap)) (hA : All2 (DRep G.I e) ys news) (hcap : xs.length + ys.length ≤ cap) (h0 : 0 < cap) :
    (∀ P, (storeCells ⟨g, xs.length * e.cells, none⟩ news).run P w = .ok () (w.setCells g (xs.length * e.cells) news)) ∧
    ∃ G', RSv X G0 w0 G' s a.tmps (w.setCells g (xs.length * e.cells) news) (.own e (xs ++ ys)) (.slice (some ⟨g, 0, none⟩) (xs.length + ys.length) cap) := by
  obtain ⟨hB, tE, tM, tV, h1, h2, ⟨_, h3, h3'⟩, h4, h5⟩ := hR
  obtain ⟨ad, len, cap', e1, e2, e3, e4⟩ := h3
  simp only [V.agg, Bool.false_eq_true, if_false] at h3'
  subst e1
  simp only [List.cons.injEq, Value.slice.injEq, and_true] at h3'
  obtain ⟨rfl, hlen, rfl⟩ := h3'
  subst hlen
  rcases e4 with ⟨hc, _⟩ | ⟨g', ha, rfl, hel, ⟨cells, T, hg, hsz⟩, hI, hO⟩
  · omega
  injection ha with ha; injection ha with ha; subst ha
  have hnl := All2.length (fun x c => DRep.length e x c) ys news hA
  have hfit : xs.length * e.cells + news.length ≤ cells.size := by
    rw [hnl, hsz, ← Nat.add_mul]; exact Nat.mul_le_mul_right _ hcap
  have hplain : ∀ v ∈ news, plainV v = true := All2.all (fun x c => DRep.plain e x c) ys news hA
  have hex : ∀ j, j < news.length → (w.cell? ⟨g, xs.length * e.cells + j, none⟩).isSome = true := by
    intro j hj
    have : xs.length * e.cells + j < cells.size := by omega
    simp [World.cell?, hg, this]
  have hst := fun P : Program => run_storeCells_cells (P := P) g (xs.length * e.cells) news 0 w (by simpa using hex) (fun j _ => by simp [World.frozen?, hg]) (fun v hv => oneCell_of_plain (hplain v hv))
  refine ⟨fun P => by simpa using hst P, G.more g (xs.length * e.cells) news, ?_⟩
  let Y : Nat → Nat → Prop := fun b o => b = g ∧ xs.length * e.cells ≤ o
  have hgl : g < w.heap.size := (Array.getElem?_eq_some_iff.1 hg).1
  have hle : G.I.le (G.more g (xs.length * e.cells) news).I := by
    intro b o v h
    simp only [Gh.more]
    split
    · rename_i hc; rw [hc.1, hI o hc.2.1] at h; cases h
    · exact h
  have hE : Ev Y G w (G.more g (xs.length * e.cells) news) (w.setCells g (xs.length * e.cells) news) := by
    refine ⟨Evo.setCells _ news _ w (fun j _ => ⟨rfl, by omega⟩), hle, fun b o v h => ?_, fun _ _ _ => rfl⟩
    simp only [Gh.more] at h
    split at h
    · rename_i hc; exact .inr (.inr ⟨hc.1, hc.2.1⟩)
    · exact .inl h
  have hW : Wf (G.more g (xs.length * e.cells) news) (w.setCells g (xs.length * e.cells) news) := by
    refine ⟨fun b o v h => ?_, fun b o v h => ?_, fun b o q hq => by rw [World.size_setCells]; exact hB.wf.lt b o q hq⟩
    · simp only [Gh.more] at h
      split at h
      · rename_i hc
        obtain ⟨rfl, h6, h7⟩ := hc
        have := World.cell?_setCells_in b news (xs.length * e.cells) w hex (o - xs.length * e.cells) (by omega)
        rw [show xs.length * e.cells + (o - xs.length * e.cells) = o by omega] at this
        rw [this, ← h, List.getElem?_eq_getElem (by omega)]
      · rename_i hc
        rw [World.cell?_setCells_out g news _ w _ (fun hb _ => ?_)]
        · exact hB.wf.holds b o v h
        · have hbg : b = g := hb
          have : ¬ (xs.length * e.cells ≤ o ∧ o < xs.length * e.cells + news.length) := fun hh => hc ⟨hbg, hh.1, hh.2⟩
          show o < _ ∨ _ ≤ o
          omega
    · simp only [Gh.more] at h
      split at h
      · rename_i hc; rw [hc.1]; exact hO o
      · exact hB.wf.io b o v h
  have hng : ∀ t : List Nat, (∀ q, cnt q t + cnt q [g] ≤ 1) → ∀ q ∈ t, ∀ o, ¬ Y q o := by
    intro t ht q hq o hy
    have hy1 : q = g := hy.1
    have := ht q; have h6 := cnt_pos.1 hq
    have h7 : cnt q [g] = 1 := by subst hy1; simp [cnt]
    omega
  have hall : All2 (DRep (G.more g (xs.length * e.cells) news).I e) ys news := All2.mono (fun x c => DRep.mono hle e x c) _ _ hA
  have hel' : Elems (G.more g (xs.length * e.cells) news).I e.cells (DRep (G.more g (xs.length * e.cells) news).I e) g 0 (xs ++ ys) := by
    intro i x hx
    rcases Nat.lt_or_ge i xs.length with hlt | hge
    · rw [List.getElem?_append_left hlt] at hx
      exact (hel.mono hle (fun x c => DRep.mono hle e x c)) i x hx
    · rw [List.getElem?_append_right hge] at hx
      have hAI : AtI (G.more g (xs.length * e.cells) news).I g (xs.length * e.cells) news := by
        intro j v hj
        have hj' := (List.getElem?_eq_some_iff.1 hj).1
        simp only [Gh.more]
        rw [if_pos ⟨trivial, by omega, by omega⟩, show xs.length * e.cells + j - xs.length * e.cells = j by omega]
        exact hj
      obtain ⟨cc, a1, a2⟩ := All2.elems (fun x c => DRep.length e x c) ys news g _ hall hAI (i - xs.length) x hx
      refine ⟨cc, a1, ?_⟩
      have he : 0 + i * e.cells = xs.length * e.cells + (i - xs.length) * e.cells := by rw [← Nat.add_mul, Nat.add_sub_cancel' hge, Nat.zero_add]
      rw [he]; exact a2
  refine ⟨hB.step hE hW (fun _ => rfl) (fun b o hb hy => ?_), tE, tM, [g], h1.ev hE s.env tE (fun _ _ => rfl) (hng tE (fun q => by have := h4 q; omega)),
    MemRep.ev hE s.mem tM (fun _ _ => rfl) (fun _ _ => rfl) (hng tM (fun q => by have := h4 q; omega)) (fun k hk b o ho hy => ?_) h2, ⟨_, ⟨_, _, cap', rfl, rfl, by rw [List.length_append]; exact ⟨hcap, e3.2⟩, .inr ⟨g, rfl, rfl, hel', ⟨?_, fun o ho => ?_, fun o => hO o⟩⟩⟩, by simp [V.agg]⟩, h4, h5⟩
  · have hy1 : b = g := hy.1
    subst hy1
    rcases h5 b (by have : cnt b [b] = 1 := by simp [cnt]
                    omega) with h6 | h6
    · omega
    · exact h6 o
  · have hy1 : b = g := hy.1
    subst hy1
    rw [hO o] at ho; cases ho
  · rcases hE.evo.block g hgl with h6 | ⟨c1, c2, t', fr, h6, h7, h8, _⟩
    · exact ⟨cells, T, h6.trans hg, hsz⟩
    · rw [hg] at h6
      injection h6 with h6; injection h6 with a1 a2 a3; subst a1; subst a2; subst a3
      exact ⟨c2, T, h7, h8.trans hsz⟩
  · simp only [List.length_append, Nat.add_mul] at ho
    simp only [Gh.more]
    rw [if_neg (by rw [hnl]; omega)]
    exact hI o (by omega)
end Go.Proofs.Ytennedlpmacicaa.Pal
