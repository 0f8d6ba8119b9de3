/- slices.Insert at dots: its contract. -/
import Derived.Test.YtennedlpmacicaaIns
import Derived.Test.YtennedlpmacicaaDel2
namespace Go.Proofs.Ytennedlpmacicaa.Pal
open Go Go.Sort
variable {P : Program}
/-- A list of the call's own is given back, at a block that is new, or was the caller's own. -/
theorem own_post {X : Nat → Nat → Prop} {G : Gh} {w w' : World} {e : Ty} {zs : List e.D} {g cap : Nat} {cells : Array Value} {t : TypeId} {cc : List Value} {ax : Option Value} (hW : Wf G w) (hE : Evo X w w')
    (hk : ∀ b, b < w.heap.size → b ≠ g → w'.heap[b]? = w.heap[b]?) (hg : w'.heap[g]? = some (.cells cells t (0, 0))) (hs : cells.size = cap * e.cells) (hcap : zs.length ≤ cap ∧ cap ≤ 9223372036854775807)
    (hA : All2 (DRep (fun _ _ => none) e) zs cc) (hcc : ∀ (j : Nat) (v : Value), cc[j]? = some v → w'.cell? ⟨g, j, none⟩ = some v)
    (hI : ∀ o, G.I g o = none) (hO : ∀ o, G.O g o = none) (hX : w.heap.size ≤ g ∨ ∀ o, X g o) :
    ∃ G', Post X G w 0 (.own e zs) [] (.slice (some ⟨g, 0, none⟩) zs.length cap) ax G' w' := by
  have hcl := hA.len
  have hold : ∀ b o v, G.I b o = some v → w'.cell? ⟨b, o, none⟩ = some v ∧ b ≠ g := fun b o v hv => by
    have hb' : b ≠ g := fun e => by subst e; rw [hI o] at hv; cases hv
    have hh := hW.holds b o v hv
    exact ⟨by rw [World.cell?_of_block (w := w) (hk b (World.block_lt_of_cell? w _ hh) hb')]; exact hh, hb'⟩
  let G' : Gh := { G with I := fun b o => if b = g then cc[o]? else G.I b o }
  have hI' : ∀ b o, b ≠ g → G'.I b o = G.I b o := fun b o hb => by show (if b = g then cc[o]? else G.I b o) = _; rw [if_neg hb]
  have hIg : ∀ o, G'.I g o = cc[o]? := fun o => by show (if g = g then cc[o]? else _) = _; rw [if_pos rfl]
  refine ⟨G', ⟨hE, fun b o v hv => by rw [hI' b o (hold b o v hv).2]; exact hv, fun b o v hv => ?_, fun _ _ _ => rfl⟩, ⟨fun b o v hv => ?_, fun b o v hv => ?_, fun b o k h => Nat.lt_of_lt_of_le (hW.lt b o k h) hE.size⟩, fun _ _ => rfl, [g], [], [], ?_, rfl, rfl, fun q => ?_, fun q hq => ?_⟩
  · by_cases hb : b = g
    · subst hb; rcases hX with h | h
      · exact .inr (.inl h)
      · exact .inr (.inr (h o))
    · rw [hI' b o hb] at hv; exact .inl hv
  · by_cases hb : b = g
    · subst hb; rw [hIg] at hv; exact hcc o v hv
    · rw [hI' b o hb] at hv; exact (hold b o v hv).1
  · by_cases hb : b = g
    · subst hb; exact hO o
    · rw [hI' b o hb] at hv; exact hW.io b o v hv
  · have hat : AtI G'.I g 0 cc := fun j v hj => by rw [Nat.zero_add, hIg]; exact hj
    refine ⟨_, ⟨_, zs.length, cap, rfl, rfl, hcap, .inr ⟨g, rfl, rfl, ?_, ⟨cells, t, hg, hs⟩, fun o ho => ?_, hO⟩⟩, rfl⟩
    · exact Elems.mono (Im.le_refl _) (fun x c h => DRep.mono (fun _ _ _ h => by cases h) e x c h) (All2.elems (fun x c => DRep.length e x c) zs cc g 0 hA hat)
    · rw [hIg, List.getElem?_eq_none (by rw [hcl]; exact ho)]
  · have : cnt q [g] ≤ 1 := by simp only [cnt]; exact List.count_le_length
    simpa using this
  · have : q = g := by simpa [cnt_pos.symm] using hq
    subst this; exact hX
theorem setCells_block (b : Nat) : ∀ (vs : List Value) (o : Nat) (w : World) (cells : Array Value) (t : TypeId) (fr : Nat × Nat), w.heap[b]? = some (.cells cells t fr) → ∃ cells', (w.setCells b o vs).heap[b]? = some (.cells cells' t fr) ∧ cells'.size = cells.size
  | [], _, w, cells, t, fr, h => ⟨cells, h, rfl⟩
  | v :: vs, o, w, cells, t, fr, h => by
    have h1 : (w.setCell ⟨b, o, none⟩ v).heap[b]? = some (.cells (cells.setIfInBounds o v) t fr) := by
      have hlt := (Array.getElem?_eq_some_iff.1 h).1
      show (w.heap.modify b _)[b]? = _
      rw [Array.getElem?_modify, if_pos rfl, h]; rfl
    obtain ⟨c', k1, k2⟩ := setCells_block b vs (o + 1) _ _ _ _ h1
    exact ⟨c', k1, by rw [k2]; simp⟩
theorem setCells_other (b : Nat) : ∀ (vs : List Value) (o : Nat) (w : World) (b' : Nat), b' ≠ b → (w.setCells b o vs).heap[b']? = w.heap[b']?
  | [], _, _, _, _ => rfl
  | v :: vs, o, w, b', h => by
    show ((w.setCell ⟨b, o, none⟩ v).setCells b (o + 1) vs).heap[b']? = _
    rw [setCells_other b vs (o + 1) _ b' h]
    show (w.heap.modify b _)[b']? = _
    rw [Array.getElem?_modify, if_neg (by omega)]
theorem flatMap_take {e : Ty} (hp : plainT e = true) : ∀ (xs : List e.D) (i : Nat), i ≤ xs.length → (xs.take i).flatMap (encT e) = (xs.flatMap (encT e)).take (i * e.cells)
  | _, 0, _ => by simp
  | [], i + 1, h => by simp at h
  | x :: xs, i + 1, h => by
    have hl := encT_len e hp x
    rw [List.take_succ_cons, List.flatMap_cons, List.flatMap_cons, flatMap_take hp xs i (by simpa using h), Nat.add_mul, Nat.one_mul, List.take_append, hl, List.take_of_length_le (l := encT e x) (by omega), show i * e.cells + e.cells - e.cells = i * e.cells by omega]
theorem flatMap_drop {e : Ty} (hp : plainT e = true) : ∀ (xs : List e.D) (i : Nat), i ≤ xs.length → (xs.drop i).flatMap (encT e) = (xs.flatMap (encT e)).drop (i * e.cells)
  | _, 0, _ => by simp
  | [], i + 1, h => by simp at h
  | x :: xs, i + 1, h => by
    have hl := encT_len e hp x
    rw [List.drop_succ_cons, List.flatMap_cons, flatMap_drop hp xs i (by simpa using h), Nat.add_mul, Nat.one_mul, List.drop_append, hl, List.drop_of_length_le (l := encT e x) (by omega), show i * e.cells + e.cells - e.cells = i * e.cells by omega]; rfl
theorem ins_get (cs vs : List Value) (k l : Nat) (hk : k ≤ cs.length) (hl : vs.length = l) (j : Nat) (v : Value) (h : (cs.take k ++ (vs ++ cs.drop k))[j]? = some v) :
    (j < k ∧ cs[j]? = some v) ∨ (k ≤ j ∧ j < k + l ∧ vs[j - k]? = some v) ∨ (k + l ≤ j ∧ (cs.drop k)[j - (k + l)]? = some v) := by
  have h1 : (cs.take k).length = k := by simp; omega
  rcases Nat.lt_or_ge j k with hj | hj
  · rw [List.getElem?_append_left (by omega), List.getElem?_take, if_pos hj] at h
    exact .inl ⟨hj, h⟩
  · rw [List.getElem?_append_right (by omega), h1] at h
    rcases Nat.lt_or_ge j (k + l) with hj2 | hj2
    · rw [List.getElem?_append_left (by omega)] at h
      exact .inr (.inl ⟨hj, hj2, h⟩)
    · rw [List.getElem?_append_right (by omega)] at h
      refine .inr (.inr ⟨hj2, ?_⟩)
      rw [← h]; congr 1; omega
theorem setCells_os (b : Nat) : ∀ (vs : List Value) (o : Nat) (w : World), (w.setCells b o vs).os = w.os
  | [], _, _ => rfl
  | v :: vs, o, w => setCells_os b vs (o + 1) _
theorem setCells_tape (b : Nat) : ∀ (vs : List Value) (o : Nat) (w : World), (w.setCells b o vs).tape = w.tape
  | [], _, _ => rfl
  | v :: vs, o, w => setCells_tape b vs (o + 1) _
theorem setCells_output (b : Nat) : ∀ (vs : List Value) (o : Nat) (w : World), (w.setCells b o vs).output = w.output
  | [], _, _ => rfl
  | v :: vs, o, w => setCells_output b vs (o + 1) _
theorem setCells_drawn (b : Nat) : ∀ (vs : List Value) (o : Nat) (w : World), (w.setCells b o vs).drawn = w.drawn
  | [], _, _ => rfl
  | v :: vs, o, w => setCells_drawn b vs (o + 1) _
theorem cell_in {W : World} {b o : Nat} {l : List Value} (hs : ∀ j, j < l.length → (W.cell? ⟨b, o + j, none⟩).isSome = true) {j : Nat} {v : Value} (h1 : o ≤ j) (h : l[j - o]? = some v) : (W.setCells b o l).cell? ⟨b, j, none⟩ = some v := by
  have hj := (List.getElem?_eq_some_iff.1 h)
  have := World.cell?_setCells_in b l o W hs (j - o) hj.1
  rw [show o + (j - o) = j by omega] at this
  rw [this, ← h, List.getElem?_eq_getElem hj.1]
theorem cell_out {W : World} {b o : Nat} {l : List Value} {j : Nat} (h1 : j < o ∨ o + l.length ≤ j) : (W.setCells b o l).cell? ⟨b, j, none⟩ = W.cell? ⟨b, j, none⟩ :=
  World.cell?_setCells_out b l o W ⟨b, j, none⟩ (fun _ _ => h1)
theorem two_a {W : World} {b k l : Nat} {cs vs : List Value} (hk : k ≤ cs.length) (hl : vs.length = l) (hs : ∀ j, j < cs.length + l → (W.cell? ⟨b, j, none⟩).isSome = true) (hp : ∀ (j : Nat) (v : Value), j < k → cs[j]? = some v → W.cell? ⟨b, j, none⟩ = some v)
    (j : Nat) (v : Value) (h : (cs.take k ++ (vs ++ cs.drop k))[j]? = some v) : ((W.setCells b (k + l) (cs.drop k)).setCells b k vs).cell? ⟨b, j, none⟩ = some v := by
  have hd : (cs.drop k).length = cs.length - k := by simp
  rcases ins_get cs vs k l hk hl j v h with ⟨h1, h2⟩ | ⟨h1, h2, h3⟩ | ⟨h1, h2⟩
  · rw [cell_out (by omega), cell_out (by omega)]; exact hp j v h1 h2
  · refine cell_in (fun t ht => ?_) h1 h3
    rw [cell_out (by omega)]; exact hs _ (by omega)
  · rw [cell_out (by omega)]
    exact cell_in (fun t ht => hs _ (by omega)) h1 h2
theorem two_b {W : World} {b k l : Nat} {cs vs : List Value} (hk : k ≤ cs.length) (hl : vs.length = l) (hs : ∀ j, j < cs.length + l → (W.cell? ⟨b, j, none⟩).isSome = true) (hp : ∀ (j : Nat) (v : Value), j < k → cs[j]? = some v → W.cell? ⟨b, j, none⟩ = some v)
    (j : Nat) (v : Value) (h : (cs.take k ++ (vs ++ cs.drop k))[j]? = some v) : ((W.setCells b k vs).setCells b (k + l) (cs.drop k)).cell? ⟨b, j, none⟩ = some v := by
  have hd : (cs.drop k).length = cs.length - k := by simp
  rcases ins_get cs vs k l hk hl j v h with ⟨h1, h2⟩ | ⟨h1, h2, h3⟩ | ⟨h1, h2⟩
  · rw [cell_out (by omega), cell_out (by omega)]; exact hp j v h1 h2
  · rw [cell_out (by omega)]
    exact cell_in (fun t ht => hs _ (by omega)) h1 h3
  · refine cell_in (fun t ht => ?_) h1 h2
    by_cases hh : k + l + t < k
    · omega
    · rw [cell_out (by omega)]; exact hs _ (by omega)
theorem ins_ok : CallOK Try.prog 75 (insE dotT) := by
  have e75 : ∀ args w, (callFunc 75 args).run Try.prog w = .ok (.enter 75 args) w := enters_of Try.func75 (by kernel_rfl) rfl
  have val : ∀ args objs v os, (insE dotT).val args objs = some (v, os) → ∃ (xs ys : List dotT.D) (i : Int) (va : V), args = [.raw dotT xs, .dat (.int .i64) i, va] ∧ V.as (.slc dotT) va = some ys ∧ objs = [] ∧ (0 ≤ i ∧ i ≤ xs.length) ∧ xs.length + ys.length ≤ 4294967296 ∧ v = .own dotT (insAt xs i ys) ∧ os = [] := by
    intro args objs v os h
    unfold Entry.val insE at h
    simp only at h
    split at h
    · rename_i e' xs i va
      split at h
      · rename_i he; subst he
        rw [Option.bind_eq_some_iff] at h
        obtain ⟨ys, hys, h⟩ := h
        obtain ⟨hb, h⟩ := br_then h
        obtain ⟨hr, h⟩ := br_then h
        injection h with h; injection h with h1 h2
        obtain ⟨_, i1, i2⟩ := inS_spec hb
        exact ⟨xs, ys, i, va, rfl, hys, rfl, ⟨i1, i2⟩, room_spec hr, h1.symm, h2.symm⟩
      · cases h
    · cases h
  refine ⟨fun α args objs K => ?_, fun args objs vr os hval X G w argv tA tM hW hX hA hM hcnt htok => ?_⟩
  · unfold Entry.val insE
    simp only
    split
    · split
      · rename_i va _
        cases V.as (.slc dotT) va with
        | none => rfl
        | some ys => simp only [Option.bind_some]; rw [br_bind, br_bind]; rfl
      · rfl
    · rfl
  · obtain ⟨xs, ys, ii, va, rfl, hva, rfl, ⟨hi0, hi1⟩, hlen, rfl, rfl⟩ := val _ _ _ _ hval
    obtain ⟨i, rfl⟩ : ∃ i : Nat, ii = (i : Int) := ⟨ii.toNat, by omega⟩
    have hin : i ≤ xs.length := by omega
    obtain ⟨x0, r0, t1, t2, rfl, rfl, ⟨cs0, ⟨ad, n, c, e1, e2, e3, hf, e4⟩, hx⟩, x1, r1, t3, t4, rfl, rfl, ⟨cs1, ⟨f1, f2⟩, hx1⟩, x2, r2, t5, t6, rfl, rfl, hx2, rfl, rfl⟩ := hA
    obtain ⟨ad2, m, vc, rfl, g2, g3, g4⟩ := (TRep.as_ hva hx2).slc
    simp only [V.agg, Bool.false_eq_true, if_false] at hx hx1
    rw [e1] at hx
    have f1 : cs1 = [.int .i64 i] := f1
    rw [f1] at hx1
    simp only [Ty.agg, Bool.false_eq_true, if_false, List.cons.injEq, and_true] at hx hx1
    subst hx; subst hx1; subst f2
    obtain ⟨hM1, hM2⟩ : tM = [] ∧ True := ⟨hM, trivial⟩
    have hia : (insAt xs (i : Int) ys) = xs.take i ++ (ys ++ xs.drop i) := rfl
    have hzl : (insAt xs (i : Int) ys).length = n + m := by rw [hia]; simp [← e2, ← g2]; omega
    have hins : (insAt xs (i : Int) ys).flatMap (encT dotT) = (xs.flatMap (encT dotT)).take (i * 2) ++ (ys.flatMap (encT dotT) ++ (xs.flatMap (encT dotT)).drop (i * 2)) := by
      rw [hia, List.flatMap_append, List.flatMap_append, flatMap_take (e := dotT) rfl xs i hin, flatMap_drop (e := dotT) rfl xs i hin]; rfl
    obtain ⟨cs, hcs⟩ : ∃ cs, cs = xs.flatMap (encT dotT) := ⟨_, rfl⟩
    obtain ⟨vs, hvs⟩ : ∃ vs, vs = ys.flatMap (encT dotT) := ⟨_, rfl⟩
    have hcl : cs.length = n * 2 := by rw [hcs, flatMap_len (e := dotT) rfl, e2]; rfl
    have hvl : vs.length = m * 2 := by rw [hvs, flatMap_len (e := dotT) rfl, g2]; rfl
    rw [← hcs, ← hvs] at hins
    have hA2 := (all2_flat (e := dotT) rfl (insAt xs (i : Int) ys) _).2 rfl
    rw [hins] at hA2
    have one : ∀ (l : List dotT.D), ∀ v ∈ l.flatMap (encT dotT), v.oneCell' = true := fun l v hv => by
      obtain ⟨x, _, hv⟩ := List.mem_flatMap.1 hv
      exact oneCell_of_plain (DRep.plain (I := fun _ _ => none) dotT x _ ((encT_rep dotT x _ rfl).2 rfl) v hv)
    have h1c : ∀ v ∈ cs, v.oneCell' = true := by rw [hcs]; exact one xs
    have h1v : ∀ v ∈ vs, v.oneCell' = true := by rw [hvs]; exact one ys
    refine .inl ⟨e75 _ _, ?_⟩
    have hfr : ∀ {b : Nat} {C : Array Value} {T : TypeId} (o : Nat), w.heap[b]? = some (.cells C T (0, 0)) → w.frozen? ⟨b, o, none⟩ = false := fun o h => by simp only [World.frozen?, h]; simp
    rcases Nat.eq_zero_or_pos m with hm0 | hm0
    · have hys : ys = [] := List.eq_nil_of_length_eq_zero (by omega)
      subst hys; subst hm0
      have hxx : insAt xs (i : Int) [] = xs := by rw [hia]; simp
      rw [hxx] at hzl hins hA2 ⊢
      refine Calls.mono (ins_none ad n c i ad2 vc w (by omega) e3.1 e3.2) fun e' w' hh => ?_
      obtain ⟨rfl, rfl⟩ := hh
      rcases e4 with ⟨hc0, rfl⟩ | ⟨gb, rfl, rfl, ⟨cells, ty, cc, hgc, hs, hAc, hcc⟩, hI, hO'⟩
      · exact ⟨G, Ev.refl _ _ _, hW, fun _ _ => rfl, [], [], [], ⟨_, ⟨ad, n, c, rfl, e2, e3, .inl ⟨hc0, rfl⟩⟩, rfl⟩, rfl, rfl, fun q => by simp, fun q hq => by simp at hq⟩
      · have hone : cnt gb [gb] = 1 := by simp [cnt]
        have hX1 : ∀ o, X gb o := htok gb (by simp only [cnt_append]; omega)
        have := own_post (e := dotT) (zs := xs) (ax := some (.slice (some ⟨gb, 0, none⟩) n c)) hW (Evo.refl X w') (fun _ _ _ => rfl) hgc hs (by rw [e2]; exact e3) hAc (fun j v hj => by rw [cell_of hgc]; exact hcc j v hj) hI hO' (.inr hX1)
        rw [e2] at this
        exact this
    · rcases g4 with hy0 | ⟨vb, vo, rfl, hel⟩
      · subst hy0; simp at g2; omega
      obtain ⟨vcc, hvA, hvat⟩ := Elems.all2 (fun x c => DRep.length dotT x c) ys vb vo hel
      have hvcc : vcc = vs := by rw [hvs]; exact (all2_flat (e := dotT) rfl ys vcc).1 (All2.mono (fun x c => flat_DRep dotT x c rfl) _ _ hvA)
      have hvc : ∀ (j : Nat) (v : Value), vs[j]? = some v → w.cell? ⟨vb, vo + j, none⟩ = some v := fun j v hj => hW.holds vb _ v (hvat j v (by rw [hvcc]; exact hj))
      have hvI : ∃ v, G.I vb vo = some v := ⟨_, by have := hvat 0 vs[0] (by rw [hvcc]; exact List.getElem?_eq_getElem (by omega)); simpa using this⟩
      obtain ⟨kA, tA, hkA, hsa⟩ : ∃ kA tA, kA ≠ 0 ∧ w.shape? vb = some (tA, kA) := by
        obtain ⟨v, hv⟩ := hvI
        have h := hW.holds vb vo v hv
        unfold World.cell? at h
        split at h
        · rename_i C T fr hb
          simp only [Option.isSome_none, Bool.false_eq_true, if_false] at h
          exact ⟨C.size, T, by have := (Array.getElem?_eq_some_iff.1 h).1; omega, by have hb' : w.heap[vb]? = some (.cells C T fr) := hb; simp only [World.shape?, hb']⟩
        · cases h
      have hbig : (n + m) * 16 ≤ 140737488355328 := by omega
      have fresh : ∀ w' (cap : Nat), (∀ b, b < w.heap.size → w'.heap[b]? = w.heap[b]?) → w'.os = w.os → w'.tape = w.tape → w'.output = w.output → w.drawn ≤ w'.drawn → w.heap.size ≤ w'.heap.size → (∃ C T, w'.heap[w.heap.size]? = some (.cells C T (0, 0)) ∧ C.size = cap * 2) → (n + m ≤ cap ∧ cap ≤ 9223372036854775807) →
          (∀ (j : Nat) (v : Value), (cs.take (i * 2) ++ (vs ++ cs.drop (i * 2)))[j]? = some v → w'.cell? ⟨w.heap.size, j, none⟩ = some v) →
          ∃ G', Post X G w 0 (.own dotT (insAt xs i ys)) [] (.slice (some ⟨w.heap.size, 0, none⟩) (n + m) cap) (some (.slice ad n c)) G' w' := by
        intro w' cap k1 k2 k3 k4 k5 k6 ⟨C, T, k7, k8⟩ k9 k10
        have := own_post (e := dotT) (zs := insAt xs i ys) (X := X) (ax := some (.slice ad n c)) hW ⟨k2, k3, k4, k6, fun b hb => .inl (k1 b hb), k5⟩ (fun b hb _ => k1 b hb) k7 k8 (by rw [hzl]; exact k9) hA2 k10 (fun o => (hW.none_new o).1) (fun o => (hW.none_new o).2) (.inl (Nat.le_refl _))
        rw [hzl] at this
        exact this
      rcases Nat.lt_or_ge i n with hlt | hge
      · rcases e4 with ⟨hc0, _⟩ | ⟨gb, rfl, rfl, ⟨cells, ty, cc, hgc, hs, hAc, hcc⟩, hI, hO'⟩
        · omega
        have hccs : cc = cs := by rw [hcs]; exact (all2_flat (e := dotT) rfl xs cc).1 hAc
        subst hccs
        have hgv : gb ≠ vb := by
          intro e; subst e
          obtain ⟨v, hv⟩ := hvI
          rw [hI vo] at hv; cases hv
        have hcc' : ∀ (j : Nat) (v : Value), cc[j]? = some v → w.cell? ⟨gb, 0 + j, none⟩ = some v := fun j v hj => by rw [cell_of hgc, Nat.zero_add]; exact hcc j v hj
        by_cases hroom : n + m ≤ c
        · have hsz : (n + m) * 2 ≤ cells.size := by rw [hs]; exact Nat.mul_le_mul_right 2 hroom
          have hshape : ∀ {b : Nat} {C : Array Value} {T : TypeId}, w.heap[b]? = some (.cells C T (0, 0)) → w.shape? b = some (T, C.size) := fun h => by simp only [World.shape?, h]
          refine Calls.mono (ins_shift gb 0 n c i vb vo m vc cc vs w hlt hm0 hroom e3.2 (Ne.symm hgv) hcl hvl hcc' (fun j hj => by rw [cell_of hgc, Nat.zero_add, Array.getElem?_eq_getElem (by omega)]; rfl) (fun j hj => hfr _ hgc) hvc h1c h1v tA ty kA _ hsa (hshape hgc) hkA (fun o => hfr o hgc)) fun e' w' hh => ?_
          obtain ⟨rfl, rfl⟩ := hh
          obtain ⟨C1, q1, q2⟩ := setCells_block gb (cc.drop (i * 2)) (0 + (i + m) * 2) w.drew cells ty (0, 0) hgc
          obtain ⟨C2, q3, q4⟩ := setCells_block gb vs (0 + i * 2) _ C1 ty (0, 0) q1
          have hone : cnt gb [gb] = 1 := by simp [cnt]
          have hX1 : ∀ o, X gb o := htok gb (by simp only [cnt_append]; omega)
          have hold : ∀ b, b ≠ gb → ((w.drew.setCells gb (0 + (i + m) * 2) (cc.drop (i * 2))).setCells gb (0 + i * 2) vs).heap[b]? = w.heap[b]? := fun b hb => by
            rw [setCells_other gb _ _ _ b hb, setCells_other gb _ _ _ b hb]; rfl
          have hE1 := Evo.setCells (X := X) gb (cc.drop (i * 2)) (0 + (i + m) * 2) w.drew (fun j _ => hX1 _)
          have hE2 := Evo.setCells (X := X) gb vs (0 + i * 2) (w.drew.setCells gb (0 + (i + m) * 2) (cc.drop (i * 2))) (fun j _ => hX1 _)
          have := own_post (e := dotT) (zs := insAt xs i ys) (ax := some (.slice (some ⟨gb, 0, none⟩) n c)) (cap := c) (X := X) hW (w' := (w.drew.setCells gb (0 + (i + m) * 2) (cc.drop (i * 2))).setCells gb (0 + i * 2) vs) (g := gb) ?_ (fun b _ hb => hold b hb) q3 (by rw [q4, q2, hs]) (by rw [hzl]; exact ⟨hroom, e3.2⟩) hA2 (fun j v hj => ?_) hI hO' (.inr hX1)
          · rw [hzl] at this; exact this
          · exact (Evo.drew X w).trans (hE1.trans hE2 (fun _ _ _ h => h) (fun _ _ _ h => h)) (fun _ _ _ h => h) (fun _ _ _ h => h)
          · have := two_a (W := w.drew) (b := gb) (k := i * 2) (l := m * 2) (cs := cc) (vs := vs) (by omega) hvl (fun j hj => by show (w.cell? ⟨gb, j, none⟩).isSome = true; rw [cell_of hgc, Array.getElem?_eq_getElem (by omega)]; rfl) (fun j v _ hj => by show w.cell? ⟨gb, j, none⟩ = some v; rw [cell_of hgc]; exact hcc j v hj) j v hj
            rw [Nat.zero_add, Nat.zero_add, Nat.add_mul]; exact this
        · refine Calls.mono (ins_grow gb 0 n c i vb vo m vc cc vs w hlt hm0 e3.1 (by omega) hbig hcl hvl hcc' hvc h1c h1v) fun e' w' hh => ?_
          obtain ⟨rfl, rfl⟩ := hh
          have hge := grownCap_ge w (n + m) c 23
          have hle := grownCap_le_maxLen w (n + m) c 23 (by unfold maxLen; omega)
          unfold maxLen at hle
          obtain ⟨cap, hcap⟩ : ∃ cap, cap = grownCap w (n + m) c 23 := ⟨_, rfl⟩
          rw [← hcap] at hge hle ⊢
          obtain ⟨ROW, hROW⟩ : ∃ ROW : Array Value, ROW = (cc.take (i * 2)).toArray ++ Builtin.zeroCells zeroD.cells (n + m - i) ++ Builtin.zeroCells zeroD.cells (cap - (n + m)) := ⟨_, rfl⟩
          rw [← hROW]
          have hRs : ROW.size = cap * 2 := by rw [hROW]; simp [Builtin.zeroCells, zeroD, Value.cells, hcl]; omega
          have hnew : ((w.alloc (.cells ROW 23)).drew).heap[w.heap.size]? = some (.cells ROW 23 (0, 0)) := by show (w.heap.push _)[w.heap.size]? = _; simp
          obtain ⟨C1, q1, q2⟩ := setCells_block w.heap.size vs (i * 2) _ ROW 23 (0, 0) hnew
          obtain ⟨C2, q3, q4⟩ := setCells_block w.heap.size (cc.drop (i * 2)) ((i + m) * 2) (((w.alloc (.cells ROW 23)).drew.setCells w.heap.size (i * 2) vs).drew) C1 23 (0, 0) q1
          have hszs : ∀ (vs : List Value) (o : Nat) (W : World), (W.setCells w.heap.size o vs).heap.size = W.heap.size := fun vs o W => World.size_setCells _ vs o W
          refine fresh _ cap (fun b hb => ?_) (by rw [setCells_os]; exact setCells_os _ _ _ _) (by rw [setCells_tape]; exact setCells_tape _ _ _ _) (by rw [setCells_output]; exact setCells_output _ _ _ _) (by rw [setCells_drawn]; show _ ≤ (World.setCells _ _ _ _).drawn + 1; rw [setCells_drawn]; show w.drawn ≤ w.drawn + 1 + 1; omega) (by rw [hszs]; show _ ≤ (World.setCells _ _ _ _).heap.size; rw [hszs]; show _ ≤ (w.heap.push _).size; simp) ⟨C2, 23, q3, by rw [q4, q2, hRs]⟩ ⟨hge, hle⟩ (fun j v hj => ?_)
          · rw [setCells_other _ _ _ _ b (by omega)]
            show (World.setCells _ _ _ _).heap[b]? = _
            rw [setCells_other _ _ _ _ b (by omega)]
            show (w.heap.push _)[b]? = _
            rw [Array.getElem?_push_lt hb, Array.getElem?_eq_getElem hb]
          · have := two_b (W := (w.alloc (.cells ROW 23)).drew) (b := w.heap.size) (k := i * 2) (l := m * 2) (cs := cc) (vs := vs) (by omega) hvl (fun j hj => by
                rw [cell_of hnew, Array.getElem?_eq_getElem (by omega)]; rfl) (fun j v hj1 hj2 => by
                rw [cell_of hnew, hROW, Array.getElem?_append_left (by simp [Builtin.zeroCells, zeroD, Value.cells, hcl]; omega), Array.getElem?_append_left (by simp [hcl]; omega)]
                simp [hj1, hj2]) j v hj
            rw [← drew_setCells, Nat.add_mul]; exact this
      · have hie : i = n := by omega
        subst hie
        by_cases hroom : i + m ≤ c
        · rcases e4 with ⟨hc0, _⟩ | ⟨gb, rfl, rfl, ⟨cells, ty, cc, hgc, hs, hAc, hcc⟩, hI, hO'⟩
          · omega
          have hccs : cc = cs := by rw [hcs]; exact (all2_flat (e := dotT) rfl xs cc).1 hAc
          subst hccs
          have hsz : (i + m) * 2 ≤ cells.size := by rw [hs]; exact Nat.mul_le_mul_right 2 hroom
          have hsome : ∀ j, j < (i + m) * 2 → (w.cell? ⟨gb, j, none⟩).isSome = true := fun j hj => by rw [cell_of hgc, Array.getElem?_eq_getElem (by omega)]; rfl
          refine Calls.mono (ins_end_room gb 0 i c vb vo m vc vs w hm0 hroom e3.2 hvl (fun j hj => hsome _ (by omega)) (fun j hj => hfr _ hgc) hvc h1v) fun e' w' hh => ?_
          obtain ⟨rfl, rfl⟩ := hh
          obtain ⟨C2, q3, q4⟩ := setCells_block gb vs (0 + i * 2) w cells ty (0, 0) hgc
          have hone : cnt gb [gb] = 1 := by simp [cnt]
          have hX1 : ∀ o, X gb o := htok gb (by simp only [cnt_append]; omega)
          have := own_post (e := dotT) (zs := insAt xs i ys) (ax := some (.slice (some ⟨gb, 0, none⟩) i c)) (cap := c) (X := X) hW (w' := w.setCells gb (0 + i * 2) vs) (g := gb) (Evo.setCells (X := X) gb vs (0 + i * 2) w (fun j _ => hX1 _)) (fun b _ hb => setCells_other gb _ _ _ b hb) q3 (by rw [q4, hs]) (by rw [hzl]; exact ⟨hroom, e3.2⟩) hA2 (fun j v hj => ?_) hI hO' (.inr hX1)
          · rw [hzl] at this; exact this
          · have h0 : cc.drop (i * 2) = [] := List.drop_of_length_le (by omega)
            have := two_a (W := w) (b := gb) (k := i * 2) (l := m * 2) (cs := cc) (vs := vs) (by omega) hvl (fun j hj => hsome _ (by omega)) (fun j v _ hj => by rw [cell_of hgc]; exact hcc j v hj) j v hj
            rw [h0] at this
            rw [Nat.zero_add]; exact this
        · have hnil : ad = none → i = 0 := fun h => by
            rcases e4 with ⟨hc0, _⟩ | ⟨gb, h1, _⟩
            · omega
            · rw [h] at h1; cases h1
          have hold : ∀ a, ad = some a → ∀ (j : Nat) (v : Value), cs[j]? = some v → w.cell? (a.add j) = some v := fun a ha j v hj => by
            rcases e4 with ⟨hc0, _⟩ | ⟨gb, h1, _, ⟨cells, ty, cc, hgc, hs, hAc, hcc⟩, hI, hO'⟩
            · have := (List.getElem?_eq_some_iff.1 hj).1; omega
            · have hccs : cc = cs := by rw [hcs]; exact (all2_flat (e := dotT) rfl xs cc).1 hAc
              rw [h1] at ha; injection ha with ha; subst ha
              rw [Addr.add_lit, cell_of hgc, Nat.zero_add]; exact hcc j v (by rw [hccs]; exact hj)
          refine Calls.mono (ins_end_grow ad i c vb vo m vc cs vs w hm0 e3.1 (by omega) hbig hcl hvl hnil hold hvc h1v) fun e' w' hh => ?_
          obtain ⟨rfl, rfl⟩ := hh
          have hge := grownCap_ge w (i + m) c 23
          have hle := grownCap_le_maxLen w (i + m) c 23 (by unfold maxLen; omega)
          unfold maxLen at hle
          obtain ⟨cap, hcap⟩ : ∃ cap, cap = grownCap w (i + m) c 23 := ⟨_, rfl⟩
          rw [← hcap] at hge hle ⊢
          obtain ⟨ROW, hROW⟩ : ∃ ROW : Array Value, ROW = (cs ++ vs).toArray ++ Builtin.zeroCells zeroD.cells (cap - (i + m)) := ⟨_, rfl⟩
          rw [← hROW]
          have hRs : ROW.size = cap * 2 := by rw [hROW]; simp [Builtin.zeroCells, zeroD, Value.cells, hcl, hvl]; omega
          have hnew : (w.drew.alloc (.cells ROW 23)).heap[w.heap.size]? = some (.cells ROW 23 (0, 0)) := by show (w.heap.push _)[w.heap.size]? = _; simp
          refine fresh _ cap (fun b hb => ?_) rfl rfl rfl (by show w.drawn ≤ w.drawn + 1; omega) (by show _ ≤ (w.heap.push _).size; simp) ⟨ROW, 23, hnew, hRs⟩ ⟨hge, hle⟩ (fun j v hj => ?_)
          · show (w.heap.push _)[b]? = _
            rw [Array.getElem?_push_lt hb, Array.getElem?_eq_getElem hb]
          · have h0 : cs.drop (i * 2) = [] := List.drop_of_length_le (by omega)
            have h1 : cs.take (i * 2) = cs := List.take_of_length_le (by omega)
            rw [h0, h1, List.append_nil] at hj
            have := (List.getElem?_eq_some_iff.1 hj).1
            rw [cell_of hnew, hROW, Array.getElem?_append_left (by simpa using this)]
            simpa using hj
#print axioms ins_ok
end Go.Proofs.Ytennedlpmacicaa.Pal
