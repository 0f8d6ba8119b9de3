/- slices.DeleteFunc at dots: its contract. -/
import Derived.Test.YtennedlpmacicaaDel
import Derived.Test.YtennedlpmacicaaSort
namespace Go.Proofs.Ytennedlpmacicaa.Pal
open Go Go.Sort
theorem swk_raw {G : Gh} {w w' : World} {e : Ty} {gb len cap : Nat} {xs ys : List e.D} {X : Nat → Nat → Prop} (hp : plainT e = true) (hf : flat e = true) (hraw : RawB w gb e xs (cap * e.cells)) (hcap : len ≤ cap ∧ cap ≤ 9223372036854775807) (hI : ∀ o, G.I gb o = none) (hO : ∀ o, G.O gb o = none) (hW : Wf G w) (hX : ∀ o, X gb o)
    {dk : Array e.D} (hs : dk.size = len) (hpre : ∀ (j : Nat) (x : e.D), ys[j]? = some x → dk[j]? = some x) (h : SWK (encT e) e.cells w gb 0 xs.toArray w ∧ SWK (encT e) e.cells w gb 0 dk w') :
    Ev X G w G w' ∧ Wf G w' ∧ RawRep G w' e ys [.slice (some ⟨gb, 0, none⟩) ys.length cap] [gb] := by
  obtain ⟨_, n, os, rfl⟩ := h
  obtain ⟨cells, ty, cc, hgc, hcs, hA2, hcc⟩ := hraw
  obtain ⟨k1, k2, k3⟩ := heap_put (F := flatK (encT e) e.cells dk) hgc n os
  have hyl : ys.length ≤ len := by
    rcases Nat.lt_or_ge len ys.length with h | h
    · have := hpre len _ (List.getElem?_eq_getElem h)
      have := (Array.getElem?_eq_some_iff.1 this).1
      omega
    · exact h
  have hE : Evo X w (sortWorldK (encT e) e.cells w gb 0 n dk os) := by
    refine ⟨rfl, rfl, rfl, k3, fun b hb => ?_, Nat.le_add_right _ _⟩
    by_cases hb' : b = gb
    · subst hb'
      exact .inr ⟨cells, _, ty, (0, 0), hgc, k1, by simp [putCells], fun j hj => absurd (hX j) hj⟩
    · exact .inl (k2 b hb hb')
  refine ⟨⟨hE, Im.le_refl _, fun _ _ _ h => .inl h, fun _ _ _ => rfl⟩, ⟨fun b o v hv => ?_, hW.io, fun b o k h => Nat.lt_of_lt_of_le (hW.lt b o k h) hE.size⟩, ?_⟩
  · have hb' : b ≠ gb := fun e => by subst e; rw [hI o] at hv; cases hv
    have hh := hW.holds b o v hv
    have hlt' := World.block_lt_of_cell? w _ hh
    have : (sortWorldK (encT e) e.cells w gb 0 n dk os).cell? ⟨b, o, none⟩ = w.cell? ⟨b, o, none⟩ := World.cell?_of_block (w := w) (k2 b hlt' hb')
    rw [this]; exact hh
  · refine ⟨_, ys.length, cap, rfl, rfl, by omega, hf, .inr ⟨gb, rfl, rfl, ⟨_, ty, _, k1, by simp [putCells, hcs], (all2_flat hp _ _).2 rfl, fun j v hj => ?_⟩, hI, hO⟩⟩
    have hjl : j < ys.length * e.cells := by
      have := (List.getElem?_eq_some_iff.1 hj).1
      rwa [flatMap_len hp] at this
    obtain ⟨x, q1, q2⟩ := flatMap_get hp _ j hjl
    rw [q2] at hj
    have hjd : j < dk.size * e.cells := by rw [hs]; exact Nat.lt_of_lt_of_le hjl (Nat.mul_le_mul_right _ hyl)
    have hjc : j < cells.size := by
      rw [hcs]
      exact Nat.lt_of_lt_of_le hjd (Nat.mul_le_mul_right _ (by omega))
    have hx : dk[j / e.cells]! = x := by
      have := hpre _ _ q1
      rw [Array.getElem!_eq_getD, Array.getD_eq_getD_getElem?, this]; rfl
    have hm := (List.getElem?_eq_some_iff.1 hj)
    simp only [putCells, Array.getElem?_mapIdx, Array.getElem?_eq_getElem hjc, Option.map_some, size_flatK, Nat.zero_add, Nat.sub_zero]
    rw [if_pos ⟨Nat.zero_le _, hjd⟩, get_flatK _ _ _ _ hjd, hx, getElem!_pos (encT e x) (j % e.cells) hm.1]
    exact congrArg some hm.2

abbrev dotT : Ty := .pair (.int .i64) (.int .i64)
theorem del_ok {ce : Entry} {keep : Int × Int → Bool} (hg : CallOK Try.prog 63 ce) (hcf : ∀ x : dotT.D, ce.val [.dat dotT x] [] = some (.dat .bool (!keep x), [])) : CallOK Try.prog 61 (delE dotT 63 keep) := by
  have e61 : ∀ args w, (callFunc 61 args).run Try.prog w = .ok (.enter 61 args) w := enters_of Try.func61 (by kernel_rfl) rfl
  have e63 : ∀ args w, (callFunc 63 args).run Try.prog w = .ok (.enter 63 args) w := enters_of Try.func63 (by kernel_rfl) rfl
  have val : ∀ args objs v os, (delE dotT 63 keep).val args objs = some (v, os) → ∃ xs : List dotT.D, args = [.raw dotT xs, .fn 63 []] ∧ objs = [] ∧ xs.length ≤ 4294967296 ∧ v = .raw dotT (kept keep xs) ∧ os = [] := by
    intro args objs v os h
    unfold Entry.val delE at h
    simp only at h
    split at h
    · rename_i e' xs g'
      split at h
      · rename_i he; subst he
        obtain ⟨hb, h⟩ := cond_then h
        obtain ⟨hr, h⟩ := br_then h
        injection h with h; injection h with h1 h2
        have := beq_nat.1 hb
        subst this
        exact ⟨xs, rfl, rfl, by have := hr; simp only [room, List.length_nil, Nat.zero_add, decide_eq_true_eq] at this; exact this, h1.symm, h2.symm⟩
      · cases h
    · cases h
  refine ⟨fun α args objs K => ?_, fun args objs vr os hval X G w argv tA tM hW hX hA hM hcnt htok => ?_⟩
  · unfold Entry.val delE
    simp only
    split
    · split
      · rw [cond_bind]; congr 1
        rw [br_bind]; rfl
      · rfl
    · rfl
  · obtain ⟨xs, rfl, rfl, hlen, rfl, rfl⟩ := val _ _ _ _ hval
    obtain ⟨x0, r0, t1, t2, rfl, rfl, ⟨cs, ⟨ad, len, cap, e1, e2, e3, hf, e4⟩, hx⟩, x1, r1, t3, t4, rfl, rfl, ⟨cs1, ⟨cv, f1, f2, f3⟩, hx1⟩, rfl, rfl⟩ := hA
    simp only [V.agg, Bool.false_eq_true, if_false] at hx hx1
    rw [e1] at hx; rw [f1] at hx1
    simp only [List.cons.injEq, and_true] at hx hx1
    subst hx; subst hx1; subst f3
    have hcv : cv = #[] := by apply Array.ext'; simpa [capsRep] using f2
    subst hcv
    obtain ⟨hM1, hM2⟩ : tM = [] ∧ True := ⟨hM, trivial⟩
    have post : ∀ w' len', Ev X G w G w' → Wf G w' → RawRep G w' dotT (kept keep xs) [.slice ad len' cap] t1 →
        ∃ G', Post X G w 0 (.raw dotT (kept keep xs)) [] (.slice ad len' cap) (some (.slice ad len cap)) G' w' := by
      intro w' len' hE hc hr
      refine ⟨G, hE, hc, fun _ _ => rfl, t1, [], [], ⟨_, hr, rfl⟩, rfl, rfl, fun q => ?_, fun q hq => ?_⟩
      · have := hcnt q; simp at this ⊢; omega
      · exact .inr (htok q (by simp at hq ⊢; omega))
    refine .inl ⟨e61 _ _, ?_⟩
    rcases Nat.eq_zero_or_pos len with h0 | h0
    · have hxs : xs = [] := List.eq_nil_of_length_eq_zero (by omega)
      subst hxs; subst h0
      refine Calls.mono (del_none ad cap w) fun e' w' hh => ?_
      obtain ⟨rfl, rfl⟩ := hh
      exact post w' 0 (Ev.refl _ _ _) hW ⟨ad, 0, cap, rfl, rfl, e3, hf, e4⟩
    · rcases e4 with ⟨hc0, _⟩ | ⟨gb, rfl, rfl, hraw, hI, hO'⟩
      · omega
      · obtain ⟨hH, hlt⟩ := holds_raw (e := dotT) rfl hraw
        have hsz : xs.toArray.size = len := by simpa using e2
        have hcl : ∀ (W : World) (x : Int × Int), Calls Try.prog 63 #[.agg (encD x).toArray] W fun e w' => e = .returned (.bool (!keep x)) ∧ ∃ q os, w' = grow (W.drewN q) os := by
          intro W x
          refine Calls.mono (plain_call (w := W) (argv := [.agg (encT dotT x).toArray]) hg e63 (hcf x) (fun G => ⟨_, _, [], [], rfl, rfl, run_dat dotT rfl rfl _ _ x, rfl, rfl⟩)) fun e' w' hh => ?_
          obtain ⟨⟨G', y, t, h1, h2⟩, h3⟩ := hh
          exact ⟨by rw [h1, h2.dat_bool], h3⟩
        have hIF := idx_walk (fun x => !keep x) gb 0 cap xs.toArray w hH hlt (by rw [hsz]; omega) hcl
        have hcon := del_walk (fun x => !keep x) gb 0 cap xs.toArray w hH hlt (by rw [hsz]; omega) (by rw [hsz]; exact e3.1) hcl hIF
        rw [hsz] at hcon
        have hk : (xs.toArray.toList.filter fun x => !(!keep x)) = kept keep xs := by simp [kept]
        rw [hk] at hcon
        refine Calls.mono hcon fun e' w' hh => ?_
        obtain ⟨rfl, hsw⟩ := hh
        have hkl : (kept keep xs).length ≤ len := by rw [← e2]; exact List.length_filter_le _ _
        have hone : cnt gb [gb] = 1 := by simp [cnt]
        have hX1 : ∀ o, X gb o := htok gb (by simp only [cnt_append]; omega)
        obtain ⟨q1, q2, q3⟩ := swk_raw (X := X) (e := dotT) (ys := kept keep xs) rfl hf hraw e3 hI hO' hW hX1 (by simp; omega) (fun j x hj => by
          rw [List.getElem?_toArray, List.getElem?_append_left (List.getElem?_eq_some_iff.1 hj).1]; exact hj) ⟨SWK.start hH, hsw⟩
        exact post w' _ q1 q2 q3
end Go.Proofs.Ytennedlpmacicaa.Pal
