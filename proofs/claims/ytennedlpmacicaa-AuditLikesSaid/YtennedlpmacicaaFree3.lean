/- Regions whose order is free: one step, at any time. -/
import Derived.Test.YtennedlpmacicaaFree2
namespace Go.Proofs.Ytennedlpmacicaa.Pal
open Go
variable {P : Program} {X Y : Nat → Nat → Prop} {G0 G G' : Gh} {w0 w w' : World} {s : St} {a : Act} {c : Cx} {Q : Exit → Act → World → Prop}

theorem canon_plain : ∀ (vs : List V) (n : Nat), vs.all (fun v => v.refs.isEmpty) = true → canon n vs = some (vs, [])
  | [], _, _ => rfl
  | v :: r, n, h => by
    simp only [List.all_cons, Bool.and_eq_true] at h
    have h1 : canon1 n v = some (v, []) := by
      have hr := h.1
      cases v with
      | ref k p => simp [V.refs] at hr
      | fn f caps =>
        have : caps = [] := by simpa [V.refs] using hr
        subst this; rfl
      | _ => simp only [canon1, hr, cond_true]
    simp only [canon, h1, Option.bind_some, List.length_nil, Nat.add_zero, canon_plain r n h.2, List.nil_append]
theorem stepQ_sound {o : Oper} {v : V} (hT : TT P c) (hC : ∀ f e, lkN c.fns f = some e → CallOK P f e) (hR : RS X G0 w0 G s a.tmps w) (h : stepQ c o (rdL (lk s.env)) s.mem some = some v) (hd : ∀ t, o.dst = some t → t < a.tmps.size) :
    o.wp P a w (Nxt X G0 w0 a some (s.dst o.dst v)) Q := by
  rw [← rdL_of] at h
  unfold stepQ at h
  cases hc : isCall o with
  | false =>
    rw [hc] at h
    obtain ⟨hB, tE, tM, h1, h2, h3, h4⟩ := id hR
    obtain ⟨v', x, g1, g2, g3⟩ := valO_sound hT hB.wf hR.reads h2 h
    injection g3 with g3; subst g3
    exact wp_val g1 (hR.withV g2) hd rfl
  | true =>
    rw [hc] at h
    simp only [cond_true] at h
    obtain ⟨dst, op, ty, pos, after, guard⟩ := o
    unfold callQ at h
    split at h
    · rename_i f args argTypes hop
      simp only at hop; subst hop
      simp only [Option.bind_eq_some_iff] at h
      obtain ⟨fv, hfv, h⟩ := h
      have hrf := opd_rep hR hfv
      split at h
      · rename_i g
        simp only [Option.bind_eq_some_iff] at h
        obtain ⟨vs, hvs, h⟩ := h
        obtain ⟨hall, h⟩ := cond_then h
        simp only [Option.bind_eq_some_iff] at h
        obtain ⟨e, he, h⟩ := h
        obtain ⟨_, ⟨cv, e1, e2, _⟩, e3⟩ := hrf
        simp only [V.agg, Bool.false_eq_true, if_false] at e3
        rw [e1] at e3
        simp only [List.cons.injEq, and_true] at e3
        simp only [capsRep] at e2
        have hcv : cv = #[] := by apply Array.ext'; simpa using e2
        subst hcv
        have hA := opdT_args hR.reads args.toList _ vs hvs
        have hcall : callV c g vs dst none s some = some (s.dst dst v) := by
          have hOK := hC g e he
          rw [hOK.nat] at h
          obtain ⟨p, hp, h⟩ := Option.bind_eq_some_iff.1 h
          obtain ⟨hb, h⟩ := cond_then h
          injection h with h
          simp only [Bool.and_eq_true, List.isEmpty_iff] at hb
          simp only [callV, he, Option.bind_some, canon_plain vs 0 hall, distinct, cond_true, contents, noRefs]
          rw [hOK.nat, hp]
          rw [h] at hb
          simp only [Option.bind_some, giveBack, hb.1, noRefs, cond_true, h]
          simp [hb.2]
        obtain ⟨hB, tE, tM, h1, h2, h3, h4⟩ := hR
        refine wp_does (run_callOp e3.symm) ?_
        have := callV_sound (P := P) (tmps := a.tmps) (argv := args.toList.map a.eval) hC hcall hB h1 h2 hA (by simpa using h3) (by simpa using h4) (fun t ht => by cases ht) hd
        have e : (args.toList.map a.eval).toArray = args.map a.eval := by apply Array.ext'; simp
        rw [e] at this
        simpa using this
      · cases h
    · cases h
end Go.Proofs.Ytennedlpmacicaa.Pal
