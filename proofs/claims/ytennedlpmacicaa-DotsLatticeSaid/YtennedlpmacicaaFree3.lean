/- Regions whose order is free: one step, at any time. -/
import Derived.Test.YtennedlpmacicaaFree2
namespace Go.Proofs.Ytennedlpmacicaa.Pal
open Go
variable {P : Program} {X Y : Nat → Nat → Prop} {G0 G G' : Gh} {w0 w w' : World} {s : St} {a : Act} {c : Cx} {Q : Exit → Act → World → Prop}

theorem canon_plain : ∀ (vs : List V) (n : Nat), vs.all (fun v => v.refs.isEmpty) = true → canon n vs = some (vs, [])
  | [], _, _ => rfl
  | v :: r, n, h => by
    simp only [List.all_cons, Bool.and_eq_true] at h
    have h1 : canon1 n v = some (v, []) := by
      have hr := h.1
      cases v with
      | ref k p => simp [V.refs] at hr
      | fn f caps =>
        have : caps = [] := by simpa [V.refs] using hr
        subst this; rfl
      | _ => simp only [canon1, hr, cond_true]
    simp only [canon, h1, Option.bind_some, List.length_nil, Nat.add_zero, canon_plain r n h.2, List.nil_append]
theorem takM_tak {mv : Bool} {e : Option Ty} {x : Operand} {E : List (Nat × V)} {m : List (Nat × V)} {v : V} (h : takM mv e (lk E) x = some v) : tak mv e ⟨E, m⟩ x = some (v, ⟨rmO E (tmpOf mv x), m⟩) := by
  cases x with
  | tmp t =>
    cases mv with
    | true =>
      simp only [takM, cond_true, Option.bind_eq_some_iff, Option.map_eq_some_iff] at h
      obtain ⟨u, hu, c, hc, rfl⟩ := h
      simp only [tak, cond_true, hu, hc, Option.bind_some, Option.map_some]; rfl
    | false =>
      simp only [takM, cond_false] at h
      simp only [tak, cond_false, h, Option.map_some]; rfl
  | const y => simp only [takM] at h; simp only [tak, h, Option.map_some]; rfl
  | func f => simp only [takM, Option.some.injEq] at h; subst h; rfl
  | global g => simp [takM] at h
theorem opdT_eq {ρ ρ' : Option Ty → Operand → Option V} (h : ∀ e x, ρ e x = ρ' e x) (tys : List (Option Ty)) (l : List Operand) : opdT ρ tys l = opdT ρ' tys l := opdT_congr l tys fun e x _ => h e x
theorem takLM_takL {mv : Bool} {tys : List (Option Ty)} {l : List Operand} {E m : List (Nat × V)} {vs : List V} (h : takLM mv tys (lk E) l = some vs) :
    takL mv tys ⟨E, m⟩ l = some (vs, ⟨rmO E (headT mv l), m⟩) := by
  cases l with
  | nil => simp only [takLM, Option.some.injEq] at h; subst h; rfl
  | cons x r =>
    simp only [takLM, Option.bind_eq_some_iff, Option.some.injEq] at h
    obtain ⟨v, hv, us, hus, rfl⟩ := h
    simp only [takL, takM_tak hv, Option.bind_some]
    rw [opdT_eq (ρ' := rdL (cutL (lk E) (tmpOf mv x))) fun e y => by rw [opd_rdL, lk_rmO], hus]
    rfl
theorem stepF_sound {mv : Bool} {o : Oper} {v : V} (hT : TT P c) (hC : ∀ f e, lkN c.fns f = some e → CallOK P f e) (hR : RS X G0 w0 G s a.tmps w) (h : stepF c mv o (lk s.env) s.mem some = some v) (hd : ∀ t, o.dst = some t → t < a.tmps.size) :
    o.wp P a w (Nxt X G0 w0 a some (({ s with env := rmO s.env (consO mv o) } : St).dst o.dst v)) Q := by
  obtain ⟨E, m⟩ := s
  obtain ⟨dst, op, ty, pos, after, guard⟩ := o
  have plain : (∀ cl, op ≠ .call cl) → stepO c false false ⟨dst, op, ty, pos, after, guard⟩ ⟨E, m⟩ some = some ((⟨E, m⟩ : St).dst dst v) → Oper.wp P ⟨dst, op, ty, pos, after, guard⟩ a w (Nxt X G0 w0 a some (({ (⟨E, m⟩ : St) with env := rmO E (consO mv ⟨dst, op, ty, pos, after, guard⟩) } : St).dst dst v)) Q := by
    intro hn hs
    have : consO mv ⟨dst, op, ty, pos, after, guard⟩ = none := by
      unfold consO
      cases op <;> first | rfl | exact absurd rfl (hn _)
    rw [this]
    exact stepO_sound hT hC hR hs hd
  unfold stepF at h
  split at h
  · rename_i f args tys hop
    simp only at hop; subst hop
    simp only [Option.bind_eq_some_iff] at h
    obtain ⟨fv, hfv, h⟩ := h
    split at h
    · rename_i g
      simp only [Option.bind_eq_some_iff] at h
      obtain ⟨vs, hvs, h⟩ := h
      obtain ⟨hall, h⟩ := cond_then h
      simp only [Option.bind_eq_some_iff] at h
      obtain ⟨e, he, h⟩ := h
      have hOK := hC g e he
      rw [hOK.nat] at h
      obtain ⟨p, hp, h⟩ := Option.bind_eq_some_iff.1 h
      obtain ⟨hb, h⟩ := cond_then h
      injection h with h
      simp only [Bool.and_eq_true, List.isEmpty_iff] at hb
      refine stepO_sound (mv := mv) (ln := false) hT hC hR ?_ hd
      have hop2 : opd none (⟨E, m⟩ : St) f = some (.fn g []) := by rw [opd_rdL]; exact hfv
      simp only [stepO, hop2, Option.bind_some, takLM_takL hvs, List.map_nil, List.append_nil]
      have hc : consO mv ⟨dst, .call { callee := .value f, args := args, argTypes := tys }, ty, pos, after, guard⟩ = headT mv args.toList := rfl
      simp only [callV, he, Option.bind_some, canon_plain vs 0 hall, distinct, cond_true, contents, noRefs]
      rw [hOK.nat, hp]
      rw [h] at hb
      simp only [Option.bind_some, giveBack, hb.1, noRefs, cond_true, h, hb.2, List.isEmpty_nil, hc]
    · cases h
  · rename_i args tys hop
    simp only at hop; subst hop
    split at h
    · rename_i x y t t2 hargs htys
      simp only [Option.bind_eq_some_iff] at h
      obtain ⟨v1, hv1, u, hu, h⟩ := h
      split at h
      · rename_i e' e2 e xs h1 h2
        obtain ⟨hb, h⟩ := cond_then h
        simp only [Option.bind_eq_some_iff] at h
        obtain ⟨ys, hys, h⟩ := h
        obtain ⟨hroom, h⟩ := br_then h
        injection h with h; subst h
        refine stepO_sound (mv := mv) (ln := false) hT hC hR ?_ hd
        have hc : consO mv ⟨dst, .call { callee := .builtin .append, args := args, argTypes := tys }, ty, pos, after, guard⟩ = tmpOf mv x := by
          simp only [consO, hargs, headT]
        have hu' : opd (c.ty t) (⟨rmO E (tmpOf mv x), m⟩ : St) y = some u := by rw [opd_rdL, lk_rmO]; exact hu
        rw [h1] at hv1 hu'
        simp only [stepO, hargs, htys, takM_tak hv1, Option.bind_some, hu', h1, h2, hb, cond_true, hys, hroom, br, hc]
      · cases h
    · cases h
  · rename_i t n parts hop
    simp only at hop; subst hop
    refine plain (fun cl e => by cases e) ?_
    simp only [stepO]
    rw [rdL_of]
    rw [Option.bind_eq_some_iff] at h
    obtain ⟨τ, hτ, h⟩ := h
    rw [hτ]
    split at h
    · simp only [Option.bind_eq_some_iff] at h
      obtain ⟨ps, hps, h⟩ := h
      obtain ⟨hb, h⟩ := cond_then h
      simp only [Option.bind_eq_some_iff] at h
      obtain ⟨xs, hxs, h⟩ := h
      injection h with h; subst h
      simp only [Option.bind_some, hps, hb, cond_true, hxs]
    · cases h
  · rename_i hn1 hn2 hn3
    rw [← rdL_of ⟨E, m⟩] at h
    obtain ⟨hB, tE, tM, h1, h2, h3, h4⟩ := id hR
    obtain ⟨v', x, g1, g2, g3⟩ := valO_sound hT hB.wf hR.reads h2 h
    injection g3 with g3; subst g3
    have hc : consO mv ⟨dst, op, ty, pos, after, guard⟩ = none := by
      unfold consO
      split
      · rename_i f args tys e; exact absurd e (hn1 _ _ _)
      · rename_i args tys e; exact absurd e (hn2 _ _)
      · rfl
    rw [hc]
    exact wp_val g1 (hR.withV g2) hd rfl
end Go.Proofs.Ytennedlpmacicaa.Pal
