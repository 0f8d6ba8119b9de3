/- What operations give that turn no memory. -/
import Derived.Test.YtennedlpmacicaaMem5
namespace Go.Proofs.Ytennedlpmacicaa.Pal
open Go
variable {P : Program} {X Y : Nat → Nat → Prop} {G0 G G' : Gh} {w0 w w' : World} {s : St} {a : Act} {c : Cx}

/-- A reader of operands is right. -/
def Reads (G : Gh) (w : World) (a : Act) (ρ : Option Ty → Operand → Option V) : Prop := ∀ e x v, ρ e x = some v → TRep G w v (a.eval x) []
theorem RS.reads (hR : RS X G0 w0 G s a.tmps w) : Reads G w a (fun e x => opd e s x) := fun _ _ _ h => opd_rep hR h
theorem opdL_vals {ρ : Option Ty → Operand → Option V} (hρ : Reads G w a ρ) : ∀ (l : List Operand) (vs : List V), opdL ρ l = some vs → ∀ xs : List Value, l.map a.eval = xs → vs.length = xs.length ∧ ∀ (i : Nat) (v : V) (x : Value), vs[i]? = some v → xs[i]? = some x → TRep G w v x []
  | [], vs, h, xs, e => by
    simp only [opdL, Option.some.injEq] at h; subst h; subst e
    exact ⟨rfl, fun i v x h => by simp at h⟩
  | o :: r, vs, h, xs, e => by
    simp only [opdL, Option.bind_eq_some_iff, Option.some.injEq] at h
    obtain ⟨v, hv, vs', hvs, rfl⟩ := h
    subst e
    obtain ⟨h1, h2⟩ := opdL_vals hρ r vs' hvs _ rfl
    refine ⟨by simp [h1], fun i u x hi hx => ?_⟩
    cases i with
    | zero =>
      simp only [List.getElem?_cons_zero, Option.some.injEq, List.map_cons] at hi hx
      subst hi; subst hx; exact hρ _ _ _ hv
    | succ i => exact h2 i u x (by simpa using hi) (by simpa using hx)
theorem caps_rep : ∀ (vs : List V) (xs : List Value) (l : List (Nat × List Step)), vs.length = xs.length → (∀ (i : Nat) (v : V) (x : Value), vs[i]? = some v → xs[i]? = some x → TRep G w v x []) →
    (vs.foldr (fun v acc => acc.bind fun l => match v with | .ref k p => some ((k, p) :: l) | _ => none) (some []) : Option (List (Nat × List Step))) = some l → capsRep G l xs
  | [], [], l, _, _, h => by simp only [List.foldr_nil, Option.some.injEq] at h; subst h; rfl
  | [], _ :: _, _, h, _, _ => by simp at h
  | _ :: _, [], _, h, _, _ => by simp at h
  | v :: vs, x :: xs, l, hl, hv, h => by
    simp only [List.foldr_cons, Option.bind_eq_some_iff] at h
    obtain ⟨l', h1, h2⟩ := h
    cases v with
    | ref k p =>
      simp only [Option.some.injEq] at h2; subst h2
      have h0 := (hv 0 _ _ rfl rfl).ref_
      exact ⟨x, xs, rfl, h0.1, h0.2, caps_rep vs xs l' (by simpa using hl) (fun i u y hi hy => hv (i + 1) u y (by simpa using hi) (by simpa using hy)) h1⟩
    | _ => simp at h2
theorem unary_not {b : Bool} : (Op.unary .not (.bool b)).run P w = .ok (.bool (bnot b)) w := rfl
theorem max_run {k k' : IntKind} {m n : Int} (h : k = k') {t ty : _} : (Builtin.max_ t ty #[.int k m, .int k' n]).run P w = .ok (.int k (imax m n)) w := by
  subst h
  simp [Builtin.max_, Builtin.max2, imax]
theorem min_run {k k' : IntKind} {m n : Int} (h : k = k') {t ty : _} : (Builtin.min_ t ty #[.int k m, .int k' n]).run P w = .ok (.int k (imin m n)) w := by
  subst h
  simp [Builtin.min_, Builtin.min2, imin]
theorem cells_one {v : V} (h : v.agg = false) : v.cells = 1 := by
  cases v with
  | dat τ x => cases τ <;> first | rfl | (simp [V.agg, Ty.agg] at h)
  | pr a b => simp [V.agg] at h
  | _ => rfl
theorem VRep.one {v : V} {cs : List Value} {ts : List Nat} (h : VRep G w v cs ts) (hag : v.agg = false) : ∃ x, cs = [x] := by
  have h1 := VRep.length v cs ts h
  rw [cells_one hag] at h1
  exact List.length_eq_one_iff.1 h1
theorem load_run (hT : TT P c) {t : Nat} {ly : Nat × Bool} {b o : Nat} {u : V} {cs : List Value} {ts : List Nat} (hl : c.lay t = some ly) (hu : VRep G w u cs ts) (hc : CellsAt w b o cs) (h1 : ly.1 = u.cells) (h2 : ly.2 = u.agg) :
    ∃ x, (Instr.loadAt t (.pointer (some ⟨b, o, none⟩))).run P w = .ok x w ∧ (if u.agg then x = .agg cs.toArray else cs = [x]) := by
  obtain ⟨g1, g2⟩ := hT.lay hl w
  have hlen := VRep.length u cs ts hu
  cases hag : u.agg with
  | true =>
    refine ⟨.agg cs.toArray, loadAt_run (agg := true) (by rw [g2, h2, hag]) (by rw [g1, h1, hlen]) hc (by simp), by simp⟩
  | false =>
    have : ∃ x, cs = [x] := by
      have h3 := VRep.one hu hag
      exact h3
    obtain ⟨x, rfl⟩ := this
    exact ⟨x, loadAt_run (agg := false) (by rw [g2, h2, hag]) (by rw [g1, h1, hlen]) hc (by simp), by simp⟩
theorem br_cases {α : Type} {b : Bool} {x y : Option α} {r : α} (h : br b x y = some r) : (b = true ∧ x = some r) ∨ (b = false ∧ y = some r) := some_of_br h
theorem cond_then {α : Type} {b : Bool} {x : Option α} {r : α} (h : (bif b then x else none) = some r) : b = true ∧ x = some r := by
  cases b with
  | true => exact ⟨rfl, h⟩
  | false => cases h
theorem lenV_slc {e : Ty} {v : V} {xs : List e.D} {n : Int} (h : V.as (.slc e) v = some xs) (hn : lenV v = some n) : n = ilen xs := by
  cases v with
  | dat τ y =>
    simp only [V.as] at h
    split at h
    · rename_i he; subst he
      injection h with h; subst h
      simpa [lenV] using hn.symm
    · cases h
  | _ => simp [lenV] at hn
theorem lenV_str {v : V} {xs : List UInt8} {n : Int} (h : V.as .str v = some xs) (hn : lenV v = some n) : n = ilen xs := by
  cases v with
  | dat τ y =>
    simp only [V.as] at h
    split at h
    · rename_i he; subst he
      injection h with h; subst h
      simpa [lenV] using hn.symm
    · cases h
  | _ => simp [lenV] at hn
theorem DVal.str {xs : List UInt8} {x : Value} (h : DVal G.I .str xs x) : x = .string ⟨xs.toArray⟩ := (h.trep (w := default)).dat_str
theorem ofCells_trep {v : V} {cs : List Value} {ts : List Nat} {x : Value} (h : VRep G w v cs ts) (hx : ofCells v.agg cs x) : TRep G w v x ts := by
  refine ⟨cs, h, ?_⟩
  unfold ofCells at hx
  split at hx
  · rename_i e; rw [if_pos e]; exact hx
  · rename_i e; rw [if_neg e]; exact hx.1
theorem valO_sound {α : Type} (hT : TT P c) {ρ : Option Ty → Operand → Option V} {m : List (Nat × V)} {tM : List Nat} {o : Oper} {K : V → Option α} {r : α} (hW : Wf G w) (hρ : Reads G w a ρ) (hM : MemRep G w m tM) (h : valO c o ρ m K = some r) :
    ∃ v x, (execOp a.eval o).run P w = .ok (.value x) w ∧ TRep G w v x [] ∧ K v = some r := by
  obtain ⟨dst, op, ty, pos, after, guard⟩ := o
  unfold valO at h
  split at h
  · rename_i x hop
    simp only at hop; subst hop
    simp only [Option.bind_eq_some_iff] at h
    obtain ⟨v, hv, h⟩ := h
    exact ⟨v, a.eval x, rfl, hρ _ _ _ hv, h⟩
  · rename_i x hop
    simp only at hop; subst hop
    simp only [Option.bind_eq_some_iff] at h
    obtain ⟨v, hv, h⟩ := h
    exact ⟨v, a.eval x, rfl, hρ _ _ _ hv, h⟩
  · rename_i p x y hop
    simp only at hop; subst hop
    simp only [Option.bind_eq_some_iff] at h
    obtain ⟨pv, hp, h⟩ := h
    split at h
    · rename_i b
      have hb := (hρ _ _ _ hp).dat_bool
      rcases br_cases h with ⟨rfl, h⟩ | ⟨rfl, h⟩
      · obtain ⟨v, hv, h⟩ := Option.bind_eq_some_iff.1 h
        exact ⟨v, a.eval x, by simp [execOp, hb, asBool], hρ _ _ _ hv, h⟩
      · obtain ⟨v, hv, h⟩ := Option.bind_eq_some_iff.1 h
        exact ⟨v, a.eval y, by simp [execOp, hb, asBool], hρ _ _ _ hv, h⟩
    · cases h
  · rename_i t parts hop
    simp only at hop; subst hop
    simp only [Option.bind_eq_some_iff] at h
    obtain ⟨ti, hti, h⟩ := h
    obtain ⟨hag, h⟩ := cond_then h
    simp only [Option.bind_eq_some_iff] at h
    obtain ⟨ps, hps, v, hv, h⟩ := h
    obtain ⟨x, hx, hr⟩ := build_run (parts := parts.map fun p => (p.1, a.eval p.2)) hT hti hag (by simpa using opds_parts hρ _ _ hps) hv
    exact ⟨v, x, runV hx, hr, h⟩
  · rename_i t ad hop
    simp only at hop; subst hop
    simp only [Option.bind_eq_some_iff] at h
    obtain ⟨ly, hly, av, hav, h⟩ := h
    split at h
    · rename_i k p
      simp only [Option.bind_eq_some_iff] at h
      obtain ⟨v, hv, u, hu, h⟩ := h
      obtain ⟨hb, h⟩ := cond_then h
      simp only [Bool.and_eq_true] at hb
      obtain ⟨hp1, hp2⟩ := (hρ _ _ _ hav).ref_
      obtain ⟨t1, t2, cs, _, hv1, hc, _, _⟩ := MemRep.find k m tM v hM hv
      obtain ⟨c1, cu, c2, tu, e1, e2, _, hu1⟩ := get_rep p v u cs t1 hv1 hu hp2
      have hcu : CellsAt w (G.ρ k).1 ((G.ρ k).2 + offs p) cu := by
        intro j y hj
        have := hc (offs p + j) y (by rw [e1, List.getElem?_append_right (by omega), List.getElem?_append_left (by have := (List.getElem?_eq_some_iff.1 hj).1; omega)]; rw [← hj]; congr 1; omega)
        rwa [← Nat.add_assoc] at this
      obtain ⟨x, hx, hxu⟩ := load_run (P := P) hT hly hu1 hcu (beq_nat.1 hb.1) (by simpa using hb.2)
      refine ⟨u.copy, x, ?_, ⟨cu, hu1.copy u cu tu, by rw [copy_agg]; exact hxu⟩, h⟩
      simp only [execOp, hp1, Gh.addr]
      exact runV hx
    · rename_i τ y
      obtain ⟨hb, h⟩ := cond_then h
      simp only [Bool.and_eq_true] at hb
      obtain ⟨b, o, cc, e1, e2, e3⟩ := (hρ _ _ _ hav).ip_
      have hu1 : VRep G w (.dat τ y) cc [] := ⟨e2, rfl⟩
      obtain ⟨x, hx, hxu⟩ := load_run (P := P) hT hly hu1 (fun j z hj => hW.holds _ _ _ (e3 j z hj)) (beq_nat.1 hb.1) (by show ly.2 = τ.agg; simpa using hb.2)
      refine ⟨.dat τ y, x, ?_, ⟨cc, hu1, hxu⟩, h⟩
      simp only [execOp, e1]
      exact runV hx
    · cases h
  · rename_i x hop
    simp only at hop; subst hop
    simp only [Option.bind_eq_some_iff] at h
    obtain ⟨v, hv, h⟩ := h
    have hr := hρ _ _ _ hv
    split at h
    · exact ⟨_, a.eval x, by simp only [execOp, hr.ref_.1]; rfl, hr, h⟩
    · obtain ⟨cs, ⟨vs, e1, _, _⟩, e2⟩ := hr
      simp only [V.agg, Bool.false_eq_true, if_false] at e2
      rw [e1] at e2
      simp only [List.cons.injEq, and_true] at e2
      exact ⟨_, a.eval x, by simp only [execOp, ← e2]; rfl, hρ _ _ _ hv, h⟩
    · obtain ⟨b, o, cc, e1, _⟩ := hr.ip_
      exact ⟨_, a.eval x, by simp only [execOp, e1]; rfl, hr, h⟩
    · cases h
  · rename_i op t x y _ hop
    simp only at hop; subst hop
    simp only [Option.bind_eq_some_iff] at h
    obtain ⟨v, hv, u, hu, h⟩ := h
    obtain ⟨hb, h⟩ := cond_then h
    obtain ⟨v', x', h1, h2, h3⟩ := binOp_run hT (ox := x) (oy := y) (hρ _ _ _ hv) (hρ _ _ _ hu) hb h
    exact ⟨v', x', runV h1, h2, h3⟩
  · rename_i op t x hop
    simp only at hop; subst hop
    simp only [Option.bind_eq_some_iff] at h
    obtain ⟨v, hv, h⟩ := h
    split at h
    · rename_i b
      exact ⟨_, .bool (bnot b), by simp only [execOp, (hρ _ _ _ hv).dat_bool]; rfl, TRep.bool _, h⟩
    · rename_i k n
      refine ⟨_, .int k (isub k 0 n), ?_, TRep.int _ _, h⟩
      simp only [execOp, (hρ _ _ _ hv).dat_int]
      refine runV ?_
      simp [Op.unary, Op.intArith, isub]
    · cases h
  · rename_i q t x hop
    simp only at hop; subst hop
    simp only [Option.bind_eq_some_iff] at h
    obtain ⟨σ, hσ, v, hv, τ, hτ, h⟩ := h
    split at h
    · rename_i k0 k k1 n
      exact ⟨_, .int k (iwrap k n), by
        simp only [execOp, (hρ _ _ _ hv).dat_int]
        exact runV (convert_run ⟨_, tyB_int (hT.ty hσ).1⟩ (tyB_int (hT.ty hτ).1)), TRep.int _ _, h⟩
    · rename_i b
      exact ⟨_, .string ⟨b.toArray⟩, by
        simp only [execOp, (hρ _ _ _ hv).dat_str]
        exact runV (convertS_run (tyB_str (hT.ty hσ).1) (tyB_str (hT.ty hτ).1)), TRep.str _, h⟩
    · cases h
  · rename_i t x lo hi mx hop
    simp only at hop; subst hop
    simp only [Option.bind_eq_some_iff] at h
    obtain ⟨τ, hτ, v, hv, lov, hlov, hiv, hhiv, h⟩ := h
    have hlo : ∀ k l, lov = .dat (.int k) l → (lo.map a.eval = none ∧ l = 0) ∨ lo.map a.eval = some (.int k l) := by
      intro k l e
      subst e
      cases lo with
      | none =>
        simp only [Option.some.injEq, V.dat.injEq] at hlov
        obtain ⟨e1, e2⟩ := hlov
        injection e1 with e1; subst e1
        exact .inl ⟨rfl, (eq_of_heq e2).symm⟩
      | some y => exact .inr (by simp [(hρ _ _ _ hlov).dat_int])
    split at h
    · rename_i e k1 l k2 hh
      simp only [Option.bind_eq_some_iff] at h
      obtain ⟨xs, hxs, h⟩ := h
      obtain ⟨hb, h⟩ := br_then h
      obtain ⟨E, m', hu, hE⟩ := tyB_slc (hT.ty hτ).1
      have hd := TRep.as_ hxs (hρ _ _ _ hv)
      have hhi : (hi.map a.eval = none ∧ hh = ilen xs) ∨ hi.map a.eval = some (.int k2 hh) := by
        cases hi with
        | none =>
          simp only [Option.map_eq_some_iff] at hhiv
          obtain ⟨n, hn, e1⟩ := hhiv
          simp only [V.dat.injEq] at e1
          obtain ⟨e1, e2⟩ := e1
          injection e1 with e1; subst e1
          refine .inl ⟨rfl, ?_⟩
          exact (eq_of_heq e2).symm.trans (lenV_slc hxs hn)
        | some y => exact .inr (by simp [(hρ _ _ _ hhiv).dat_int])
      obtain ⟨x', h1, h2⟩ := sliceSlc_run (P := P) (G := G) (w := w) hu hE hd (hlo _ _ rfl) hhi hb
      exact ⟨_, x', runV h1, h2, h⟩
    · rename_i k1 l k2 hh
      simp only [Option.bind_eq_some_iff] at h
      obtain ⟨xs, hxs, h⟩ := h
      obtain ⟨hb, h⟩ := br_then h
      have hu := tyB_str (hT.ty hτ).1
      have hd := (TRep.as_ hxs (hρ _ _ _ hv)).str
      have hhi : (hi.map a.eval = none ∧ hh = ilen xs) ∨ hi.map a.eval = some (.int k2 hh) := by
        cases hi with
        | none =>
          simp only [Option.map_eq_some_iff] at hhiv
          obtain ⟨n, hn, e1⟩ := hhiv
          simp only [V.dat.injEq] at e1
          obtain ⟨e1, e2⟩ := e1
          injection e1 with e1; subst e1
          refine .inl ⟨rfl, ?_⟩
          exact (eq_of_heq e2).symm.trans (lenV_str hxs hn)
        | some y => exact .inr (by simp [(hρ _ _ _ hhiv).dat_int])
      exact ⟨_, .string ⟨(piece xs l hh).toArray⟩, by
        simp only [execOp, hd]
        exact runV (sliceStr_run hu (hlo _ _ rfl) hhi hb), TRep.str _, h⟩
    · cases h
  · rename_i t x f hop
    simp only at hop; subst hop
    simp only [Option.bind_eq_some_iff] at h
    obtain ⟨ti, hti, h⟩ := h
    obtain ⟨hf, h⟩ := cond_then h
    simp only [Option.bind_eq_some_iff] at h
    obtain ⟨v, hv, h⟩ := h
    obtain ⟨fs, g, hu, hg, hoff, hpo, z, hz, h0⟩ := field_at hT hti hf
    split at h
    · rename_i k p
      obtain ⟨hp1, hp2⟩ := (hρ _ _ _ hv).ref_
      refine ⟨_, .pointer (some (G.addr k (p ++ fpath ti.ty ti.nf f))), ?_, TRep.ref_mk (pathOk_append _ _ hp2 hpo), h⟩
      simp only [execOp, hp1, Gh.addr, offs_append, ← hoff, ← Nat.add_assoc]
      exact runV (fieldAt_run hu hg hz h0)
    · rename_i τ y
      simp only [Option.bind_eq_some_iff] at h
      obtain ⟨u, hu', h⟩ := h
      obtain ⟨b, o, cc, e1, e2, e3⟩ := (hρ _ _ _ hv).ip_
      obtain ⟨c1, cu, c2, tu, e4, e5, _, hu1⟩ := get_rep (G := G) (w := w) _ (.dat τ y) u cc [] ⟨e2, rfl⟩ hu' hpo
      split at h
      · rename_i τ' y'
        refine ⟨_, .pointer (some ⟨b, o + g.offset, none⟩), ?_, TRep.ip_mk hu1.1 (fun j z hj => ?_), h⟩
        · simp only [execOp, e1]
          exact runV (fieldAt_run hu hg hz h0)
        · have := e3 (g.offset + j) z (by rw [e4, hoff, ← e5, List.getElem?_append_right (by omega), List.getElem?_append_left (by have := (List.getElem?_eq_some_iff.1 hj).1; omega)]; rw [← hj]; congr 1; omega)
          rwa [← Nat.add_assoc] at this
      · cases h
    · cases h
  · rename_i t x i hop
    simp only at hop; subst hop
    simp only [Option.bind_eq_some_iff] at h
    obtain ⟨τ, hτ, v, hv, iv, hiv, h⟩ := h
    split at h
    · rename_i e k n
      simp only [Option.bind_eq_some_iff] at h
      obtain ⟨xs, hxs, h⟩ := h
      obtain ⟨hb, h⟩ := br_then h
      obtain ⟨E, m', hu, hE⟩ := tyB_slc (hT.ty hτ).1
      obtain ⟨x', h1, h2⟩ := indexSlice_run (P := P) (w := w) (k := k) hu hE (TRep.as_ hxs (hρ _ _ _ hv)) hb
      refine ⟨_, x', ?_, h2, h⟩
      simp only [execOp, (hρ _ _ _ hiv).dat_int]
      exact runV h1
    · rename_i q e k n
      obtain ⟨E, m', hu, hE⟩ := tyB_arr (hT.ty hτ).1
      split at h
      · rename_i kk p
        obtain ⟨hb, h⟩ := br_then h
        obtain ⟨hp1, hp2⟩ := (hρ _ _ _ hv).ref_
        refine ⟨_, .pointer (some (G.addr kk (p ++ [.ix q e.cells (natOf n)]))), ?_, TRep.ref_mk (pathOk_append _ _ hp2 (show pathOk [.ix q e.cells (natOf n)] from ⟨(inB_spec hb).2.2, trivial⟩)), h⟩
        simp only [execOp, (hρ _ _ _ hiv).dat_int, hp1, Gh.addr, offs_append, offs, Nat.add_zero, ← Nat.add_assoc]
        exact runV (indexArr_run hu hE hb)
      · rename_i τ' y
        simp only [Option.bind_eq_some_iff] at h
        obtain ⟨xs, hxs, h⟩ := h
        obtain ⟨hb, h⟩ := br_then h
        obtain ⟨b, o, cc, e1, e2, e3⟩ := (hρ _ _ _ hv).ip_
        have hd := as_rep (G := G) (w := w) (.arr q e) (.dat τ' y) xs cc [] hxs ⟨e2, rfl⟩
        obtain ⟨hl, hA⟩ := hd
        have hi := (inB_spec hb).2.2
        obtain ⟨c1, c2, c3⟩ := (All2.elems (fun x c => DRep.length e x c) xs cc b o hA e3) (natOf n) (rd e xs (natOf n)) (rd_at (by show natOf n < List.length xs; rw [hl]; exact hi))
        refine ⟨_, .pointer (some ⟨b, o + natOf n * e.cells, none⟩), ?_, TRep.ip_mk c2 c3, h⟩
        simp only [execOp, (hρ _ _ _ hiv).dat_int, e1]
        exact runV (indexArr_run hu hE hb)
      · cases h
    · cases h
  · rename_i t x i hop
    simp only at hop; subst hop
    simp only [Option.bind_eq_some_iff] at h
    obtain ⟨τ, hτ, v, hv, iv, hiv, h⟩ := h
    split at h
    · rename_i k n
      simp only [Option.bind_eq_some_iff] at h
      obtain ⟨b, hb0, h⟩ := h
      obtain ⟨hb, h⟩ := br_then h
      refine ⟨_, .int .u8 (byteAt b n), ?_, TRep.int _ _, h⟩
      simp only [execOp, (hρ _ _ _ hiv).dat_int, ((hρ _ _ _ hv).as_ hb0).str]
      exact runV (index_run (tyB_str (hT.ty hτ).1) hb)
    · rename_i q e k n
      simp only [Option.bind_eq_some_iff] at h
      obtain ⟨xs, hxs, h⟩ := h
      obtain ⟨hb, h⟩ := br_then h
      obtain ⟨E, m, hu, hE⟩ := tyB_arr (hT.ty hτ).1
      obtain ⟨cs, ⟨hl, hA⟩, hx⟩ := (hρ _ _ _ hv).as_ hxs
      simp only [Ty.agg, if_true] at hx
      have hi := (inB_spec hb).2.2
      obtain ⟨c1, cu, c2, f1, f2, f3, _⟩ := All2.at_ (sz := e.cells) e.zero (fun x c => DRep.length e x c) xs cs (natOf n) hA (by show natOf n < List.length xs; rw [hl]; exact hi)
      obtain ⟨y, hy, hyc⟩ := part_run hE c1 cu c2 (DRep.length e _ cu f3) w
      refine ⟨.dat e (rd e xs (natOf n)), y, ?_, ⟨cu, ⟨f3, rfl⟩, hyc⟩, h⟩
      simp only [execOp, (hρ _ _ _ hiv).dat_int, hx]
      refine runV ?_
      simp only [Instr.index, asIntOf, Sem.run_bind, Sem.run_pure, Result.andThen_ok, run_underlying hu]
      rw [if_pos ⟨(inB_spec hb).1, (inB_spec hb).2.1⟩]
      simp only [Sem.run_bind, (tyB_i hE).sizeOf w, Result.andThen_ok]
      rw [show n.toNat * e.cells = c1.length from f2.symm, f1]
      exact hy
    · cases h
  · rename_i x i hop
    simp only at hop; subst hop
    simp only [Option.bind_eq_some_iff] at h
    obtain ⟨v, hv, h⟩ := h
    have hr := hρ _ _ _ hv
    have nil1 : ∀ (t1 t2 : List Nat), [] = t1 ++ t2 → t1 = [] ∧ t2 = [] := fun t1 t2 e => by simpa using e.symm
    split at h
    · obtain ⟨cs, ⟨va, vb, ca, cb, t1, t2, e1, e2, g1, g2, g3, g4⟩, e3⟩ := hr
      obtain ⟨rfl, rfl⟩ := nil1 _ _ e2
      rw [e1] at e3
      simp only [V.agg, Bool.false_eq_true, if_false, List.cons.injEq, and_true] at e3
      exact ⟨_, va, by simp only [execOp, ← e3]; rfl, ofCells_trep g1 g2, h⟩
    · obtain ⟨cs, ⟨va, vb, ca, cb, t1, t2, e1, e2, g1, g2, g3, g4⟩, e3⟩ := hr
      obtain ⟨rfl, rfl⟩ := nil1 _ _ e2
      rw [e1] at e3
      simp only [V.agg, Bool.false_eq_true, if_false, List.cons.injEq, and_true] at e3
      exact ⟨_, vb, by simp only [execOp, ← e3]; rfl, ofCells_trep g3 g4, h⟩
    · obtain ⟨cs, ⟨va, vb, vd, ca, cb, cd, t1, t2, t3, e1, e2, g1, g2, g3, g4, g5, g6⟩, e3⟩ := hr
      obtain ⟨rfl, e2⟩ := nil1 _ _ e2
      rw [e1] at e3
      simp only [V.agg, Bool.false_eq_true, if_false, List.cons.injEq, and_true] at e3
      exact ⟨_, va, by simp only [execOp, ← e3]; rfl, ofCells_trep g1 g2, h⟩
    · obtain ⟨cs, ⟨va, vb, vd, ca, cb, cd, t1, t2, t3, e1, e2, g1, g2, g3, g4, g5, g6⟩, e3⟩ := hr
      obtain ⟨z1, z2⟩ := nil1 _ _ e2
      obtain ⟨z3, z4⟩ := nil1 _ _ z2.symm
      subst z1; subst z3; subst z4
      rw [e1] at e3
      simp only [V.agg, Bool.false_eq_true, if_false, List.cons.injEq, and_true] at e3
      exact ⟨_, vb, by simp only [execOp, ← e3]; rfl, ofCells_trep g3 g4, h⟩
    · obtain ⟨cs, ⟨va, vb, vd, ca, cb, cd, t1, t2, t3, e1, e2, g1, g2, g3, g4, g5, g6⟩, e3⟩ := hr
      obtain ⟨z1, z2⟩ := nil1 _ _ e2
      obtain ⟨z3, z4⟩ := nil1 _ _ z2.symm
      subst z1; subst z3; subst z4
      rw [e1] at e3
      simp only [V.agg, Bool.false_eq_true, if_false, List.cons.injEq, and_true] at e3
      exact ⟨_, vd, by simp only [execOp, ← e3]; rfl, ofCells_trep g5 g6, h⟩
    · cases h
  · rename_i f first caps hop
    simp only at hop; subst hop
    obtain ⟨hf, h⟩ := cond_then h
    simp only [Option.bind_eq_some_iff] at h
    obtain ⟨vs, hvs, l, hl, h⟩ := h
    obtain ⟨h1, h2⟩ := opdL_vals hρ _ _ hvs _ rfl
    refine ⟨_, .func (.func f) (first.map a.eval) (caps.map a.eval), rfl, ⟨_, (show VRep G w (.fn f l) [.func (.func f) #[] (caps.map a.eval)] [] from ⟨caps.map a.eval, rfl, ?_, rfl⟩), ?_⟩, h⟩
    · simpa using caps_rep vs _ l h1 h2 hl
    · have : first = #[] := by simpa using hf
      rw [this]; simp [V.agg]
  · rename_i b args argTypes hop
    simp only at hop; subst hop
    split at h
    · rename_i x t _ hargs htys
      simp only [Option.bind_eq_some_iff] at h
      obtain ⟨τ, hτ, v, hv, h⟩ := h
      obtain ⟨hok, h⟩ := cond_then h
      simp only [Option.bind_eq_some_iff] at h
      obtain ⟨n, hn, h⟩ := h
      have ea : args = #[x] := by apply Array.ext'; simpa using hargs
      refine ⟨_, .int .i64 n, ?_, TRep.int _ _, h⟩
      have hrun := len_run (P := P) (ty := ty) (hT.ty hτ).1 (hρ _ _ _ hv) hok hn
      subst ea
      have et : argTypes[0]? = some t := by rw [← Array.getElem?_toList, htys]; rfl
      have hrun' : (Builtin.len_ argTypes ty (Array.map a.eval #[x])).run P w = .ok (.int .i64 n) w := by simpa [Builtin.len_, et] using hrun
      simp only [execOp, resolve, Sem.run_bind, Sem.run_pure, Result.andThen_ok, invoke, builtin, hrun']
    · rename_i x y hargs
      simp only [Option.bind_eq_some_iff] at h
      obtain ⟨v, hv, u, hu, h⟩ := h
      have ea : args = #[x, y] := by apply Array.ext'; simpa using hargs
      split at h
      · rename_i k m k' n
        obtain ⟨hk, h⟩ := cond_then h
        refine ⟨_, .int k (imax m n), ?_, TRep.int _ _, h⟩
        subst ea
        have := max_run (P := P) (w := w) (m := m) (n := n) (kn_inj (beq_nat.1 hk)) (t := argTypes) (ty := ty)
        have hrun' : (Builtin.max_ argTypes ty (Array.map a.eval #[x, y])).run P w = .ok (.int k (imax m n)) w := by simpa [(hρ _ _ _ hv).dat_int, (hρ _ _ _ hu).dat_int] using this
        simp only [execOp, resolve, Sem.run_bind, Sem.run_pure, Result.andThen_ok, invoke, builtin, hrun']
      · cases h
    · rename_i x y hargs
      simp only [Option.bind_eq_some_iff] at h
      obtain ⟨v, hv, u, hu, h⟩ := h
      have ea : args = #[x, y] := by apply Array.ext'; simpa using hargs
      split at h
      · rename_i k m k' n
        obtain ⟨hk, h⟩ := cond_then h
        refine ⟨_, .int k (imin m n), ?_, TRep.int _ _, h⟩
        subst ea
        have := min_run (P := P) (w := w) (m := m) (n := n) (kn_inj (beq_nat.1 hk)) (t := argTypes) (ty := ty)
        have hrun' : (Builtin.min_ argTypes ty (Array.map a.eval #[x, y])).run P w = .ok (.int k (imin m n)) w := by simpa [(hρ _ _ _ hv).dat_int, (hρ _ _ _ hu).dat_int] using this
        simp only [execOp, resolve, Sem.run_bind, Sem.run_pure, Result.andThen_ok, invoke, builtin, hrun']
      · cases h
    · cases h
  · cases h
end Go.Proofs.Ytennedlpmacicaa.Pal
