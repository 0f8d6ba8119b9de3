/- The row: what comes in is data; what the law's run says, the statement says. -/
import Derived.Test.YtennedlpmacicaaFns
import Derived.OpenShut
import Derived.Carry
import Derived.ChangeAt
import Derived.ProofKit
namespace Go.Proofs.Ytennedlpmacicaa.Pal
open Go
variable {H : Type} {enc : TypeId × Value → H} {P : Program} {W : World} {base : Nat} {spare : Nat → Bool} {held : Bool}

/-- All memory, as it lies. -/
def img (W : World) : Im := fun b o => W.cell? ⟨b, o, none⟩
/-- Numbers fit their kinds; nothing is longer than may be. -/
def Fits : (τ : Ty) → τ.D → Prop
  | .int k, n => (Lit.int k n).wf = true
  | .bool, _ => True
  | .str, s => s.length ≤ maxLen
  | .slc e, xs => List.length xs ≤ maxLen ∧ ∀ x ∈ xs, Fits e x
  | .arr n e, xs => List.length xs = n ∧ ∀ x ∈ xs, Fits e x
  | .pair a b, x => Fits a x.1 ∧ Fits b x.2
theorem cellsOf_ty {n : Nat} {T : TypeId} {τ : Ty} (h : tyB P n T τ = true) : P.cellsOf T = τ.cells := by
  obtain ⟨i, hi, hs, _⟩ := (tyB_i h).info
  simp [Program.cellsOf, hi, hs]
theorem pick_all {α β : Type} {f : Nat → Option β} {R : Nat → α → Prop} : ∀ (n : Nat), (∀ i, i < n → ∃ x, R i x) → ∃ xs : List α, xs.length = n ∧ ∀ i x, xs[i]? = some x → R i x
  | 0, _ => ⟨[], rfl, fun i x h => by simp at h⟩
  | n + 1, h => by
    obtain ⟨xs, h1, h2⟩ := pick_all (f := f) n fun i hi => h i (by omega)
    obtain ⟨x, hx⟩ := h n (by omega)
    refine ⟨xs ++ [x], by simp [h1], fun i y hy => ?_⟩
    rcases Nat.lt_or_ge i n with hi | hi
    · rw [List.getElem?_append_left (by omega)] at hy; exact h2 i y hy
    · have : i = n := by have := (List.getElem?_eq_some_iff.1 hy).1; simp at this; omega
      subst this
      rw [List.getElem?_append_right (by omega)] at hy
      simp [h1] at hy; subst hy; exact hx
theorem all2_seg {α : Type} {R : α → List Value → Prop} {sz : Nat} : ∀ (xs : List α) (cs : List Value), cs.length = xs.length * sz → (∀ i x, xs[i]? = some x → R x ((cs.drop (i * sz)).take sz)) → All2 R xs cs
  | [], cs, h, _ => List.eq_nil_of_length_eq_zero (by simpa using h)
  | x :: xs, cs, h, hR => by
    have h0 := hR 0 x rfl
    simp only [Nat.zero_mul, List.drop_zero] at h0
    refine ⟨cs.take sz, cs.drop sz, (List.take_append_drop sz cs).symm, h0, all2_seg (sz := sz) xs (cs.drop sz) (by simp [h, Nat.add_mul]) fun i y hy => ?_⟩
    have := hR (i + 1) y (by simpa using hy)
    rw [List.drop_drop]
    rwa [show sz + i * sz = (i + 1) * sz by rw [Nat.add_mul]; omega]
theorem flds_open {fuel : Nat} (IH : ∀ (τ : Ty) (n : Nat) (T : TypeId) (cs : List Value) (y : DataW H × List MemPlace), tyB P n T τ = true → DataW.trod enc P W base spare held fuel T cs = some y → ∃ x, DRep (img W) τ x cs ∧ Fits τ x) {n : Nat} {cs : List Value} :
    ∀ (fs : List Field) (o : Nat) (τ : Ty), flds (tyB P n) fs o τ = true → (∀ f ∈ fs, ∃ y, DataW.trod enc P W base spare held fuel f.type ((cs.drop f.offset).take (P.cellsOf f.type)) = some y) →
      ∃ x, DRep (img W) τ x ((cs.drop o).take τ.cells) ∧ Fits τ x
  | [], _, _, h, _ => by simp [flds] at h
  | [g], o, τ, h, ht => by
    simp only [flds, Bool.and_eq_true] at h
    obtain ⟨⟨h1, h2⟩, _⟩ := h
    obtain ⟨y, hy⟩ := ht g (by simp)
    rw [beq_nat.1 h1, cellsOf_ty h2] at hy
    exact IH τ n g.type _ y h2 hy
  | g :: g' :: r, o, τ, h, ht => by
    cases τ with
    | pair a b =>
      simp only [flds, Bool.and_eq_true] at h
      obtain ⟨⟨⟨h1, h2⟩, _⟩, h4⟩ := h
      obtain ⟨y, hy⟩ := ht g (by simp)
      rw [beq_nat.1 h1, cellsOf_ty h2] at hy
      obtain ⟨x1, k1, k2⟩ := IH a n g.type _ y h2 hy
      obtain ⟨x2, k3, k4⟩ := flds_open IH (g' :: r) (o + a.cells) b h4 fun f hf => ht f (by simp at hf ⊢; exact .inr hf)
      refine ⟨(x1, x2), ⟨_, _, ?_, k1, k3⟩, k2, k4⟩
      rw [← List.drop_drop]
      show List.take (a.cells + b.cells) (cs.drop o) = _
      rw [List.take_add]
    | _ => simp [flds] at h
theorem trod_open : ∀ (fuel : Nat) (τ : Ty) (n : Nat) (T : TypeId) (cs : List Value) (y : DataW H × List MemPlace), tyB P n T τ = true → DataW.trod enc P W base spare held fuel T cs = some y → ∃ x, DRep (img W) τ x cs ∧ Fits τ x := by
  intro fuel
  induction fuel with
  | zero => intro τ n T cs y _ h; simp [DataW.trod] at h
  | succ fuel IH =>
    intro τ n T cs y ht h
    cases τ with
    | int k =>
      obtain ⟨z, h1, _, h3⟩ := DataW.trod_int (tyB_int ht) h
      exact ⟨z, h1, h3⟩
    | bool =>
      obtain ⟨z, h1, _⟩ := DataW.trod_bool (tyB_bool ht) h
      exact ⟨z, h1, trivial⟩
    | str =>
      obtain ⟨z, h1, _, h3⟩ := DataW.trod_string (tyB_str ht) h
      refine ⟨z.data.toList, by rw [h1]; simp [DRep], ?_⟩
      show z.data.toList.length ≤ maxLen
      have := h3
      simp only [ByteArray.size] at this
      simpa using this
    | slc e =>
      obtain ⟨E, m, hu, hE⟩ := tyB_slc ht
      have hsz := cellsOf_ty hE
      have hpos := (tyB_i hE).pos
      rcases DataW.trod_slice hu h with ⟨h1, _⟩ | ⟨a, len, cap, elems, rest, n', hf, h1, _, _, hlc, hcm, hel, hels, _⟩
      · exact ⟨[], ⟨none, 0, 0, h1, rfl, Nat.le_refl _, .inl rfl⟩, Nat.zero_le _, fun x hx => by cases hx⟩
      · have hf' : n' = fuel := by omega
        subst hf'
        have key : ∀ i, i < len → ∃ x : e.D, ∃ c, DRep (img W) e x c ∧ Fits e x ∧ W.cells? base (a.add (i * e.cells)) e.cells = some c := by
          intro i hi
          have := hels i hi
          rw [List.getElem?_eq_getElem (by omega), Option.bind_eq_some_iff] at this
          obtain ⟨c, hc, ht'⟩ := this
          obtain ⟨x, k1, k2⟩ := IH e m E c _ hE ht'
          exact ⟨x, c, k1, k2, by rw [← hsz]; exact hc⟩
        obtain ⟨xs, hl, hxs⟩ := pick_all (f := fun _ => (none : Option Nat)) (R := fun i (x : e.D) => ∃ c, DRep (img W) e x c ∧ Fits e x ∧ W.cells? base (a.add (i * e.cells)) e.cells = some c) len key
        refine ⟨xs, ⟨some a, len, cap, h1, hl, hlc, ?_⟩, ?_, fun x hx => ?_⟩
        · rcases Nat.eq_zero_or_pos len with h0 | h0
          · exact .inl (List.eq_nil_of_length_eq_zero (by omega))
          · refine .inr ⟨a.block, a.off, ?_, fun i x hx => ?_⟩
            · obtain ⟨x, c, _, _, hc⟩ := key 0 h0
              have := (World.cells?_some hc).2.2 0 hpos
              have hlc := (World.cells?_some hc).2.1
              simp only [Nat.zero_mul, Addr.add, if_true] at this
              rw [List.getElem?_eq_getElem (by omega)] at this
              have hs := World.cell?_spot this
              cases a; simp at hs; subst hs; rfl
            · obtain ⟨c, k1, _, hc⟩ := hxs i x hx
              obtain ⟨_, h2, h3⟩ := World.cells?_some hc
              refine ⟨c, k1, fun j v hj => ?_⟩
              have hjl : j < e.cells := by rw [← h2]; exact (List.getElem?_eq_some_iff.1 hj).1
              have := h3 j hjl
              rw [hj] at this
              have hs := World.cell?_spot this
              show W.cell? ⟨a.block, a.off + i * e.cells + j, none⟩ = some v
              rw [← this]
              congr 1
              have hb : ((a.add (i * e.cells)).add j).block = a.block ∧ ((a.add (i * e.cells)).add j).off = a.off + i * e.cells + j := by
                unfold Addr.add; split <;> split <;> simp_all
              cases hh : (a.add (i * e.cells)).add j with
              | mk b' o' s' => rw [hh] at hb hs; simp at hb hs; rw [hb.1, hb.2, hs]
        · show List.length xs ≤ maxLen; rw [hl]; omega
        · obtain ⟨i, hi⟩ := List.getElem?_of_mem hx
          obtain ⟨c, _, k2, _⟩ := hxs i x hi
          exact k2
    | arr q e =>
      obtain ⟨E, m, hu, hE⟩ := tyB_arr ht
      have hsz := cellsOf_ty hE
      have hszT := cellsOf_ty ht
      obtain ⟨ys, m', hf, _, hlen, hyl, hys⟩ := DataW.trod_array hu h
      have hf' : m' = fuel := by omega
      subst hf'
      have key : ∀ i, i < q → ∃ x : e.D, DRep (img W) e x ((cs.drop (i * e.cells)).take e.cells) ∧ Fits e x := by
        intro i hi
        have := hys i hi
        rw [List.getElem?_eq_getElem (by omega), hsz] at this
        exact IH e m E _ _ hE this
      obtain ⟨xs, hl, hxs⟩ := pick_all (f := fun _ => (none : Option Nat)) (R := fun i (x : e.D) => DRep (img W) e x ((cs.drop (i * e.cells)).take e.cells) ∧ Fits e x) q key
      refine ⟨xs, ⟨hl, all2_seg xs cs ?_ fun i x hx => (hxs i x hx).1⟩, hl, fun x hx => ?_⟩
      · rw [hlen, hszT, hl]; rfl
      · obtain ⟨i, hi⟩ := List.getElem?_of_mem hx
        exact (hxs i x hi).2
    | pair a b =>
      obtain ⟨fs, m, hu, _, hfl, _⟩ := tyB_pair ht
      have hszT := cellsOf_ty ht
      obtain ⟨ys, m', hf, _, hlen, hyl, hys⟩ := DataW.trod_struct hu h
      have hf' : m' = fuel := by omega
      subst hf'
      obtain ⟨x, k1, k2⟩ := flds_open (cs := cs) IH fs.toList 0 (.pair a b) hfl fun f hf => by
        obtain ⟨i, hi⟩ := List.getElem?_of_mem hf
        have hi' : fs[i]? = some f := by simpa using hi
        have := hys i f hi'
        rw [List.getElem?_eq_getElem (by rw [hyl]; exact (Array.getElem?_eq_some_iff.1 hi').1)] at this
        exact ⟨_, this⟩
      rw [List.drop_zero, List.take_of_length_le (by rw [hlen, hszT]; exact Nat.le_refl _)] at k1
      exact ⟨x, k1, k2⟩
/-- All memory, and what is known of it. -/
def gh0 (W : World) : Gh := { I := img W, O := fun _ _ => none, ρ := fun _ => (0, 0) }
theorem arg_open {r : Reach} {b0 : Nat} {n : Nat} {T : TypeId} {τ : Ty} {v : Value} {d : DataW H} {ps : List MemPlace} (ht : tyB P n T τ = true) (hval : Value.okWide P W r b0 T v) (hd : DataW.Trod enc P W base spare held T v d ps) :
    ∃ x, TRep (gh0 W) W (.dat τ x) v [] ∧ Fits τ x := by
  obtain ⟨fuel, hf⟩ := hd
  obtain ⟨x, h1, h2⟩ := trod_open fuel τ n T _ _ ht hf
  refine ⟨x, ⟨v.cells.toList, ⟨h1, rfl⟩, ?_⟩, h2⟩
  have scalar : (∀ cs, v ≠ .agg cs) → v.cells.toList = [v] := by
    intro h
    cases v <;> first | rfl | exact absurd rfl (h _)
  cases τ with
  | int k =>
    refine scalar fun cs e => ?_
    subst e; simp [Value.okWide, tyB_int ht, Cell.okWide, Cell.ok] at hval
  | bool =>
    refine scalar fun cs e => ?_
    subst e; simp [Value.okWide, tyB_bool ht, Cell.okWide, Cell.ok] at hval
  | str =>
    refine scalar fun cs e => ?_
    subst e; simp [Value.okWide, tyB_str ht, Cell.okWide, Cell.ok] at hval
  | slc e =>
    obtain ⟨E, m, hu, _⟩ := tyB_slc ht
    refine scalar fun cs e => ?_
    subst e; simp [Value.okWide, hu, Cell.okWide, Cell.ok] at hval
  | arr q e =>
    obtain ⟨E, m, hu, _⟩ := tyB_arr ht
    simp only [Value.okWide, hu] at hval
    obtain ⟨cs, rfl, _⟩ := hval
    show Value.agg cs = .agg cs.toList.toArray; simp
  | pair a b =>
    obtain ⟨fs, m, hu, _⟩ := tyB_pair ht
    simp only [Value.okWide, hu] at hval
    obtain ⟨cs, rfl, _⟩ := hval
    show Value.agg cs = .agg cs.toList.toArray; simp
theorem wf0 (W : World) : Wf (gh0 W) W := ⟨fun _ _ _ h => h, fun _ _ _ _ => rfl, fun _ _ _ h => by cases h⟩
/-- A law that answers true. -/
theorem law_calls {f : FuncId} {fn : Func} {code : Code} {e : Entry} {args : List V} {argv : List Value} (hOK : CallOK P f e) (hf : P.funcs[f]? = some fn) (hb : fn.body = some code) (hnm : (fn.name == "runtime.NumGoroutine") = false)
    (hv : e.val args [] = some (.dat .bool true, [])) (hA : ArgsRep (gh0 W) W args argv []) : Calls P f argv.toArray W fun e w' => e = .returned (.bool true) ∧ RowKit.Below W.heap.size W w' := by
  have hdo := hOK.ok args [] _ _ hv (fun _ _ => False) (gh0 W) W argv [] [] (wf0 W) (fun _ _ _ h => by cases h) hA rfl (fun g => by simp) (fun g hg => by simp at hg)
  have hen : (callFunc f argv.toArray).run P W = .ok (.enter f argv.toArray) W := by
    have hnm' : ¬ fn.name = "runtime.NumGoroutine" := by simpa using hnm
    unfold callFunc
    simp [hf, hnm', hb]
  rcases hdo with ⟨_, h⟩ | ⟨v, w', h, _⟩
  · refine Calls.mono h fun e w' he => ?_
    cases e with
    | returned v =>
      obtain ⟨G', hE, _, _, tV, tM, tX, hT, _⟩ := he
      refine ⟨by rw [hT.dat_bool], hE.evo.os, hE.evo.tape, hE.evo.output, hE.evo.size, fun k hk => ?_⟩
      rcases hE.evo.block k hk with h | ⟨c, c', t, fr, h1, h2, h3, h4⟩
      · exact h
      · have : c' = c := Array.ext_getElem? fun j => h4 j (fun h => h)
        rw [h1, h2, this]
    | _ => exact he.elim
  · rw [hen] at h; cases h
theorem law_calls' {f : FuncId} {fn : Func} {code : Code} {σ : Sg} {F : σ.In → Option σ.Out} {args : List V} {argv : List Value} {x : σ.In} {r : σ.Out} (hOK : CallOK P f (σ.entry F)) (hf : P.funcs[f]? = some fn) (hb : fn.body = some code) (hnm : (fn.name == "runtime.NumGoroutine") = false)
    (hp : Ar.pull σ.args 0 args = some args) (hd : Dl.dec (arTys σ.args ++ σ.objs) args = some x) (hF : F x = some r) (hv : encOutV σ.res σ.objs.length σ.outs r = .dat .bool true) (ho : encOutO σ.res σ.outs r = [])
    (hA : ArgsRep (gh0 W) W args argv []) : Calls P f argv.toArray W fun e w' => e = .returned (.bool true) ∧ RowKit.Below W.heap.size W w' := by
  refine law_calls hOK hf hb hnm ?_ hA
  unfold Entry.val
  show ((Ar.pull σ.args 0 args).bind fun ds => (Dl.dec (arTys σ.args ++ σ.objs) (ds ++ [])).bind fun x => bnd (F x) fun r => some (encOutV σ.res σ.objs.length σ.outs r, encOutO σ.res σ.outs r)) = _
  rw [hp]
  simp only [Option.bind_some, List.append_nil]
  rw [hd]
  simp only [Option.bind_some]
  rw [hF]
  simp only [bnd]
  rw [hv, ho]
end Go.Proofs.Ytennedlpmacicaa.Pal
