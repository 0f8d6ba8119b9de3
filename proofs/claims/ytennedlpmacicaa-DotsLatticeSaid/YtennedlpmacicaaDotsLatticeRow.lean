/- The statement of the law DotsLattice: for every input the law returns true, and its arguments read as they did. No conditions. -/
import Derived.Test.YtennedlpmacicaaDotsLatticeLaw
import Derived.Test.YtennedlpmacicaaRow
import Derived.Test.YtennedlpmacicaaRows
import Derived.WalkKit
import Derived.ProofKit
import Derived.OpenShut
import Derived.ShutString
import Derived.ChangeOld
import Derived.Below
namespace Go.Proofs.Ytennedlpmacicaa.dotsLatticeDone
open Go.ChangeShapes Go.WideShapes Go.ChangeAt Go.RowKit
open Pal
set_option linter.unusedVariables false

theorem own : ownKnob Try.prog.godebug = none := by kernel_rfl
theorem laidOut : laidOutB Try.prog = true := by kernel_rfl
theorem tyOK {t : Nat} {τ : Ty} {nf : Nat} (h : tiB Try.prog t ⟨τ, nf⟩ = true) : tyB Try.prog 40 t τ = true := by
  simp only [tiB, Bool.and_eq_true] at h; exact h.1.1.1
theorem ty0 : tyB Try.prog 40 35 tDots = true := by kernel_rfl
theorem ty1 : tyB Try.prog 40 35 tDots = true := by kernel_rfl
theorem ty2 : tyB Try.prog 40 35 tDots = true := by kernel_rfl
theorem ty3 : tyB Try.prog 40 23 tDot = true := by kernel_rfl

theorem walk (W : World) (v0 : Value) (x0 : Ty.D tDots) (h0 : TRep (gh0 W) W (.dat tDots x0) v0 []) (f0 : Fits tDots x0) (v1 : Value) (x1 : Ty.D tDots) (h1 : TRep (gh0 W) W (.dat tDots x1) v1 []) (f1 : Fits tDots x1) (v2 : Value) (x2 : Ty.D tDots) (h2 : TRep (gh0 W) W (.dat tDots x2) v2 []) (f2 : Fits tDots x2) (v3 : Value) (x3 : Ty.D tDot) (h3 : TRep (gh0 W) W (.dat tDot x3) v3 []) (f3 : Fits tDot x3) :
    Calls Try.prog 7 #[v0, v1, v2, v3] W fun e w' => e = .returned (.bool true) ∧ Below W.heap.size W w' := by
  obtain ⟨k, hk⟩ := dotsLattice_true x0 f0 x1 f1 x2 f2 x3 f3
  exact law_calls' (args := [.dat tDots x0, .dat tDots x1, .dat tDots x2, .dat tDot x3]) (argv := [v0, v1, v2, v3]) (code := law06_DotsLattice.body) (σ := law06_DotsLattice.sg) (F := fun x => law06_DotsLattice.f k x.1 x.2.1 x.2.2.1 x.2.2.2) (x := (x0, x1, x2, x3)) (r := true) (law06_DotsLattice.ok k) Try.func7 (by kernel_rfl) (by kernel_rfl) (by kernel_rfl) (by kernel_rfl) hk rfl rfl
    ⟨v0, _, [], [], rfl, rfl, h0, ⟨v1, _, [], [], rfl, rfl, h1, ⟨v2, _, [], [], rfl, rfl, h2, ⟨v3, _, [], [], rfl, rfl, h3, ⟨rfl, rfl⟩⟩⟩⟩⟩

set_option maxRecDepth 100000 in
theorem lifted (os : Os) (started : os.Started) (H : Type) (enc : TypeId × Value → H) :
    ReturnsInHanded {} Try.checked os 7 .any (Rows.dotsLatticeSpec.pre6 enc Try.prog Try.f7 Rows.dotsLatticeRow.domain false) (Rows.dotsLatticeSpec.post enc Try.prog Try.f7 false true false false) := by
  refine returnsInHanded_of_change (C := Try.checked) own started (by kernel_rfl) Try.func7
    (ChangeSpec.witness6 (enc := enc) (C := Try.checked) false ⟨#[], #[.agg #[.int .i64 0, .int .i64 0, .int .i64 0, .int .i64 0, .int .i64 0, .int .i64 0, .int .i64 0, .int .i64 0, .int .i64 0, .int .i64 0, .int .i64 0, .int .i64 0, .int .i64 0, .int .i64 0, .int .i64 0, .int .i64 0, .slice none 0 0], .agg #[.int .i64 0, .int .i64 0, .int .i64 0, .int .i64 0, .int .i64 0, .int .i64 0, .int .i64 0, .int .i64 0, .int .i64 0, .int .i64 0, .int .i64 0, .int .i64 0, .int .i64 0, .int .i64 0, .int .i64 0, .int .i64 0, .slice none 0 0], .agg #[.int .i64 0, .int .i64 0, .int .i64 0, .int .i64 0, .int .i64 0, .int .i64 0, .int .i64 0, .int .i64 0, .int .i64 0, .int .i64 0, .int .i64 0, .int .i64 0, .int .i64 0, .int .i64 0, .int .i64 0, .int .i64 0, .slice none 0 0], .agg #[.int .i64 0, .int .i64 0]], []⟩ 12 (by kernel_rfl) (by kernel_rfl) (by kernel_rfl) (by kernel_rfl)) ?_
  intro W base args ds gs before hval0 hW hcnd _
  have hval : ∀ (j : Nat) t v, Try.f7.params[j]? = some t → args[j]? = some v → Value.okWide Try.prog W .any base t v := hval0
  have hW' := hW
  obtain ⟨p, q, hA0, hV, rfl, hfz, hnd⟩ := hW
  have hA : DataW.TrodAll enc Try.prog W 0 (fun _ => true) true Try.f7.params.toList args.toList ds p := hA0
  rw [Try.params7] at hA hval
  obtain ⟨v0, vs0, d0, ds0, p0, q0, hargs, rfl, rfl, h0, r0⟩ := trodAll_cons hA
  obtain ⟨v1, vs1, d1, ds1, p1, q1, rfl, rfl, rfl, h1, r1⟩ := trodAll_cons r0
  obtain ⟨v2, vs2, d2, ds2, p2, q2, rfl, rfl, rfl, h2, r2⟩ := trodAll_cons r1
  obtain ⟨v3, vs3, d3, ds3, p3, q3, rfl, rfl, rfl, h3, r3⟩ := trodAll_cons r2
  obtain ⟨rfl, rfl, rfl⟩ := trodAll_nil r3
  obtain rfl : args = #[v0, v1, v2, v3] := by cases args; simp_all
  obtain ⟨rfl, rfl⟩ := trodVars_none hV
  have k0 := h0
  have lt0 : ∀ x ∈ p0, x.block < W.heap.size := by obtain ⟨m, hm⟩ := k0; exact DataW.trod_lt m _ _ _ hm
  obtain ⟨x0, g0, f0⟩ := arg_open ty0 (hval 0 35 v0 rfl rfl) h0
  have k1 := h1
  have lt1 : ∀ x ∈ p1, x.block < W.heap.size := by obtain ⟨m, hm⟩ := k1; exact DataW.trod_lt m _ _ _ hm
  obtain ⟨x1, g1, f1⟩ := arg_open ty1 (hval 1 35 v1 rfl rfl) h1
  have k2 := h2
  have lt2 : ∀ x ∈ p2, x.block < W.heap.size := by obtain ⟨m, hm⟩ := k2; exact DataW.trod_lt m _ _ _ hm
  obtain ⟨x2, g2, f2⟩ := arg_open ty2 (hval 2 35 v2 rfl rfl) h2
  have k3 := h3
  have lt3 : ∀ x ∈ p3, x.block < W.heap.size := by obtain ⟨m, hm⟩ := k3; exact DataW.trod_lt m _ _ _ hm
  obtain ⟨x3, g3, f3⟩ := arg_open ty3 (hval 3 23 v3 rfl rfl) h3
  clear hA0 hval0
  refine (walk W v0 x0 g0 f0 v1 x1 g1 f1 v2 x2 g2 f2 v3 x3 g3 f3).mono fun e W' ⟨he, bel⟩ => ?_
  subst he
  exact ⟨_, rfl, _, _, _, [], _, [], hW', trodAll_mk1 (shut_bool Try.underlying4 _), (trodAll_cons_mk (Below.trod laidOut (by kernel_rfl) (of_decide_eq_true (by kernel_rfl)) k0 bel lt0) (trodAll_cons_mk (Below.trod laidOut (by kernel_rfl) (of_decide_eq_true (by kernel_rfl)) k1 bel lt1) (trodAll_cons_mk (Below.trod laidOut (by kernel_rfl) (of_decide_eq_true (by kernel_rfl)) k2 bel lt2) (trodAll_cons_mk (Below.trod laidOut (by kernel_rfl) (of_decide_eq_true (by kernel_rfl)) k3 bel lt3) trodAll_mk0)))), rfl, bel.frame _, fun h => by cases h⟩

theorem over : Rows.dotsLatticeRow.holds Try.pinned (OpenSpec.ofChange Rows.dotsLatticeSpec) :=
  OpenClaim.holds_of_wide 7 Try.f7 rfl rfl rfl rfl rfl rfl rfl ⟨rfl, rfl, rfl, rfl, rfl⟩ rfl rfl rfl rfl rfl (by kernel_rfl) Try.func7 (by kernel_rfl)
    (of_decide_eq_true (by kernel_rfl)) (by unfold Func.isWrapper; first | (rw [if_pos (by decide +kernel)]; kernel_rfl) | (rw [if_neg (by decide +kernel)]; exact ⟨rfl, rfl⟩))
    (fun os started H enc _ => lifted os started H enc)

/-- ████ THE STATEMENT ████ -/
theorem proved : Rows.DotsLatticeSaid := over
#print axioms proved
end Go.Proofs.Ytennedlpmacicaa.dotsLatticeDone

