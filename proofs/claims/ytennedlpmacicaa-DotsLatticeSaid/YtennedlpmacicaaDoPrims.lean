/- What the library's functions do, at dots. -/
import Derived.Test.YtennedlpmacicaaPrims
import Derived.Test.YtennedlpmacicaaGrow
import Derived.Test.YtennedlpmacicaaSortLays
import Derived.Test.YtennedlpmacicaaDoBase
import Derived.Test.YtennedlpmacicaaLaw
namespace Go.Proofs.Ytennedlpmacicaa
open Pal Go Go.Sort
abbrev Dot := Int × Int
/-- How two dots stand to each other. -/
def cmpI (a b : Int) : Int := if a < b then -1 else if b < a then 1 else 0
def cmpD (a b : Dot) : Int := if cmpI a.1 b.1 = 0 then cmpI a.2 b.2 else cmpI a.1 b.1
theorem cmpI_is (k : Nat) (a b : Int) : cmp_Compare_int.f k a b = some (cmpI a b) := by
  rw [cmp_Compare_int.f_eq, cmp_isNaN_int.f_eq, cmp_isNaN_int.f_eq]
  have h : ∀ x : Int, bnot (ieq x x) = false := fun x => by simp [bnot, ieq]
  simp only [h, bnd, br_false]
  unfold cmpI
  by_cases h1 : a < b
  · simp [ilt, h1, br_true]
  · by_cases h2 : b < a
    · simp [ilt, h1, h2, br_true, br_false]
    · simp [ilt, h1, h2, br_false]
theorem or2 (k : Nat) (a b : Int) : cmp_Or_int.f (k + 3) (a :: b :: []) = some (if a = 0 then b else a) := by
  have h : cmp_Or_int.f (k + 3) (a :: b :: []) = br (bnot (ieq a 0)) (some a) (br (bnot (ieq b 0)) (some b) (some 0)) := by
    rw [cmp_Or_int.f_eq, cmp_Or_int.l3_eq, cmp_Or_int.l3_eq, cmp_Or_int.l3_eq]; rfl
  rw [h, ieq_dec, ieq_dec, bnot_dec, bnot_dec]
  by_cases h1 : a = 0
  · by_cases h2 : b = 0
    · simp [h1, h2, br_false]
    · simp [h1, h2, br_false, br_true]
  · simp [h1, br_true]
theorem cmpD_is (k : Nat) (a b : Dot) : dot_Compare.f (k + 3) a b = some (cmpD a b) := by
  rw [dot_Compare.f_eq, cmpI_is, cmpI_is]
  simp only [bnd]
  rw [or2]; rfl
abbrev dotLt : Dot → Dot → Bool := Go.Proofs.ltOf cmpD
theorem cmpI_lt (a b : Int) : cmpI a b < 0 ↔ a < b := by unfold cmpI; split <;> (try split) <;> omega
theorem cmpI_eq (a b : Int) : cmpI a b = 0 ↔ a = b := by unfold cmpI; split <;> (try split) <;> omega
theorem dotLt_iff (a b : Dot) : dotLt a b = true ↔ a.1 < b.1 ∨ (a.1 = b.1 ∧ a.2 < b.2) := by
  show decide (cmpD a b < 0) = true ↔ _
  rw [decide_eq_true_iff]
  unfold cmpD
  by_cases h : a.1 = b.1
  · rw [if_pos ((cmpI_eq _ _).2 h), cmpI_lt]; omega
  · rw [if_neg (fun e => h ((cmpI_eq _ _).1 e)), cmpI_lt]; omega
theorem dotLt_swo : SWO dotLt where
  irrefl x := by rw [← Bool.not_eq_true, dotLt_iff]; omega
  trans x y z h1 h2 := by rw [dotLt_iff] at *; omega
  ntrans x y z h1 h2 := by rw [← Bool.not_eq_true, dotLt_iff] at *; omega
theorem dotLt_tot (x y : Dot) (h1 : dotLt x y = false) (h2 : dotLt y x = false) : x = y := by
  rw [← Bool.not_eq_true, dotLt_iff] at h1 h2
  apply Prod.ext <;> omega
def rightD (d : Dot) : Bool := decide (0 ≤ d.1 ∧ d.1 < 16 ∧ 1 ≤ d.2 ∧ d.2 ≤ 1048576)
theorem right_is (k : Nat) (d : Dot) : dot_Right.f k d = some (rightD d) := by
  rw [dot_Right.f_eq]
  unfold rightD
  by_cases h1 : 0 ≤ d.1 <;> by_cases h2 : d.1 < 16 <;> by_cases h3 : 1 ≤ d.2 <;> by_cases h4 : d.2 ≤ 1048576 <;> simp [ile, ilt, h1, h2, h3, h4, br_true, br_false]
abbrev dotKeep : Dot → Bool := rightD
theorem f6_is : laysSort65_ren.f 6 = 65 := by kernel_rfl
theorem t24_is : laysSort65_ren.t 24 = 23 := by kernel_rfl
theorem agg23 (w : World) : (isAgg 23).run Try.prog w = .ok true w := by kernel_rfl
theorem cmp_val (x y : Dot) : (dot_Compare.e 10).val [.dat tDot x, .dat tDot y] [] = some (.dat (.int .i64) (cmpD x y), []) := by
  have h : dot_Compare.f 10 x y = some (cmpD x y) := cmpD_is 7 x y
  have e : (dot_Compare.e 10).val [.dat tDot x, .dat tDot y] [] = bnd (dot_Compare.f 10 x y) (fun r => some (.dat (.int .i64) r, [])) := by kernel_rfl
  rw [e, h]; rfl
theorem sort65 : CallOK Try.prog 65 (sortE tDot 66 dotLt) := by
  have h := sort_ok (P := Try.prog) (ρ := laysSort65_ren) (e := tDot) (g := 66) (ce := dot_Compare.e 10) (cf := cmpD) laysSort65 rfl rfl (fun w => by rw [t24_is]; exact agg23 w) (fun w => by rw [t24_is]; exact z23 w) dotLt_swo dotLt_tot (dot_Compare.ok 10) (enters_of Try.func66 (by kernel_rfl) rfl) (by rw [f6_is]; exact enters_of Try.func65 (by kernel_rfl) rfl) cmp_val
  rw [f6_is] at h
  exact h
theorem del61 : CallOK Try.prog 61 (delE tDot 63 dotKeep) := by
  refine del_ok (ce := dots_Of_1.e 10) (dots_Of_1.ok 10) ?_
  intro x
  show bnd (dots_Of_1.f 10 x) _ = _
  rw [dots_Of_1.f_eq, right_is]; rfl
theorem ins75 : CallOK Try.prog 75 (insE tDot) := ins_ok
theorem grow117 : CallOK Try.prog 117 (growE tDot) := grow_ok
#print axioms sort65
#print axioms del61
end Go.Proofs.Ytennedlpmacicaa
