/- The plain law: the run of DotsLattice answers true for every input. -/
import Derived.Test.YtennedlpmacicaaDoRun6
import Derived.Test.YtennedlpmacicaaDoAwake
import Derived.Test.YtennedlpmacicaaRow
namespace Go.Proofs.Ytennedlpmacicaa
open Pal
theorem deqB'' (b : Bool) : deq .bool b b = true := by cases b <;> rfl
theorem dotsLattice_true (s : Ty.D tDots) (fs : Fits tDots s) (t : Ty.D tDots) (ft : Fits tDots t) (u : Ty.D tDots) (fu : Fits tDots u) (d : Ty.D tDot) (_ : Fits tDot d) : ∃ k, law06_DotsLattice.f k s t u d = some true := by
  refine ⟨6000, ?_⟩
  rw [law06_DotsLattice.f_eq]
  have aw : law06_awake.f 6000 = some true := awake06 (by decide)
  have bt : bnot true = false := rfl
  have bf : bnot false = true := rfl
  obtain ⟨b, hb, hbi⟩ := good_is 6000 s fs.1.1 (by decide) (by decide)
  obtain ⟨c, hc, hci⟩ := good_is 6000 t ft.1.1 (by decide) (by decide)
  obtain ⟨e, he, hei⟩ := good_is 6000 u fu.1.1 (by decide) (by decide)
  rw [hb, hc, he, aw]
  simp only [bnd_some]
  cases b with
  | false => rw [bf]; rfl
  | true =>
    rw [bt]
    simp only [br_false]
    cases c with
    | false => rw [bf]; rfl
    | true =>
      rw [bt]
      simp only [br_false]
      cases e with
      | false => rw [bf]; rfl
      | true =>
        rw [bt]
        simp only [br_false]
        obtain ⟨hs, hl1⟩ := hbi rfl
        obtain ⟨ht, hl2⟩ := hci rfl
        obtain ⟨hu, hl3⟩ := hei rfl
        obtain ⟨p1, p2, p3⟩ := unionD_can hs ht
        obtain ⟨q1, q2, q3⟩ := unionD_can ht hs
        obtain ⟨r1, r2, r3⟩ := unionD_can p1 hu
        obtain ⟨m1, m2, m3⟩ := unionD_can ht hu
        obtain ⟨n1, n2, n3⟩ := unionD_can hs m1
        obtain ⟨o1, o2, o3⟩ := unionD_can hs hs
        rw [union_is 6000 s t hs ht (by omega) (by decide) (by decide), union_is 6000 t s ht hs (by omega) (by decide) (by decide), union_is 6000 t u ht hu (by omega) (by decide) (by decide), union_is 6000 s s hs hs (by omega) (by decide) (by decide)]
        simp only [bnd_some]
        have e1 : unionD s t = unionD t s := can_unique p1 q1 fun x => by rw [p2, q2]; exact Or.comm
        have e2 : unionD (unionD s t) u = unionD s (unionD t u) := can_unique r1 n1 fun x => by rw [r2, n2, p2, m2]; exact or_assoc
        have e3 : unionD s s = s := (union_eq hs hs).2 fun _ h => h
        rw [union_is 6000 (unionD s t) u p1 hu (by omega) (by decide) (by decide), union_is 6000 s (unionD t u) hs m1 (by omega) (by decide) (by decide)]
        simp only [bnd_some]
        rw [same_is 6000 _ _ (by omega) (by decide), same_is 6000 _ _ (by omega) (by decide), same_is 6000 _ _ (by omega) (by decide), decide_eq_true e1, decide_eq_true e2, decide_eq_true e3]
        simp only [bnd_some]
        rw [bt]
        simp only [br_false]
        rw [has_is 6000 _ d (by decide) (by omega) (by decide) p1, has_is 6000 s d (by decide) (by omega) (by decide) hs, has_is 6000 t d (by decide) (by omega) (by decide) ht, within_is 6000 s t hs ht (by omega) (by decide) (by decide), same_is 6000 _ _ (by omega) (by decide)]
        have hm : memB (unionD s t) d = (memB s d || memB t d) := by
          rw [Bool.eq_iff_iff, Bool.or_eq_true, memB_iff, memB_iff, memB_iff]; exact p2 d
        rw [hm]
        simp only [bnd_some, deqB'']
        cases memB s d with
        | true => rfl
        | false =>
          simp only [Bool.false_or, deqB'', br_true, br_false]
#print axioms dotsLattice_true
end Go.Proofs.Ytennedlpmacicaa
