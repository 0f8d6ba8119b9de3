/- The plain law: the run of DotsJoin answers true for every input. -/
import Derived.Test.YtennedlpmacicaaDoRun6
import Derived.Test.YtennedlpmacicaaDoAwake
import Derived.Test.YtennedlpmacicaaRow
namespace Go.Proofs.Ytennedlpmacicaa
open Pal
theorem deqB' (b : Bool) : deq .bool b b = true := by cases b <;> rfl
theorem dotsJoin_true (s : Ty.D tDots) (fs : Fits tDots s) (t : Ty.D tDots) (ft : Fits tDots t) : ∃ k, law06_DotsJoin.f k s t = some true := by
  refine ⟨6000, ?_⟩
  rw [law06_DotsJoin.f_eq]
  have aw : law06_awake.f 6000 = some true := awake06 (by decide)
  have bt : bnot true = false := rfl
  have bf : bnot false = true := rfl
  obtain ⟨b, hb, hbi⟩ := good_is 6000 s fs.1.1 (by decide) (by decide)
  obtain ⟨c, hc, hci⟩ := good_is 6000 t ft.1.1 (by decide) (by decide)
  rw [hb, hc, aw]
  simp only [bnd_some]
  cases b with
  | false => rw [bf]; rfl
  | true =>
    rw [bt]
    simp only [br_false]
    cases c with
    | false => rw [bf]; rfl
    | true =>
      rw [bt]
      simp only [br_false]
      obtain ⟨hs, hl1⟩ := hbi rfl
      obtain ⟨ht, hl2⟩ := hci rfl
      obtain ⟨u1, u2, u3⟩ := unionD_can hs ht
      rw [union_is 6000 s t hs ht (by omega) (by decide) (by decide), runion_is 6000 s t hs ht (by omega) (by decide) (by decide)]
      simp only [bnd_some]
      rw [rsame_is 6000 _ _ (by omega) (by decide), rr_true 6000 u1 (by omega) (by decide) (by decide), within_is 6000 s t hs ht (by omega) (by decide) (by decide), rwithin_is 6000 s t hs ht (by omega) (by omega) (by decide) (by decide), within_is 6000 s (unionD s t) hs u1 (by omega) (by decide) (by decide), same_is 6000 s t (by omega) (by decide), rsame_is 6000 s t (by omega) (by decide)]
      have e : unionD s (unionD s t) = unionD s t := (union_eq hs u1).2 fun x hx => (u2 x).2 (.inl hx)
      simp only [bnd_some, decide_true, br_true, deqB', e]
#print axioms dotsJoin_true
end Go.Proofs.Ytennedlpmacicaa
