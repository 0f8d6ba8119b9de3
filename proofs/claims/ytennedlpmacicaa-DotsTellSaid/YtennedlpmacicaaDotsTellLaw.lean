/- The plain law: the run of DotsTell answers true for every input. -/
import Derived.Test.YtennedlpmacicaaDoRun5
import Derived.Test.YtennedlpmacicaaDoAwake
import Derived.Test.YtennedlpmacicaaRow
namespace Go.Proofs.Ytennedlpmacicaa
open Pal
theorem deqB (b : Bool) : deq .bool b b = true := by cases b <;> rfl
theorem dotsTell_true (s : Ty.D tDots) (fs : Fits tDots s) (d : Ty.D tDot) (_ : Fits tDot d) (r : Ty.D (.int .i64)) (_ : Fits (.int .i64) r) : ∃ k, law06_DotsTell.f k s d r = some true := by
  refine ⟨6000, ?_⟩
  rw [law06_DotsTell.f_eq]
  have hlen : s.1.length = 16 := fs.1.1
  have e : ilt 100 (ilen s.2) = decide (100 < s.2.length) := ilt_nat 100 s.2
  have aw : law06_awake.f 6000 = some true := awake06 (by decide)
  rw [e, aw]
  by_cases h : 100 < s.2.length
  · simp only [h, decide_true, br_true, bnd_some]
  · simp only [h, decide_false, br_false]
    obtain ⟨b, hb, hbi⟩ := dr_is 6000 s hlen (by decide) (by decide)
    obtain ⟨c, hc, hci⟩ := rr_is 6000 s hlen (by decide) (by decide)
    have hbc : b = c := by rw [Bool.eq_iff_iff, hbi, hci]
    subst hbc
    rw [hb, hc]
    simp only [bnd_some, deqB]
    have e1 : bnot true = false := rfl
    rw [e1]
    simp only [br_false]
    cases b with
    | false => rfl
    | true =>
      obtain ⟨hs, hl⟩ := hbi.1 rfl
      obtain ⟨n, hn1, hn2⟩ := next_same 6000 s r hs (by omega) (by decide)
      obtain ⟨m, hm1, hm2⟩ := count_same 6000 s hs (by omega) (by decide)
      obtain ⟨p1, p2, p3⟩ := putD_can hs d
      rw [e1, has_is 6000 s d (by decide) (by omega) (by decide) hs, rhas_is 6000 s d (by omega) (by decide) hs.rt, put_is 6000 s d (by decide) (by omega) (by decide) hs, rput_is 6000 s d (by omega) (by decide) hs]
      simp only [br_false, bnd_some, deqB, br_true]
      rw [rsame_is 6000 _ _ (by omega) (by decide), hn1, hn2, hm1, hm2]
      simp only [bnd_some, decide_true, br_true, ieq_dec]
#print axioms dotsTell_true
end Go.Proofs.Ytennedlpmacicaa
