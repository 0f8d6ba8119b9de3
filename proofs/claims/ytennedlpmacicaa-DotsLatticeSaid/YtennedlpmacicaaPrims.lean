/- The library's functions at this program's types. -/
import Derived.Test.YtennedlpmacicaaIns2
import Derived.Test.YtennedlpmacicaaClone
namespace Go.Proofs.Ytennedlpmacicaa.Pal
open Go Go.Sort
variable {P : Program}
theorem cloneE_eq (e : Ty) : cloneE e = (cloneSg e).entry (fun xs => cloneF xs) := by
  unfold cloneE Sg.entry
  congr 1
  funext α args objs K
  cases args with
  | nil => rfl
  | cons v vs =>
    cases vs with
    | cons u us => simp [Ar.pull]
    | nil =>
      cases objs with
      | nil =>
        show (V.as (.slc e) v).bind _ = (V.as (.slc e) v).bind _
        cases h : V.as (.slc e) v with
        | none => rfl
        | some xs =>
          simp only [Option.bind_some]
          show br (room ([] : List Int) (id xs : List e.D)) (K (.raw e (id xs : List e.D)) []) none = bnd (cloneF (id xs : List e.D)) fun r => K (.raw e r) []
          unfold cloneF
          have : room ([] : List Int) (id xs : List e.D) = room ([] : List e.D) (id xs : List e.D) := rfl
          rw [this]
          cases room ([] : List e.D) (id xs : List e.D) <;> rfl
      | cons o os =>
        simp [Ar.pull, arTys, Dl.dec]
theorem clone_ok {f T B : Nat} {e : Ty} {fn : Func} (hT : TT P (cloneCx T e)) (hty : (cloneCx T e).ty T = some (.slc e)) (hm : P.follows .mixedOrders = true)
    (hf : P.funcs[f]? = some fn) (hb : fn.body = some (cloneCode T B)) (hnm : (fn.name == "runtime.NumGoroutine") = false) (hn : fn.ntmps = 8) (hr : fn.results = #[.tmp 2])
    (hok : okCode (cloneCx T e) 8 (cloneCode T B) = true)
    (h0 : ∀ xs : List e.D, run (cloneCx T e) (cloneR0 T) (st0 [.dat (.slc e) xs] []) toK = some ⟨[(0, .dat (.slc e) xs)], []⟩)
    (hnil : run (cloneCx T e) (cloneC T) ⟨[(4, .dat .bool true), (3, .dat (.slc e) []), (0, .dat (.slc e) [])], []⟩ (thenK (fun s' => run (cloneCx T e) (cloneR3 T) s' ((cloneSg e).K (cloneCx T e) [.tmp 2])) ((cloneSg e).K (cloneCx T e) [.tmp 2])) = cloneF [])
    (hsome : ∀ xs : List e.D, run (cloneCx T e) (cloneC T) ⟨[(4, .dat .bool false), (3, .dat (.slc e) xs), (0, .dat (.slc e) xs)], []⟩ (thenK (fun s' => run (cloneCx T e) (cloneR3 T) s' ((cloneSg e).K (cloneCx T e) [.tmp 2])) ((cloneSg e).K (cloneCx T e) [.tmp 2])) = cloneF xs) : CallOK P f (cloneE e) := by
  rw [cloneE_eq]
  refine fn_ok' (c := cloneCx T e) (code := cloneCode T B) hT hf hb hnm (by rw [hn]; rfl) (by rw [hr]; rfl) rfl ?_
  intro xs r hF X G w tmps Q hR hsz hL
  rw [hr] at hL
  rw [hn] at hsz hL
  refine clone_wp hT hty hm hok (K := (cloneSg e).K (cloneCx T e) [.tmp 2]) hR hsz hL (h0 xs) ?_ ?_
  · intro h; subst h; exact hnil.trans hF
  · exact (hsome xs).trans hF
end Go.Proofs.Ytennedlpmacicaa.Pal
namespace Go.Proofs.Ytennedlpmacicaa
open Pal Go
set_option maxRecDepth 100000 in
theorem clone62 : CallOK Try.prog 62 (cloneE dotT) :=
  clone_ok (T := 30) (B := 4) (TT.of (by kernel_rfl) (by kernel_rfl)) (by kernel_rfl) (by kernel_rfl) Try.func62 (by kernel_rfl) (by kernel_rfl) (by kernel_rfl) (by kernel_rfl) (by kernel_rfl) (fun xs => by kernel_rfl) (by kernel_rfl) (fun xs => by kernel_rfl)
#print axioms clone62
end Go.Proofs.Ytennedlpmacicaa
