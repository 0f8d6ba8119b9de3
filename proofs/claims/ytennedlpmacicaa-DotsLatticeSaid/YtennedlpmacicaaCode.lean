/- Code: what the abstract run answers, the machine's run ends in. -/
import Derived.Test.YtennedlpmacicaaFrz
import Derived.LoopN
namespace Go.Proofs.Ytennedlpmacicaa.Pal
open Go
variable {P : Program} {X Y : Nat → Nat → Prop} {G0 G G' : Gh} {w0 w w' : World} {s : St} {a : Act} {c : Cx} {Q : Exit → Act → World → Prop}

/-- What is asked of a code's text. -/
def okCode (c : Cx) (N : Nat) : Code → Bool
  | .region id ops dr => ops.toList.all (fun o => match o.dst with | some t => Nat.blt t N | none => true) && (!dr || match lkN c.regs id with | some ri => okFree ops ri.moves ri.quiet | none => true)
  | .seq a b => okCode c N a && okCode c N b
  | .cond _ a b => okCode c N a && okCode c N b
  | .block _ b => okCode c N b
  | .loop b => okCode c N b
  | _ => true
def Ex.toExit : Ex → Exit
  | .normal => .normal
  | .exit i => .exit i
  | .ret => .ret
/-- What is known where the code is left. -/
def Left {α : Type} (X : Nat → Nat → Prop) (G0 : Gh) (w0 : World) (N : Nat) (ds : List Deferred) (K : Ex → St → Option α) (res : α) (Q : Exit → Act → World → Prop) : Prop :=
  ∀ e a' w' G' s', RS X G0 w0 G' s' a'.tmps w' → a'.tmps.size = N → a'.defers = ds → K e s' = some res → Q e.toExit a' w'
section
variable {α : Type} {K : Ex → St → Option α} {res : α} {N : Nat} {ds : List Deferred}
theorem thenK_left {Q1 : Act → World → Prop} {g : St → Option α} (hL : Left X G0 w0 N ds K res Q) (h : ∀ a' w' G' s', RS X G0 w0 G' s' a'.tmps w' → a'.tmps.size = N → a'.defers = ds → g s' = some res → Q1 a' w') :
    Left X G0 w0 N ds (thenK g K) res (Exit.then Q1 Q) := by
  intro e a' w' G' s' h1 h2 h3 h4
  cases e with
  | normal => exact h a' w' G' s' h1 h2 h3 h4
  | exit i => exact hL (.exit i) a' w' G' s' h1 h2 h3 h4
  | ret => exact hL .ret a' w' G' s' h1 h2 h3 h4
theorem blockK_left {id : Nat} (hL : Left X G0 w0 N ds K res Q) : Left X G0 w0 N ds (blockK id K) res (Exit.inBlock id Q) := by
  intro e a' w' G' s' h1 h2 h3 h4
  cases e with
  | normal => exact hL .normal a' w' G' s' h1 h2 h3 h4
  | ret => exact hL .ret a' w' G' s' h1 h2 h3 h4
  | exit i =>
    simp only [blockK] at h4
    show Exit.inBlock id Q (.exit i) a' w'
    simp only [Exit.inBlock]
    by_cases e : i = id
    · rw [if_pos e]
      have : Nat.beq i id = true := beq_nat.2 e
      rw [this] at h4
      exact hL .normal a' w' G' s' h1 h2 h3 h4
    · rw [if_neg e]
      have : Nat.beq i id = false := by rw [Bool.eq_false_iff]; intro z; exact e (Nat.eq_of_beq_eq_true z)
      rw [this] at h4
      exact hL (.exit i) a' w' G' s' h1 h2 h3 h4
end
theorem run_sound (hT : TT P c) (hC : ∀ f e, lkN c.fns f = some e → CallOK P f e) (hm : P.follows .mixedOrders = true) {N : Nat} {ds : List Deferred} {α : Type} {res : α} :
    ∀ (code : Code), okCode c N code = true → ∀ (K : Ex → St → Option α) (Q : Exit → Act → World → Prop) (s : St) (a : Act) (w : World) (G : Gh), Left X G0 w0 N ds K res Q →
      run c code s K = some res → RS X G0 w0 G s a.tmps w → a.tmps.size = N → a.defers = ds → code.wp P Q a w := by
  intro code
  induction code with
  | skip =>
    intro _ K Q s a w G hL h hR hN hd
    exact wp_skip (hL .normal a w G s hR hN hd h)
  | exit id =>
    intro _ K Q s a w G hL h hR hN hd
    exact wp_exit (hL (.exit id) a w G s hR hN hd h)
  | ret =>
    intro _ K Q s a w G hL h hR hN hd
    exact wp_ret (hL .ret a w G s hR hN hd h)
  | seq x y ihx ihy =>
    intro hok K Q s a w G hL h hR hN hd
    simp only [okCode, Bool.and_eq_true] at hok
    refine wp_seq (ihx hok.1 (thenK (fun s' => run c y s' K) K) _ s a w G (thenK_left hL fun a' w' G' s' h1 h2 h3 h4 => ihy hok.2 K Q s' a' w' G' hL h4 h1 h2 h3) h hR hN hd)
  | cond x y z ihx ihy =>
    intro hok K Q s a w G hL h hR hN hd
    simp only [okCode, Bool.and_eq_true] at hok
    change ((opd none s x).bind fun v => match v with
      | .dat .bool t => br t (run c y s K) (run c z s K)
      | _ => none) = some res at h
    rw [Option.bind_eq_some_iff] at h
    obtain ⟨v, hv, h⟩ := h
    have hr := opd_rep hR hv
    split at h
    · rename_i t
      rcases br_cases h with ⟨rfl, h⟩ | ⟨rfl, h⟩
      · exact wp_cond_true hr.dat_bool (ihx hok.1 K Q s a w G hL h hR hN hd)
      · exact wp_cond_false hr.dat_bool (ihy hok.2 K Q s a w G hL h hR hN hd)
    · cases h
  | block id b ih =>
    intro hok K Q s a w G hL h hR hN hd
    exact wp_block (ih hok (blockK id K) _ s a w G (blockK_left hL) h hR hN hd)
  | loop b ih =>
    intro hok K Q s a w G hL h hR hN hd
    change ((lkN c.regs (firstReg b)).bind fun ri => rounds (firstReg b) (run c b) (prune ri.head ri.headM) K c.fuel (prune ri.head ri.headM s)) = some res at h
    rw [Option.bind_eq_some_iff] at h
    obtain ⟨ri, _, h⟩ := h
    have key : ∀ (n : Nat) (s : St) (a : Act) (w : World) (G : Gh), rounds (firstReg b) (run c b) (prune ri.head ri.headM) K n s = some res → RS X G0 w0 G s a.tmps w → a.tmps.size = N → a.defers = ds → Code.rounds P b Q n a w := by
      intro n
      induction n with
      | zero => intro s a w G h; cases h
      | succ n ihn =>
        intro s a w G h hR hN hd
        rw [rounds_succ]
        refine ih hok _ _ s a w G (thenK_left hL fun a' w' G' s' h1 h2 h3 h4 => ?_) h hR hN hd
        exact ihn _ a' w' G' h4 (h1.prune _ _) h2 h3
    exact wp_loop_rounds c.fuel (key c.fuel _ a w G h (hR.prune _ _) hN hd)
  | region id ops dr =>
    intro hok K Q s a w G hL h hR hN hd
    simp only [okCode, Bool.and_eq_true, List.all_eq_true] at hok
    obtain ⟨hd1, hfr⟩ := hok
    have hdst : ∀ o ∈ ops.toList, ∀ t, o.dst = some t → t < N := by
      intro o ho t ht
      have := hd1 o ho
      rw [ht] at this
      exact Nat.le_of_ble_eq_true this
    change ((lkN c.regs id).bind fun ri =>
      bif dr then bif noLent (s.frz ri.frz).env && alNo ops ri.quiet (s.frz ri.frz).env then runQ c ops ri.moves 0 ri.quiet ops.toList (s.frz ri.frz) fun r s1 => bif noDup s1.env then runOps c ops ri.moves ri.lends ri.quiet r s1 fun s' => K .normal (prune ri.live ri.mem { s' with env := settle s'.env }) else none else none
      else runOps c ops ri.moves ri.lends 0 ops.toList (s.frz ri.frz) fun s' => K .normal (prune ri.live ri.mem { s' with env := settle s'.env })) = some res at h
    rw [Option.bind_eq_some_iff] at h
    obtain ⟨ri, hri, h⟩ := h
    obtain ⟨G, hR⟩ := RS.frz ri.frz s G hR
    generalize hsz : s.frz ri.frz = s at h hR
    clear hsz
    have hQ : ∀ a' w' G' s', RS X G0 w0 G' s' a'.tmps w' → a'.tmps.size = N → a'.defers = ds → (fun s' : St => K .normal (prune ri.live ri.mem { s' with env := settle s'.env })) s' = some res → Q .normal a' w' := by
      intro a' w' G' s' h1 h2 h3 h4
      exact hL .normal a' w' G' _ (h1.settle.prune _ _) h2 h3 h4
    cases dr with
    | false =>
      simp only [cond_false] at h
      refine wp_region ?_
      rw [List.range_eq_range']
      have := runOps_sound (n := N) hT hC hdst hQ ops.toList 0 s a w G (by simp) h hR hN hd
      simpa using this
    | true =>
      simp only [cond_true] at h
      obtain ⟨hnl, h⟩ := cond_then h
      rw [Bool.and_eq_true] at hnl
      obtain ⟨hnl, hno⟩ := hnl
      have hfr' : okFree ops ri.moves ri.quiet = true := by
        simp only [Bool.not_true, Bool.false_or, hri] at hfr; exact hfr
      obtain ⟨R, s1, e1, e2, e3, e4, e5⟩ := runQ_trace hC ri.quiet ops.toList 0 s (by simp) h hnl
      obtain ⟨hnd, e2⟩ := cond_then e2
      refine wp_region_any hm ?_
      have hq := (okFree_spec hfr').1
      refine head_sound (s := s) (s1 := s1) (R := R) (G0 := G0) (w0 := w0) (X := X) hT hC hdst hfr' hQ hno (by rw [e1, Nat.min_eq_left (by simpa using hq)]) e5 e3 hnd e4 e2 ops.size (Array.replicate ops.size false) a _ G s.env ?_ ⟨?_, hnl, hN, hd, by simp, fun j _ hj => by simp [Array.getD, hj], fun j o ho hl => ?_, fun _ _ => rfl, fun j t y hj _ hl => ?_, fun j t hj hl => ?_⟩
      · unfold unl
        simp
      · exact hR.drew
      · have : j < ops.size := (Array.getElem?_eq_some_iff.1 ho).1
        simp [Array.getD, this] at hl
      · have : j < ops.size := by omega
        simp [Array.getD, this] at hl
      · have : j < ops.size := by omega
        simp [Array.getD, this] at hl
  | _ =>
    intro _ K Q s a w G hL h hR hN hd
    cases h
end Go.Proofs.Ytennedlpmacicaa.Pal
