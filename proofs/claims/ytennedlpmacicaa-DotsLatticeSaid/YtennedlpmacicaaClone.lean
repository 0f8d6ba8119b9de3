/- slices.Clone: a list of the call's own. -/
import Derived.Test.YtennedlpmacicaaFns
import Derived.Lib.LazyBuf
namespace Go.Proofs.Ytennedlpmacicaa.Pal
open Go
variable {P : Program} {X Y : Nat → Nat → Prop} {G0 G G' : Gh} {w0 w w' : World} {s : St} {a : Act} {c : Cx} {Q : Exit → Act → World → Prop}

/-- The run comes to one state. -/
theorem run_to (hT : TT P c) (hC : ∀ f e, lkN c.fns f = some e → CallOK P f e) (hm : P.follows .mixedOrders = true) {N : Nat} {ds : List Deferred} {code : Code} {s1 : St} (hok : okCode c N code = true)
    (h : run c code s (fun e s => match e with | .normal => some s | _ => none) = some s1) (hR : RS X G0 w0 G s a.tmps w) (hN : a.tmps.size = N) (hd : a.defers = ds)
    (hQ : ∀ a' w' G', RS X G0 w0 G' s1 a'.tmps w' → a'.tmps.size = N → a'.defers = ds → Q .normal a' w') : code.wp P Q a w := by
  refine run_sound (N := N) (ds := ds) hT hC hm code hok (fun e s => match e with | .normal => some s | _ => none) Q s a w G ?_ h hR hN hd
  intro e a' w' G' s' h1 h2 h3 h4
  cases e with
  | normal => injection h4 with h4; subst h4; exact hQ a' w' G' h1 h2 h3
  | _ => cases h4
abbrev ed (i : Nat) (g : Ground) : Edge := { on := i, ground := g }
def cloneR0 (T : Nat) : Code := .region 0 #[{ dst := some 2, op := .assign (.const (.slice none 0 0)), type := T, pos := "slices.go:355", after := #[], guard := none }] false
def cloneOps (T B : Nat) : Array Oper := #[{ dst := some 3, op := .move (.tmp 0), type := T, pos := "slices.go:357", after := #[], guard := none },
          { dst := some 4, op := .binOp .eql T (.tmp 3) (.const (.slice none 0 0)) T, type := B, pos := "slices.go:357", after := #[ed 0 .data], guard := none }]
def cloneC (T : Nat) : Code := .cond (.tmp 4) (.seq (.region 2 #[{ dst := some 2, op := .assign (.const (.slice none 0 0)), type := T, pos := "slices.go:358", after := #[], guard := none }] false) .ret) .skip
def cloneR3 (T : Nat) : Code := .seq (.region 3 #[{ dst := some 5, op := .buildSlice T 0 #[], type := T, pos := "slices.go:362", after := #[], guard := none },
          { dst := some 6, op := .move (.tmp 0), type := T, pos := "slices.go:362", after := #[], guard := none },
          { dst := some 7, op := .call { callee := .builtin .append, args := #[.tmp 5, .tmp 6], argTypes := #[T, T] }, type := T, pos := "slices.go:362", after := #[ed 0 .data, ed 1 .data], guard := none },
          { dst := some 2, op := .assign (.tmp 7), type := T, pos := "slices.go:362", after := #[ed 2 .data, ed 2 .chain, ed 0 .phase, ed 1 .phase, ed 2 .phase], guard := none }] false) .ret
def cloneCode (T B : Nat) : Code := .seq (cloneR0 T) (.seq (.seq (.region 1 (cloneOps T B) false) (cloneC T)) (cloneR3 T))
def cloneCx (T : Nat) (e : Ty) : Cx := ⟨[(T, ⟨.slc e, 0⟩)], [], [], [(0, ⟨[0], [], [], [], 0, [], [], []⟩), (2, ⟨[2], [], [], [], 0, [], [], []⟩), (3, ⟨[2], [], [2, 3], [], 0, [], [], []⟩)], 0⟩
@[reducible] def cloneSg (e : Ty) : Sg := ⟨[.dat (.slc e)], [], .raw e, []⟩
@[reducible] def cloneOwn (e : Ty) : Sg := ⟨[.dat (.slc e)], [], .own e, []⟩
def toK : Ex → St → Option St
  | .normal, s => some s
  | _, _ => none
theorem clone_wp {T B N : Nat} {e : Ty} (hT : TT P (cloneCx T e)) (hty : (cloneCx T e).ty T = some (.slc e)) (hm : P.follows .mixedOrders = true) (hok : okCode (cloneCx T e) N (cloneCode T B) = true) {xs : List e.D} {tmps : Array Value} {α : Type} {K : Ex → St → Option α} {r : α}
    (hR : RS X G0 w0 G (st0 [.dat (.slc e) xs] []) tmps w) (hsz : tmps.size = N) (hL : Left X G0 w0 N [] K r Q)
    (h0 : run (cloneCx T e) (cloneR0 T) (st0 [.dat (.slc e) xs] []) toK = some ⟨[(0, .dat (.slc e) xs)], []⟩)
    (hnil : xs = [] → run (cloneCx T e) (cloneC T) ⟨[(4, .dat .bool true), (3, .dat (.slc e) xs), (0, .dat (.slc e) xs)], []⟩ (thenK (fun s' => run (cloneCx T e) (cloneR3 T) s' K) K) = some r)
    (hsome : run (cloneCx T e) (cloneC T) ⟨[(4, .dat .bool false), (3, .dat (.slc e) xs), (0, .dat (.slc e) xs)], []⟩ (thenK (fun s' => run (cloneCx T e) (cloneR3 T) s' K) K) = some r) :
    (cloneCode T B).wp P Q { tmps := tmps, defers := [] } w := by
  have hC : ∀ f e', lkN (cloneCx T e).fns f = some e' → CallOK P f e' := fun f e' h => by cases h
  obtain ⟨E, m, hu, _⟩ := tyB_slc (hT.ty hty).1
  have hok2 : okCode (cloneCx T e) N (cloneR0 T) = true ∧ (okCode (cloneCx T e) N (.region 1 (cloneOps T B) false) = true ∧ okCode (cloneCx T e) N (cloneC T) = true) ∧ okCode (cloneCx T e) N (cloneR3 T) = true := by
    unfold cloneCode at hok
    rw [okCode, Bool.and_eq_true] at hok
    rw [okCode, Bool.and_eq_true] at hok
    rw [okCode, Bool.and_eq_true] at hok
    exact hok
  obtain ⟨k0, ⟨k1, k2⟩, k3⟩ := hok2
  have hd34 : 3 < N ∧ 4 < N := by
    simp only [okCode, cloneOps, List.all_cons, Bool.and_eq_true] at k1
    exact ⟨Nat.le_of_ble_eq_true k1.1.1, Nat.le_of_ble_eq_true k1.1.2.1⟩
  unfold cloneCode
  refine wp_seq (run_sound hT hC hm (N := N) (ds := []) (cloneR0 T) k0 toK _ _ _ w G ?_ h0 hR hsz rfl)
  intro ex a1 w1 G1 s1 g1 g2 g3 g4
  cases ex with
  | exit i => cases g4
  | ret => cases g4
  | normal =>
    injection g4 with g4; subst g4
    show (Code.seq _ _).wp P Q a1 w1
    refine wp_seq (wp_seq (wp_region ?_))
    show wpOps P (cloneOps T B) _ [0, 1] a1 w1
    have hmv : stepO (cloneCx T e) false false { dst := some 3, op := .move (.tmp 0), type := T, pos := "slices.go:357", after := #[], guard := none } ⟨[(0, .dat (.slc e) xs)], []⟩ some = some ⟨[(3, .dat (.slc e) xs), (0, .dat (.slc e) xs)], []⟩ := rfl
    have s3 := stepO_sound (P := P) (Q := Exit.then ((cloneC T).wp P (Exit.then ((cloneR3 T).wp P Q) Q)) (Exit.then ((cloneR3 T).wp P Q) Q)) hT hC g1 hmv (fun t ht => by injection ht with ht; subst ht; show 3 < a1.tmps.size; rw [g2]; exact hd34.1)
    rw [wpOps_cons]
    unfold wpOp
    rw [show (cloneOps T B)[0]? = some { dst := some 3, op := .move (.tmp 0), type := T, pos := "slices.go:357", after := #[], guard := none } from rfl]
    simp only [Region.wanted, if_true]
    refine .inl (Oper.wp_mono (fun a2 w2 hN => ?_) s3)
    obtain ⟨G2, s2, f1, f2, f3, f4⟩ := hN
    injection f4 with f4; subst f4
    have hsz2 : a2.tmps.size = N := f2.trans g2
    obtain ⟨ts, hv3⟩ := f1.find (t := 3) (v := .dat (.slc e) xs) rfl trivial
    obtain ⟨ad, len, cap, hx, hl, hlc, hE⟩ := hv3.dat_slc
    have hx' : a2.eval (.tmp 3) = .slice ad len cap := hx
    have hop : (execOp a2.eval { dst := some 4, op := .binOp .eql T (.tmp 3) (.const (.slice none 0 0)) T, type := B, pos := "slices.go:357", after := #[ed 0 .data], guard := none }).run P w2 = .ok (.value (.bool ad.isNone)) w2 := by
      simp only [execOp, hx']
      refine runV ?_
      have hg := guard_plain (P := P) (w := w2) (op := .eql) (t := T) (x := .tmp 3) (y := .const (.slice none 0 0)) (u := .slice ad len cap) (v := .slice none 0 0) (fun cs ds h => by cases h.1) (fun h => by cases h.1)
      have hb := Go.run_eql_slice_nil (P := P) w2 T E ad len cap hu
      simp only [Sem.run_bind]
      first
        | (rw [show a2.eval (.const (.slice none 0 0)) = .slice none 0 0 from rfl, hg]; exact hb)
        | (show Result.andThen _ _ = _; rw [hg]; exact hb)
    show wpOps P (cloneOps T B) _ [1] a2 w2
    rw [wpOps_cons]
    unfold wpOp
    rw [show (cloneOps T B)[1]? = some { dst := some 4, op := .binOp .eql T (.tmp 3) (.const (.slice none 0 0)) T, type := B, pos := "slices.go:357", after := #[ed 0 .data], guard := none } from rfl]
    simp only [Region.wanted, if_true]
    refine .inl (Oper.wp_mono (fun a3 w3 hN => ?_) (wp_val (P := P) (Q := Exit.then ((cloneC T).wp P (Exit.then ((cloneR3 T).wp P Q) Q)) (Exit.then ((cloneR3 T).wp P Q) Q)) (K := some) (r := ⟨[(4, .dat .bool ad.isNone), (3, .dat (.slc e) xs), (0, .dat (.slc e) xs)], []⟩) hop (f1.withV (TRep.bool ad.isNone)) (fun t ht => by injection ht with ht; subst ht; show 4 < a2.tmps.size; rw [hsz2]; exact hd34.2) rfl))
    obtain ⟨G3, s3, p1, p2, p3, p4⟩ := hN
    injection p4 with p4; subst p4
    show (cloneC T).wp P _ a3 w3
    have hlast : run (cloneCx T e) (cloneC T) ⟨[(4, .dat .bool ad.isNone), (3, .dat (.slc e) xs), (0, .dat (.slc e) xs)], []⟩ (thenK (fun s' => run (cloneCx T e) (cloneR3 T) s' K) K) = some r := by
      cases ad with
      | none =>
        refine hnil ?_
        rcases hE with h | ⟨b, o, h, _⟩
        · exact h
        · cases h
      | some x => exact hsome
    refine run_sound hT hC hm (N := N) (ds := []) (cloneC T) k2 _ _ _ a3 w3 G3 ?_ hlast p1 (p2.trans hsz2) (p3.trans (f3.trans g3))
    exact thenK_left hL fun a' w' G' s' h1 h2 h3 h4 => run_sound hT hC hm (cloneR3 T) k3 K Q s' a' w' G' hL h4 h1 h2 h3
/-- What slices.Clone gives. -/
def cloneF {α : Type} (xs : List α) : Option (List α) := br (room ([] : List α) xs) (some (app [] xs)) none
end Go.Proofs.Ytennedlpmacicaa.Pal
