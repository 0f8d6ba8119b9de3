/- slices.DeleteFunc at dots: the walk. -/
import Derived.Test.YtennedlpmacicaaProg
import Derived.Shelf.SlSortCmp.KitK
import Derived.Shelf.SlicesE.DeleteFunc
import Derived.Sort.WalkB12
import Derived.Lib.SliceRun
namespace Go.Proofs.Ytennedlpmacicaa
open Go.Shelf Go.RowKit Go.Lib Go.Sort

/-- A dot's two cells. -/
def encD (x : Int × Int) : List Value := [.int .i64 x.1, .int .i64 x.2]
def idxOf (p : Int × Int → Bool) (l : List (Int × Int)) : Int := Lib.idxBy (fun _ y => p y) l default

theorem cell_new (w : World) (C : Array Value) (t : TypeId) (j : Nat) : (w.alloc (.cells C t)).cell? ⟨w.heap.size, j, none⟩ = C[j]? := by unfold World.alloc World.cell?; simp

theorem cell_g {w : World} {a : Addr} {v : Value} {o : Obj} (h : w.cell? a = some v) (n : Nat) (os : Array Obj) : (grow ((w.alloc o).drewN n) os).cell? a = some v :=
  cell_grown (by rw [World.size_alloc]; exact Nat.lt_succ_of_lt (World.block_lt_of_cell? w a h)) (Lib.cell?_alloc_some o h) n os

theorem frz_g {w : World} {a : Addr} {c : Array Value} {t : TypeId} (hb : a.block < w.heap.size) (h : w.frozen? a = false) (n : Nat) (os : Array Obj) : (grow ((w.alloc (.cells c t)).drewN n) os).frozen? a = false := by
  rw [frozen?_grow _ _ _ (by show a.block < (w.alloc _).heap.size; rw [World.size_alloc]; omega)]
  show (w.alloc _).frozen? a = false
  rw [frozen?_alloc_cells]; exact h

section
variable {α : Type} [Inhabited α]
theorem setMany_set (enc : α → List Value) (k : Nat) (hk : ∀ x, (enc x).length = k) (d : Array α) (i : Nat) (u : α) (hi : i < d.size) :
    setMany (flatK enc k d) (i * k) (enc u) = flatK enc k (d.setIfInBounds i u) := by
  refine ext_get! (by simp) fun t ht => ?_
  have ht' : t < d.size * k := by simpa using ht
  have k0 : 0 < k := by rcases Nat.eq_zero_or_pos k with h | h; · subst h; simp at ht'
                        · exact h
  rw [get_setMany _ _ _ t (by simpa using ht'), get_flatK _ _ _ t ht', get_flatK _ _ _ t (by simpa using ht'), hk]
  by_cases a : t / k = i
  · rw [if_pos ((blk_iff k i t k0).2 a), a, getElem!_set_same d i u hi, Nat.mod_eq_sub_div_mul, a]
  · rw [if_neg (fun h => a ((blk_iff k i t k0).1 h)), getElem!_set_other d i (t / k) u a]

theorem swk_set {enc : α → List Value} {k : Nat} {w0 W : World} {blk off : Nat} {dk : Array α} (h : SWK enc k w0 blk off dk W) (hk : ∀ x, (enc x).length = k) (hblk : blk < w0.heap.size) (i : Nat) (u : α) (hi : i < dk.size) :
    SWK enc k w0 blk off (dk.setIfInBounds i u) (W.setCells blk (off + i * k) (enc u)) := by
  obtain ⟨n, os, rfl⟩ := h
  refine ⟨n, os, ?_⟩
  have hb : i * k + k ≤ dk.size * k := by
    have := Nat.mul_le_mul_right k (show i + 1 ≤ dk.size from hi); rwa [Nat.add_mul, Nat.one_mul] at this
  unfold sortWorldK
  rw [← putRowK_grow enc k (Sort.ahead w0 n) os blk off dk hblk, ← putRowK_grow enc k (Sort.ahead w0 n) os blk off _ hblk]
  unfold putRowK
  rw [setCells_putRow _ _ _ _ _ _ (by rw [hk, size_flatK]; exact hb), setMany_set enc k hk dk i u hi]

theorem setCells_app (b : Nat) : ∀ (xs ys : List Value) (o : Nat) (w : World), w.setCells b o (xs ++ ys) = (w.setCells b o xs).setCells b (o + xs.length) ys
  | [], ys, o, w => rfl
  | x :: xs, ys, o, w => by
    show (w.setCell ⟨b, o, none⟩ x).setCells b (o + 1) (xs ++ ys) = _
    rw [setCells_app b xs ys (o + 1) _, show o + (x :: xs).length = o + 1 + xs.length by simp; omega]; rfl

theorem swk_lay {enc : α → List Value} {k : Nat} {w0 : World} {blk off : Nat} (hk : ∀ x, (enc x).length = k) (hblk : blk < w0.heap.size) : ∀ (xs : List α) (i : Nat) (dk : Array α) (W : World), SWK enc k w0 blk off dk W → i + xs.length ≤ dk.size →
    SWK enc k w0 blk off (Lib.lay dk i xs) (W.setCells blk (off + i * k) (xs.flatMap enc))
  | [], _, _, _, h, _ => h
  | x :: r, i, dk, W, h, hl => by
    have hl' : i + (r.length + 1) ≤ dk.size := by simpa using hl
    rw [List.flatMap_cons, setCells_app, hk, Nat.add_assoc, show i * k + k = (i + 1) * k by rw [Nat.add_mul, Nat.one_mul]]
    exact swk_lay hk hblk r (i + 1) _ _ (swk_set h hk hblk i x (by omega)) (by simp; omega)
end

theorem zeros2 : ∀ n, (List.replicate n (0, 0) : List (Int × Int)).flatMap encD = List.replicate (n * 2) (.int .i64 0)
  | 0 => rfl
  | n + 1 => by
    rw [List.replicate_succ, List.flatMap_cons, zeros2 n, Nat.add_mul, Nat.one_mul]
    rfl

theorem run_clear2 {P : Program} (w : World) (t e ty : TypeId) (ht : P.underlying t = some (.slice e)) (hv : ∀ w, (zeroValue e).run P w = .ok (.agg #[.int .i64 0, .int .i64 0]) w) (b o n c : Nat) (hn : 0 < n)
    (hc : ∀ j, j < n * 2 → (w.cell? ⟨b, o + j, none⟩).isSome = true) (hf : ∀ j, j < n * 2 → w.frozen? ⟨b, o + j, none⟩ = false) :
    (Builtin.clear_ #[t] ty #[.slice (some ⟨b, o, none⟩) n c]).run P w = .ok (.tuple #[]) (w.setCells b o (List.replicate (n * 2) (.int .i64 0))) := by
  have hzc : (Builtin.zeroCells (Value.agg #[.int .i64 0, .int .i64 0]).cells n).toList = List.replicate (n * 2) (.int .i64 0) := by
    apply List.ext_getElem
    · simp [Builtin.zeroCells, Value.cells]
    · intro i h1 h2
      have : i % 2 = 0 ∨ i % 2 = 1 := by omega
      rcases this with h | h <;> simp [Builtin.zeroCells, Value.cells, h]
  have hst := run_storeCells_cells (P := P) b o (List.replicate (n * 2) (.int .i64 0)) 0 w (by simpa using hc) (by simpa using hf) (by intro v hv'; rw [List.eq_of_mem_replicate hv']; rfl)
  simp only [Nat.add_zero] at hst
  obtain ⟨m, rfl⟩ : ∃ m, n = m + 1 := ⟨n - 1, by omega⟩
  simp [Builtin.clear_, run_underlying ht, hv, hzc, hst]

def GrownOf (w w' : World) : Prop := ∃ q os, w' = grow (w.drewN q) os
theorem GrownOf.refl (w : World) : GrownOf w w := ⟨0, #[], (grow_empty _).symm⟩
theorem GrownOf.grown {w w' : World} (h : GrownOf w w') (q : Nat) (os : Array Obj) : GrownOf w (grow (w'.drewN q) os) := by
  obtain ⟨q0, os0, rfl⟩ := h
  exact ⟨q0 + q, os0 ++ os, by rw [← grow_grow]; unfold grow World.drewN; simp [Nat.add_assoc]⟩
theorem holds_grown {w w' : World} {blk off : Nat} {d : Array (Int × Int)} (hH : HoldsK encD 2 w blk off d) (hblk : blk < w.heap.size) (h : GrownOf w w') : HoldsK encD 2 w' blk off d := by
  obtain ⟨q, os, rfl⟩ := h
  exact holdsK_grow encD 2 _ os blk off d hblk (holdsK_ahead encD 2 w q blk off d hH)

set_option maxHeartbeats 4000000 in
set_option maxRecDepth 1000000 in
theorem idx_walk (p : Int × Int → Bool) (blk off cap : Nat) (d : Array (Int × Int)) (w : World) (hH : HoldsK encD 2 w blk off d) (hblk : blk < w.heap.size) (hsz : d.size ≤ 4294967296)
    (hcl : ∀ (W : World) x, Calls Try.prog 63 #[.agg (encD x).toArray] W fun e w' => e = .returned (.bool (p x)) ∧ ∃ q os, w' = grow (W.drewN q) os) :
    Calls Try.prog 109 #[.slice (some ⟨blk, off, none⟩) d.size cap, .func (.func 63) #[] #[]] w fun e w' => e = .returned (.int .i64 (idxOf p d.toList)) ∧ ∃ q os, w' = grow (w.drewN q) os := by
  have e63 : ∀ args w, (callFunc 63 args).run Try.prog w = .ok (.enter 63 args) w := enters_of Try.func63 (by kernel_rfl) rfl
  have tl : ∀ j, j < d.size → d.toList[j]! = d[j]! := fun j hj => by rw [getElem!_pos d j hj, getElem!_pos d.toList j (by simpa using hj)]; simp
  have HH : Aside (HoldsK encD 2 w blk off d) := hH
  have HC : Aside _ := hcl
  have HT : Aside _ := tl
  have htk : Aside (d.toList.take d.size = d.toList) := List.take_of_length_le (by simp)
  clear hH hcl tl
  go_enter Try.func109, Try.ntmps109
  go_wp2
  go_loopg [5, 8] d.size (fun gg _ s8 wr => ∃ kk : Nat, kk ≤ d.size ∧ d.size - kk ≤ gg ∧ s8 = .int .i64 kk ∧ Aside (GrownOf w wr) ∧ Aside (∀ j, j < kk → p d.toList[j]! = false))
  case atStart => exact ⟨0, Nat.zero_le _, by omega, rfl, GrownOf.refl w, fun j hj => absurd hj (Nat.not_lt_zero _)⟩
  case round =>
    obtain ⟨kk, hkk, hg, rfl, W2, A⟩ := hrel
    by_cases hlt : kk < d.size
    · have hltz : (kk : Int) < (d.size : Int) := by omega
      have hHold := holds_grown HH.out hblk W2.out
      have cj0 := (hHold (kk * 2) (by rw [size_flatK]; omega)).1
      have cj1 := (hHold (kk * 2 + 1) (by rw [size_flatK]; omega)).1
      rw [get_flatK _ _ _ _ (by omega)] at cj0 cj1
      rw [show kk * 2 / 2 = kk by omega, show kk * 2 % 2 = 0 by omega] at cj0
      rw [show (kk * 2 + 1) / 2 = kk by omega, show (kk * 2 + 1) % 2 = 1 by omega, ← Nat.add_assoc] at cj1
      obtain ⟨u, hu⟩ : ∃ u, d[kk]! = u := ⟨_, rfl⟩
      rw [hu] at cj0 cj1
      have C : Aside (d.toList[kk]! = u) := (HT.out kk hlt).trans hu
      clear hu hHold
      obtain ⟨u1, u2⟩ := u
      have cj0 : wr.cell? ⟨blk, off + kk * 2, none⟩ = some (.int .i64 u1) := cj0
      have cj1 : wr.cell? ⟨blk, off + kk * 2 + 1, none⟩ = some (.int .i64 u2) := cj1
      have hcall : ∀ W, Calls Try.prog 63 #[.agg #[.int .i64 u1, .int .i64 u2]] W fun e w' => e = .returned (.bool (p (u1, u2))) ∧ ∃ q os, w' = grow (W.drewN q) os := fun W => HC.out W (u1, u2)
      cases hq : p (u1, u2) with
      | true =>
        rw [hq] at hcall
        go_wp2_with (go_at_call 63; refine (hcall _).mono ?_; rintro e w' ⟨rfl, qq, oss, rfl⟩)
        go_ret
        refine ⟨?_, W2.out.grown qq oss⟩
        have := Lib.idxBy_hit (fun _ y => p y) d.toList d.size kk default hlt (by simp) (by show p d.toList[kk]! = true; rw [C.out]; exact hq) A.out
        rw [htk.out] at this
        unfold idxOf; rw [this]; rfl
      | false =>
        rw [hq] at hcall
        go_wp2_with (go_at_call 63; refine (hcall _).mono ?_; rintro e w' ⟨rfl, qq, oss, rfl⟩)
        go_roundg (d.size - (kk + 1))
        case measure => omega
        case rel =>
          refine ⟨kk + 1, by omega, by omega, by go_num, (show Aside _ from W2.out.grown qq oss), (show Aside _ from fun j hj => ?_)⟩
          by_cases e : j = kk
          · subst e
            rw [C.out]; exact hq
          · exact A.out j (by omega)
    · have hltz : ¬ (kk : Int) < (d.size : Int) := by omega
      have : kk = d.size := by omega
      subst this
      go_wp2
      go_ret
      refine ⟨?_, W2.out⟩
      have := Lib.idxBy_miss (fun _ y => p y) d.toList d.size default A.out
      rw [htk.out] at this
      unfold idxOf; rw [this]; rfl

set_option maxHeartbeats 4000000 in
set_option maxRecDepth 1000000 in
theorem idx_none (a : Option Addr) (c : Nat) (fv : Value) (w : World) :
    Calls Try.prog 109 #[.slice a 0 c, fv] w fun e w' => e = .returned (.int .i64 (-1)) ∧ w' = w := by
  go_enter Try.func109, Try.ntmps109
  go_wp2
  go_loopg [5, 8] 0 (fun _ _ s8 wr => s8 = .int .i64 0 ∧ wr = w)
  case atStart => exact ⟨rfl, rfl⟩
  case round =>
    obtain ⟨rfl, rfl⟩ := hrel
    go_wp2
    go_ret
    exact ⟨rfl, rfl⟩

set_option maxHeartbeats 4000000 in
set_option maxRecDepth 1000000 in
theorem del_none (a : Option Addr) (c : Nat) (w : World) :
    Calls Try.prog 61 #[.slice a 0 c, .func (.func 63) #[] #[]] w fun e w' => e = .returned (.slice a 0 c) ∧ w' = w := by
  have e109 : ∀ args w, (callFunc 109 args).run Try.prog w = .ok (.enter 109 args) w := enters_of Try.func109 (by kernel_rfl) rfl
  go_enter Try.func61, Try.ntmps61
  go_wp2_with (go_at_call 109; refine (idx_none a c _ _).mono ?_; rintro e w' ⟨rfl, rfl⟩)
  go_ret
  exact ⟨rfl, rfl⟩

set_option maxHeartbeats 4000000 in
set_option maxRecDepth 1000000 in
theorem del_walk (p : Int × Int → Bool) (blk off cap : Nat) (d : Array (Int × Int)) (w : World) (hH : HoldsK encD 2 w blk off d) (hblk : blk < w.heap.size) (hsz : d.size ≤ 4294967296) (hcap : d.size ≤ cap)
    (hcl : ∀ (W : World) x, Calls Try.prog 63 #[.agg (encD x).toArray] W fun e w' => e = .returned (.bool (p x)) ∧ ∃ q os, w' = grow (W.drewN q) os)
    (hIF : Calls Try.prog 109 #[.slice (some ⟨blk, off, none⟩) d.size cap, .func (.func 63) #[] #[]] w fun e w' => e = .returned (.int .i64 (idxOf p d.toList)) ∧ ∃ q os, w' = grow (w.drewN q) os) :
    Calls Try.prog 61 #[.slice (some ⟨blk, off, none⟩) d.size cap, .func (.func 63) #[] #[]] w fun e w' =>
      e = .returned (.slice (some ⟨blk, off, none⟩) (d.toList.filter fun x => !p x).length cap) ∧ SWK encD 2 w blk off ((d.toList.filter fun x => !p x) ++ List.replicate (d.size - (d.toList.filter fun x => !p x).length) (0, 0)).toArray w' := by
  have e109 : ∀ args w, (callFunc 109 args).run Try.prog w = .ok (.enter 109 args) w := enters_of Try.func109 (by kernel_rfl) rfl
  have e63 : ∀ args w, (callFunc 63 args).run Try.prog w = .ok (.enter 63 args) w := enters_of Try.func63 (by kernel_rfl) rfl
  have hk : ∀ x, (encD x).length = 2 := fun _ => rfl
  have h1 : ∀ x, ∀ v ∈ encD x, v.oneCell' = true := fun x v hv => by simp [encD] at hv; rcases hv with rfl | rfl <;> rfl
  have R : RowK encD 2 w blk off d := ⟨hk, h1, hH, hblk⟩
  have hst : SWK encD 2 w blk off d w := ⟨0, #[], by unfold sortWorldK; rw [grow_empty]; exact (putRowK_self encD 2 w blk off d hH).symm⟩
  have tl : ∀ j, j < d.size → d.toList[j]! = d[j]! := fun j hj => by rw [getElem!_pos d j hj, getElem!_pos d.toList j (by simpa using hj)]; simp
  obtain ⟨kp, HK⟩ : ∃ kp : Nat → Bool, Hid (kp = fun j => !p d[j]!) := ⟨_, rfl⟩
  have hfil : (d.toList.filter fun x => !p x) = keptUpTo kp d d.size := by rw [HK.out]; exact (keptUpTo_filter (fun x => !p x) d).symm
  rw [hfil]
  rcases idxByFrom_spec (fun _ y => p y) (default : Int × Int) d.toList 0 with ⟨e1, hall⟩ | ⟨k0, hk0, e1, ht, hall⟩
  · have e2 : idxOf p d.toList = -1 := e1
    rw [e2] at hIF
    have hkeep : ∀ j, j < d.size → kp j = true := fun j hj => by rw [HK.out]; show (!p d[j]!) = true; rw [← tl j hj, hall j (by simpa using hj)]; rfl
    have e3 : keptUpTo kp d d.size = d.toList := by rw [keptUpTo_all kp d _ hkeep, range_map_get]
    have HS : Aside (SWK encD 2 w blk off d w) := hst
    clear hH hst hcl R
    go_enter Try.func61, Try.ntmps61
    go_wp2_with (go_at_call 109; refine hIF.mono ?_; rintro e w' ⟨rfl, q0, os0, rfl⟩)
    go_ret
    rw [e3]
    refine ⟨by simp, ?_⟩
    simp only [Array.length_toList, Nat.sub_self, List.replicate_zero, List.append_nil, Array.toArray_toList]
    exact HS.out.grown q0 os0
  · have hk0' : k0 < d.size := by simpa using hk0
    have e2 : idxOf p d.toList = (k0 : Int) := by unfold idxOf Lib.idxBy; rw [e1]; simp
    rw [e2] at hIF
    have hkeep : ∀ j, j < k0 → kp j = true := fun j hj => by rw [HK.out]; show (!p d[j]!) = true; rw [← tl j (by omega), hall j hj]; rfl
    have hdrop : kp k0 = false := by rw [HK.out]; show (!p d[k0]!) = false; rw [← tl k0 hk0']; rw [show p d.toList[k0]! = true from ht]; rfl
    have hne1 : ((k0 : Int) == -1) = false := beq_eq_false_iff_ne.2 (by omega)
    have HC : Aside _ := hcl
    have HS : Aside (SWK encD 2 w blk off d w) := hst
    have HR : Aside (RowK encD 2 w blk off d) := R
    clear hH hst hcl R hall ht e1 e2 tl hk h1
    go_enter Try.func61, Try.ntmps61
    go_wp2_with (go_at_call 109; refine hIF.mono ?_; rintro e w' ⟨rfl, q0, os0, rfl⟩)
    go_loopg [5, 6, 7] d.size (fun gg s5 s6 _ wr => ∃ (i j : Nat) (dk : Array (Int × Int)), s5 = .int .i64 i ∧ s6 = .int .i64 j ∧ j ≤ d.size ∧ d.size - j ≤ gg ∧ Aside (SWK encD 2 w blk off dk wr) ∧ Aside (KeptInv kp d j i dk))
    case atStart => exact ⟨k0, k0 + 1, d, rfl, by go_num, by omega, by omega, HS.out.grown q0 os0, KeptInv.start hkeep hdrop⟩
    case round =>
      obtain ⟨i, j, dk, rfl, rfl, hjd, hgg, W2, I2⟩ := hrel
      have hij := I2.out.lt
      have hds := I2.out.size
      by_cases hlt : j < d.size
      · have hltz : (j : Int) < (d.size : Int) := by omega
        have hHold : HoldsK encD 2 wr blk off dk := W2.out.holds hblk HR.out.hH hds
        have cel : ∀ x, x < dk.size → (wr.cell? ⟨blk, off + x * 2, none⟩ = some (.int .i64 dk[x]!.1) ∧ wr.cell? ⟨blk, off + x * 2 + 1, none⟩ = some (.int .i64 dk[x]!.2)) ∧ wr.frozen? ⟨blk, off + x * 2, none⟩ = false ∧ wr.frozen? ⟨blk, off + x * 2 + 1, none⟩ = false := by
          intro x hx
          have g0 := hHold (x * 2) (by simp; omega)
          have g1 := hHold (x * 2 + 1) (by simp; omega)
          rw [get_flatK _ _ _ _ (by omega)] at g0 g1
          have d0 : x * 2 / 2 = x := by omega
          have d1 : (x * 2 + 1) / 2 = x := by omega
          have m0 : x * 2 % 2 = 0 := by omega
          have m1 : (x * 2 + 1) % 2 = 1 := by omega
          rw [d0, m0] at g0; rw [d1, m1] at g1
          rw [← Nat.add_assoc] at g1
          exact ⟨⟨g0.1, g1.1⟩, g0.2, g1.2⟩
        obtain ⟨⟨cj0, cj1⟩, _, _⟩ := cel j (by omega)
        obtain ⟨⟨ci0, ci1⟩, fi0, fi1⟩ := cel i (by omega)
        rw [I2.out.high j (by omega)] at cj0 cj1
        obtain ⟨u, hu⟩ : ∃ u, d[j]! = u := ⟨_, rfl⟩
        rw [hu] at cj0 cj1
        have C : Aside (d[j]! = u) := hu
        clear hu hHold cel
        obtain ⟨u1, u2⟩ := u
        simp only at cj0 cj1
        generalize dk[i]!.1 = o1 at ci0
        generalize dk[i]!.2 = o2 at ci1
        have hblk' : blk < wr.heap.size := World.block_lt_of_cell? wr _ cj0
        have hcall : ∀ W, Calls Try.prog 63 #[.agg #[.int .i64 u1, .int .i64 u2]] W fun e w' => e = .returned (.bool (p (u1, u2))) ∧ ∃ q os, w' = grow (W.drewN q) os := fun W => HC.out W (u1, u2)
        have hne : ¬ (blk = wr.heap.size) := by omega
        have hnew0 : ∀ n os, (grow ((wr.alloc (.cells #[.int .i64 u1, .int .i64 u2] 23)).drewN n) os).cell? ⟨wr.heap.size, 0, none⟩ = some (.int .i64 u1) := fun n os => cell_grown (by simp) (by rw [cell_new]; rfl) n os
        have hnew1 : ∀ n os, (grow ((wr.alloc (.cells #[.int .i64 u1, .int .i64 u2] 23)).drewN n) os).cell? ⟨wr.heap.size, 1, none⟩ = some (.int .i64 u2) := fun n os => cell_grown (by simp) (by rw [cell_new]; rfl) n os
        have gi0 : ∀ n os, (grow ((wr.alloc (.cells #[.int .i64 u1, .int .i64 u2] 23)).drewN n) os).cell? ⟨blk, off + i * 2, none⟩ = some (.int .i64 o1) := fun n os => cell_g ci0 n os
        have gf0 : ∀ n os, (grow ((wr.alloc (.cells #[.int .i64 u1, .int .i64 u2] 23)).drewN n) os).frozen? ⟨blk, off + i * 2, none⟩ = false := fun n os => frz_g hblk' fi0 n os
        have gi1 : ∀ n os v, ((grow ((wr.alloc (.cells #[.int .i64 u1, .int .i64 u2] 23)).drewN n) os).setCell ⟨blk, off + i * 2, none⟩ v).cell? ⟨blk, off + i * 2 + 1, none⟩ = some (.int .i64 o2) := fun n os v => by rw [World.cell?_setCell_other _ _ _ _ (by intro h; injection h; omega)]; exact cell_g ci1 n os
        have gf1 : ∀ n os v, ((grow ((wr.alloc (.cells #[.int .i64 u1, .int .i64 u2] 23)).drewN n) os).setCell ⟨blk, off + i * 2, none⟩ v).frozen? ⟨blk, off + i * 2 + 1, none⟩ = false := fun n os v => by rw [World.frozen?_setCell]; exact frz_g hblk' fi1 n os
        cases hq : p (u1, u2) with
        | false =>
          rw [hq] at hcall
          go_wp2_with (go_at_call 63; refine (hcall _).mono ?_; rintro e w' ⟨rfl, qq, oss, rfl⟩)
          go_roundg (d.size - (j + 1))
          case measure => omega
          case rel =>
            refine ⟨i + 1, j + 1, dk.setIfInBounds i (u1, u2), by go_num, by go_num, by omega, Nat.le_refl _, (show Aside _ from ?_), (show Aside _ from ?_)⟩
            · exact swk_set ((W2.out.alloc _).grown qq oss) HR.out.hk HR.out.hblk i (u1, u2) (by omega)
            · have := I2.out.keep hlt (by rw [HK.out]; show (!p d[j]!) = true; rw [C.out, hq]; rfl)
              rwa [C.out] at this
        | true =>
          rw [hq] at hcall
          go_wp2_with (go_at_call 63; refine (hcall _).mono ?_; rintro e w' ⟨rfl, qq, oss, rfl⟩)
          go_roundg (d.size - (j + 1))
          case measure => omega
          case rel => exact ⟨i, j + 1, dk, rfl, by go_num, by omega, Nat.le_refl _, (W2.out.alloc _).grown qq oss, I2.out.skip (by rw [HK.out]; show (!p d[j]!) = false; rw [C.out, hq]; rfl)⟩
      · obtain rfl : j = d.size := by omega
        have hltz : ¬ (d.size : Int) < (d.size : Int) := by omega
        have hHold : HoldsK encD 2 wr blk off dk := W2.out.holds hblk HR.out.hH hds
        have hcel : ∀ t, t < (d.size - i) * 2 → wr.cell? ⟨blk, off + i * 2 + t, none⟩ = some (flatK encD 2 dk)[i * 2 + t]! ∧ wr.frozen? ⟨blk, off + i * 2 + t, none⟩ = false := fun t ht => by
          rw [Nat.add_assoc]; exact hHold (i * 2 + t) (by rw [size_flatK]; omega)
        have hcl : ∀ ty, (Builtin.clear_ #[30] ty #[.slice (some ⟨blk, off + i * 2, none⟩) (d.size - i) (cap - i)]).run Try.prog wr = .ok (.tuple #[]) (wr.setCells blk (off + i * 2) ((List.replicate (d.size - i) (0, 0)).flatMap encD)) := by
          intro ty
          rw [zeros2]
          exact run_clear2 wr 30 23 ty (by rfl) (fun w => by rfl) blk (off + i * 2) (d.size - i) (cap - i) (by omega) (fun t ht => by rw [(hcel t ht).1]; rfl) (fun t ht => (hcel t ht).2)
        clear hHold hcel
        go_wp2
        go_ret
        have hI := I2.out
        refine ⟨by rw [hI.len]; rfl, ?_⟩
        rw [hI.len, ← hI.done (0, 0)]
        exact swk_lay HR.out.hk HR.out.hblk _ i dk wr W2.out (by simp; omega)
#print axioms del_walk
end Go.Proofs.Ytennedlpmacicaa
