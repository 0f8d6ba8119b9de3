/- The statement of the law DeltaReads: for every input the law returns true, and its arguments read as they did. No conditions. -/
import Derived.KernelRfl
import Derived.Test.YtbdfcbhnjdlabaaGreatRows
import Derived.WalkKit
import Derived.ProofKit
import Derived.OpenShut
import Derived.ShutString
import Derived.ChangeOld
import Derived.Below
import Derived.Test.YtbdfcbhnjdlabaaGreatFw1
import Derived.Test.YtbdfcbhnjdlabaaGreatFw2
import Derived.Test.YtbdfcbhnjdlabaaGreatFw3
import Derived.Test.YtbdfcbhnjdlabaaGreatDeltaReads1
set_option linter.unusedVariables false
set_option linter.unusedSimpArgs false
set_option linter.unusedSectionVars false
section
/- The program's functions, as plain equations. -/
namespace Go.Proofs.YtbdfcbhnjdlabaaGreat
open Pal
set_option maxRecDepth 100000
noncomputable def dot_Code.body : Go.Code := Tryz.f58.body.getD .skip
noncomputable def dot_Code.rs : List Go.ResultVar := Tryz.f58.results.toList
def dot_Code.regs : List (Nat × RInfo) := [(0, ri [1] [1]), (1, rq [2] [] 7)]
noncomputable def dot_Code.cx (k : Nat) : Cx := ⟨tt, pp, [(57, packIntE)], dot_Code.regs, k, mm⟩
@[reducible] def dot_Code.sg : Sg := ⟨[.dat tDot], [], .dat .str, []⟩
noncomputable def dot_Code.f (k : Nat) (a0 : Ty.D tDot) : Option (Sg.Out dot_Code.sg) := Sg.fn dot_Code.sg (dot_Code.cx k) dot_Code.body dot_Code.rs a0
theorem dot_Code.f_eq (k : Nat) (a0 : Ty.D tDot) : dot_Code.f k a0 = bnd (packI a0.1) fun r0 => bnd (packI a0.2) fun r1 => br (roomS r0 r1) (some (app r0 r1)) none := by kernel_rfl
noncomputable def dot_Code.e (k : Nat) : Entry := Sg.entry dot_Code.sg fun x => dot_Code.f k x
theorem dot_Code.ok (k : Nat) : CallOK Tryz.prog 58 (dot_Code.e k) := fn_ok (c := dot_Code.cx k) (code := dot_Code.body) (TT.of tt_ok pp_ok mm_ok) (fns_ok ⟨packint_ok, trivial⟩) mixed Tryz.func58 (by kernel_rfl) (by kernel_rfl) (by kernel_rfl) (by kernel_rfl) (by kernel_rfl) (by kernel_rfl) (fun x => by kernel_rfl)
noncomputable def dots_List.body : Go.Code := Tryz.f56.body.getD .skip
noncomputable def dots_List.rs : List Go.ResultVar := Tryz.f56.results.toList
def dots_List.regs : List (Nat × RInfo) := [(0, ri [0] []), (1, ri [0,3] [8]), (2, ri [3,9,10,11] [8]), (3, ⟨[3, 9, 10, 11, 12], [8], [], [], 0, [3, 9, 10, 11], [8], [], [], []⟩), (4, ri [3,5,9,10,11] [5,8]), (5, ri [3,9,10,11] [8]), (6, ri [3,9,10,11] [8]), (7, ri [2] [8])]
noncomputable def dots_List.cx (k : Nat) : Cx := ⟨tt, pp, [(57, packIntE), (58, (dot_Code.e k))], dots_List.regs, k, mm⟩
@[reducible] def dots_List.sg : Sg := ⟨[.dat (.slc tDot)], [], .dat .str, []⟩
noncomputable def dots_List.f (k : Nat) (a0 : Ty.D (.slc tDot)) : Option (Sg.Out dots_List.sg) := Sg.fn dots_List.sg (dots_List.cx k) dots_List.body dots_List.rs a0
noncomputable def dots_List.l3 (k : Nat) (n : Nat) (x3 : Ty.D .str) (x9 : Ty.D (.slc tDot)) (x10 : Ty.D (.int .i64)) (x11 : Ty.D (.int .i64)) : Option (Sg.Out dots_List.sg) := loopAt (dots_List.cx k) dots_List.body [1, 1, 0, 1, 0] 3 [3, 9, 10, 11] [8] [] (Sg.K dots_List.sg (dots_List.cx k) dots_List.rs) n ⟨[(3, .dat .str x3), (9, .dat (.slc tDot) x9), (10, .dat (.int .i64) x10), (11, .dat (.int .i64) x11)], []⟩
theorem dots_List.f_eq (k : Nat) (a0 : Ty.D (.slc tDot)) : dots_List.f k a0 = bnd (packI (ilen a0)) fun r0 => dots_List.l3 k k r0 a0 (ilen a0) 0 := by kernel_rfl
theorem dots_List.l3_eq (k : Nat) (n3 : Nat) (x3 : Ty.D .str) (x9 : Ty.D (.slc tDot)) (x10 : Ty.D (.int .i64)) (x11 : Ty.D (.int .i64)) : dots_List.l3 k (n3 + 1) x3 x9 x10 x11 = br (ilt x11 x10) (br (inL x11 x9) (bnd (dot_Code.f k (rd tDot x9 (natOf x11))) fun r0 => br (roomS x3 r0) (dots_List.l3 k n3 (app x3 r0) x9 x10 (iadd .i64 x11 1)) none) none) (some x3) := by kernel_rfl
noncomputable def dots_List.e (k : Nat) : Entry := Sg.entry dots_List.sg fun x => dots_List.f k x
theorem dots_List.ok (k : Nat) : CallOK Tryz.prog 56 (dots_List.e k) := fn_ok (c := dots_List.cx k) (code := dots_List.body) (TT.of tt_ok pp_ok mm_ok) (fns_ok ⟨packint_ok, (dot_Code.ok k), trivial⟩) mixed Tryz.func56 (by kernel_rfl) (by kernel_rfl) (by kernel_rfl) (by kernel_rfl) (by kernel_rfl) (by kernel_rfl) (fun x => by kernel_rfl)
noncomputable def dots_Code.body : Go.Code := Tryz.f29.body.getD .skip
noncomputable def dots_Code.rs : List Go.ResultVar := Tryz.f29.results.toList
def dots_Code.regs : List (Nat × RInfo) := [(0, ⟨[1], [1], [0], [], 0, [], [], [], [], []⟩), (1, rq [2] [] 7)]
noncomputable def dots_Code.cx (k : Nat) : Cx := ⟨tt, pp, [(55, (vec_Code.e k)), (56, (dots_List.e k))], dots_Code.regs, k, mm⟩
@[reducible] def dots_Code.sg : Sg := ⟨[.dat tDots], [], .dat .str, []⟩
noncomputable def dots_Code.f (k : Nat) (a0 : Ty.D tDots) : Option (Sg.Out dots_Code.sg) := Sg.fn dots_Code.sg (dots_Code.cx k) dots_Code.body dots_Code.rs a0
theorem dots_Code.f_eq (k : Nat) (a0 : Ty.D tDots) : dots_Code.f k a0 = bnd (vec_Code.f k a0.1) fun r0 => bnd (dots_List.f k a0.2) fun r1 => br (roomS r0 r1) (some (app r0 r1)) none := by kernel_rfl
noncomputable def dots_Code.e (k : Nat) : Entry := Sg.entry dots_Code.sg fun x => dots_Code.f k x
theorem dots_Code.ok (k : Nat) : CallOK Tryz.prog 29 (dots_Code.e k) := fn_ok (c := dots_Code.cx k) (code := dots_Code.body) (TT.of tt_ok pp_ok mm_ok) (fns_ok ⟨(vec_Code.ok k), (dots_List.ok k), trivial⟩) mixed Tryz.func29 (by kernel_rfl) (by kernel_rfl) (by kernel_rfl) (by kernel_rfl) (by kernel_rfl) (by kernel_rfl) (fun x => by kernel_rfl)
noncomputable def tally_Code.body : Go.Code := Tryz.f30.body.getD .skip
noncomputable def tally_Code.rs : List Go.ResultVar := Tryz.f30.results.toList
def tally_Code.regs : List (Nat × RInfo) := [(0, ri [0] []), (1, ri [0,3] [8]), (2, ri [3,9,10,11] [8]), (3, ⟨[3, 9, 10, 11, 12], [8], [], [], 0, [3, 9, 10, 11], [8], [], [], []⟩), (4, ri [3,5,9,10,11] [5,8]), (5, rq [3,9,10,11] [8] 9), (6, ri [3,9,10,11] [8]), (7, ri [2] [8])]
noncomputable def tally_Code.cx (k : Nat) : Cx := ⟨tt, pp, [(57, packIntE), (58, (dot_Code.e k))], tally_Code.regs, k, mm⟩
@[reducible] def tally_Code.sg : Sg := ⟨[.dat (.slc tUndo)], [], .dat .str, []⟩
noncomputable def tally_Code.f (k : Nat) (a0 : Ty.D (.slc tUndo)) : Option (Sg.Out tally_Code.sg) := Sg.fn tally_Code.sg (tally_Code.cx k) tally_Code.body tally_Code.rs a0
noncomputable def tally_Code.l3 (k : Nat) (n : Nat) (x3 : Ty.D .str) (x9 : Ty.D (.slc tUndo)) (x10 : Ty.D (.int .i64)) (x11 : Ty.D (.int .i64)) : Option (Sg.Out tally_Code.sg) := loopAt (tally_Code.cx k) tally_Code.body [1, 1, 0, 1, 0] 3 [3, 9, 10, 11] [8] [] (Sg.K tally_Code.sg (tally_Code.cx k) tally_Code.rs) n ⟨[(3, .dat .str x3), (9, .dat (.slc tUndo) x9), (10, .dat (.int .i64) x10), (11, .dat (.int .i64) x11)], []⟩
theorem tally_Code.f_eq (k : Nat) (a0 : Ty.D (.slc tUndo)) : tally_Code.f k a0 = bnd (packI (ilen a0)) fun r0 => tally_Code.l3 k k r0 a0 (ilen a0) 0 := by kernel_rfl
theorem tally_Code.l3_eq (k : Nat) (n3 : Nat) (x3 : Ty.D .str) (x9 : Ty.D (.slc tUndo)) (x10 : Ty.D (.int .i64)) (x11 : Ty.D (.int .i64)) : tally_Code.l3 k (n3 + 1) x3 x9 x10 x11 = br (ilt x11 x10) (br (inL x11 x9) (bnd (dot_Code.f k ((rd tUndo x9 (natOf x11)).1)) fun r0 => bnd (packI ((rd tUndo x9 (natOf x11)).2)) fun r1 => br (roomS r0 r1) (br (roomS x3 (app r0 r1)) (tally_Code.l3 k n3 (app x3 (app r0 r1)) x9 x10 (iadd .i64 x11 1)) none) none) none) (some x3) := by kernel_rfl
noncomputable def tally_Code.e (k : Nat) : Entry := Sg.entry tally_Code.sg fun x => tally_Code.f k x
theorem tally_Code.ok (k : Nat) : CallOK Tryz.prog 30 (tally_Code.e k) := fn_ok (c := tally_Code.cx k) (code := tally_Code.body) (TT.of tt_ok pp_ok mm_ok) (fns_ok ⟨packint_ok, (dot_Code.ok k), trivial⟩) mixed Tryz.func30 (by kernel_rfl) (by kernel_rfl) (by kernel_rfl) (by kernel_rfl) (by kernel_rfl) (by kernel_rfl) (fun x => by kernel_rfl)
noncomputable def delta_Code.body : Go.Code := Tryz.f13.body.getD .skip
noncomputable def delta_Code.rs : List Go.ResultVar := Tryz.f13.results.toList
def delta_Code.regs : List (Nat × RInfo) := [(0, ⟨[1], [1], [0], [], 0, [], [], [], [], []⟩), (1, rq [2] [] 11)]
noncomputable def delta_Code.cx (k : Nat) : Cx := ⟨tt, pp, [(29, (dots_Code.e k)), (30, (tally_Code.e k))], delta_Code.regs, k, mm⟩
@[reducible] def delta_Code.sg : Sg := ⟨[.dat tKnow], [], .dat .str, []⟩
noncomputable def delta_Code.f (k : Nat) (a0 : Ty.D tKnow) : Option (Sg.Out delta_Code.sg) := Sg.fn delta_Code.sg (delta_Code.cx k) delta_Code.body delta_Code.rs a0
theorem delta_Code.f_eq (k : Nat) (a0 : Ty.D tKnow) : delta_Code.f k a0 = bnd (dots_Code.f k a0.1) fun r0 => bnd (tally_Code.f k a0.2.1) fun r1 => br (roomS r0 r1) (bnd (dots_Code.f k a0.2.2) fun r2 => br (roomS (app r0 r1) r2) (some (app (app r0 r1) r2)) none) none := by kernel_rfl
noncomputable def delta_Code.e (k : Nat) : Entry := Sg.entry delta_Code.sg fun x => delta_Code.f k x
theorem delta_Code.ok (k : Nat) : CallOK Tryz.prog 13 (delta_Code.e k) := fn_ok (c := delta_Code.cx k) (code := delta_Code.body) (TT.of tt_ok pp_ok mm_ok) (fns_ok ⟨(dots_Code.ok k), (tally_Code.ok k), trivial⟩) mixed Tryz.func13 (by kernel_rfl) (by kernel_rfl) (by kernel_rfl) (by kernel_rfl) (by kernel_rfl) (by kernel_rfl) (fun x => by kernel_rfl)
noncomputable def pack_Reader_End.body : Go.Code := Tryz.f14.body.getD .skip
noncomputable def pack_Reader_End.rs : List Go.ResultVar := Tryz.f14.results.toList
def pack_Reader_End.regs : List (Nat × RInfo) := [(0, ri [0] [1000000]), (1, ri [0,5] [1000000]), (2, ri [0] [1000000]), (3, ri [2] [9,1000000])]
noncomputable def pack_Reader_End.cx (k : Nat) : Cx := ⟨tt, pp, [(9, (pack_Reader_Left.e k)), (31, (pack_Reader_Fail.e k)), (8, (pack_Reader_Fault.e k))], pack_Reader_End.regs, k, mm⟩
@[reducible] def pack_Reader_End.sg : Sg := ⟨[.ref], [tpackReader], .dat (.int .i64), [tpackReader]⟩
noncomputable def pack_Reader_End.f (k : Nat) (o0 : Ty.D tpackReader) : Option (Sg.Out pack_Reader_End.sg) := Sg.fn pack_Reader_End.sg (pack_Reader_End.cx k) pack_Reader_End.body pack_Reader_End.rs o0
theorem pack_Reader_End.f_eq (k : Nat) (o0 : Ty.D tpackReader) : pack_Reader_End.f k o0 = bnd (pack_Reader_Left.f k o0) fun r0 => br (ilt 0 r0.1) (bnd (pack_Reader_Fail.f k 3 r0.2) fun r1 => bnd (pack_Reader_Fault.f k r1.2) fun r2 => some (r2.1, r2.2)) (bnd (pack_Reader_Fault.f k r0.2) fun r3 => some (r3.1, r3.2)) := by kernel_rfl
noncomputable def pack_Reader_End.e (k : Nat) : Entry := Sg.entry pack_Reader_End.sg fun x => pack_Reader_End.f k x
theorem pack_Reader_End.ok (k : Nat) : CallOK Tryz.prog 14 (pack_Reader_End.e k) := fn_ok (c := pack_Reader_End.cx k) (code := pack_Reader_End.body) (TT.of tt_ok pp_ok mm_ok) (fns_ok ⟨(pack_Reader_Left.ok k), (pack_Reader_Fail.ok k), (pack_Reader_Fault.ok k), trivial⟩) mixed Tryz.func14 (by kernel_rfl) (by kernel_rfl) (by kernel_rfl) (by kernel_rfl) (by kernel_rfl) (by kernel_rfl) (fun x => by kernel_rfl)
noncomputable def law24_DeltaReads.body : Go.Code := Tryz.f3.body.getD .skip
noncomputable def law24_DeltaReads.rs : List Go.ResultVar := Tryz.f3.results.toList
def law24_DeltaReads.regs : List (Nat × RInfo) := [(0, ⟨[0, 3], [3], [0], [], 0, [], [], [], [], []⟩), (1, ri [0,3,10] [3]), (2, ri [0,3] [3]), (3, ri [0,3,5] [3,14]), (4, ri [3,5,6] [3,14,17]), (5, ⟨[3, 39], [3], [], [], 22, [], [], [], [[], [], [], [1], [1, 3], [1, 3], [1, 3], [1, 3], [1, 3], [1, 3], [1, 3], [1, 3], [1, 3], [8, 1, 3, 12], [1, 3, 8, 12], [1, 3, 8, 12], [1, 3, 8, 12], [1, 3, 8, 12], [1, 3, 8, 12], [1, 3, 8, 12, 17], [17, 1, 3, 8, 12, 19], [1, 3, 8, 12, 17, 19]], []⟩), (6, ri [4] [43,50,57]), (7, ri [3,42] [3]), (8, ri [4] [43,50,57]), (9, ri [3,7] [3,46]), (10, ⟨[4], [43, 50, 57], [], [], 12, [], [], [], [[], [], [], [1, 2], [1, 2], [1, 2], [1, 2], [6, 1, 2], [1, 2, 6], [1, 2, 6], [1, 2, 6], [1, 2, 6], [1, 2, 6]], []⟩)]
noncomputable def law24_DeltaReads.cx (k : Nat) : Cx := ⟨tt, pp, [(4, (pack_Open.e k)), (6, (delta_Read.e k)), (7, (ref24_Read.e k)), (5, (ref24_Same.e k)), (8, (pack_Reader_Fault.e k)), (9, (pack_Reader_Left.e k)), (10, (ref02_Reader_Left.e k)), (11, (ref24_Good.e k)), (12, (law24_awake.e k)), (13, (delta_Code.e k)), (14, (pack_Reader_End.e k))], law24_DeltaReads.regs, k, mm⟩
@[reducible] def law24_DeltaReads.sg : Sg := ⟨[.dat .str, .dat tKnow], [], .dat .bool, []⟩
noncomputable def law24_DeltaReads.f (k : Nat) (a0 : Ty.D .str) (a1 : Ty.D tKnow) : Option (Sg.Out law24_DeltaReads.sg) := Sg.fn law24_DeltaReads.sg (law24_DeltaReads.cx k) law24_DeltaReads.body law24_DeltaReads.rs (a0, a1)
theorem law24_DeltaReads.f_eq (k : Nat) (a0 : Ty.D .str) (a1 : Ty.D tKnow) : law24_DeltaReads.f k a0 a1 = br (ilt 600 (ilen a0)) (br (inS 0 600 (ilen a0)) (bnd (pack_Open.f k (piece a0 0 600)) fun r0 => bnd (delta_Read.f k r0.2) fun r1 => bnd (ref24_Read.f k ((piece a0 0 600), (0, 0))) fun r2 => bnd (ref24_Same.f k r1.1 r2.1) fun r3 => br (bnot r3) (some false) (bnd (pack_Reader_Fault.f k r1.2) fun r4 => br (bnot (ieq r4.1 r2.2.2.2)) (some false) (bnd (pack_Reader_Left.f k r4.2) fun r5 => bnd (ref02_Reader_Left.f k r2.2) fun r6 => br (bnot (ieq r5.1 r6.1)) (some false) (bnd (ref24_Good.f k a1) fun r7 => br (bnot r7) (bnd (law24_awake.f k) fun r8 => some r8) (bnd (delta_Code.f k a1) fun r9 => bnd (pack_Open.f k r9) fun r10 => bnd (delta_Read.f k r10.2) fun r11 => bnd (ref24_Same.f k r11.1 a1) fun r12 => br r12 (bnd (pack_Reader_End.f k r11.2) fun r13 => br (ieq r13.1 0) (bnd (law24_awake.f k) fun r14 => some r14) (some false)) (some false)))))) none) (bnd (pack_Open.f k a0) fun r15 => bnd (delta_Read.f k r15.2) fun r16 => bnd (ref24_Read.f k (a0, (0, 0))) fun r17 => bnd (ref24_Same.f k r16.1 r17.1) fun r18 => br (bnot r18) (some false) (bnd (pack_Reader_Fault.f k r16.2) fun r19 => br (bnot (ieq r19.1 r17.2.2.2)) (some false) (bnd (pack_Reader_Left.f k r19.2) fun r20 => bnd (ref02_Reader_Left.f k r17.2) fun r21 => br (bnot (ieq r20.1 r21.1)) (some false) (bnd (ref24_Good.f k a1) fun r22 => br (bnot r22) (bnd (law24_awake.f k) fun r23 => some r23) (bnd (delta_Code.f k a1) fun r24 => bnd (pack_Open.f k r24) fun r25 => bnd (delta_Read.f k r25.2) fun r26 => bnd (ref24_Same.f k r26.1 a1) fun r27 => br r27 (bnd (pack_Reader_End.f k r26.2) fun r28 => br (ieq r28.1 0) (bnd (law24_awake.f k) fun r29 => some r29) (some false)) (some false)))))) := by kernel_rfl
noncomputable def law24_DeltaReads.e (k : Nat) : Entry := Sg.entry law24_DeltaReads.sg fun x => law24_DeltaReads.f k x.1 x.2
theorem law24_DeltaReads.ok (k : Nat) : CallOK Tryz.prog 3 (law24_DeltaReads.e k) := fn_ok (c := law24_DeltaReads.cx k) (code := law24_DeltaReads.body) (TT.of tt_ok pp_ok mm_ok) (fns_ok ⟨(pack_Open.ok k), (delta_Read.ok k), (ref24_Read.ok k), (ref24_Same.ok k), (pack_Reader_Fault.ok k), (pack_Reader_Left.ok k), (ref02_Reader_Left.ok k), (ref24_Good.ok k), (law24_awake.ok k), (delta_Code.ok k), (pack_Reader_End.ok k), trivial⟩) mixed Tryz.func3 (by kernel_rfl) (by kernel_rfl) (by kernel_rfl) (by kernel_rfl) (by kernel_rfl) (by kernel_rfl) (fun x => by kernel_rfl)

end Go.Proofs.YtbdfcbhnjdlabaaGreat
end
section
/- Sets of dots: one way to stand. -/
namespace Go.Proofs.YtbdfcbhnjdlabaaGreat
open Pal
abbrev Vec := List Int
abbrev DSet := Vec × List Dot
def vat (v : Vec) (r : Int) : Int := rd (.int .i64) v (natOf r)
theorem rightD_iff (d : Dot) : rightD d = true ↔ 0 ≤ d.1 ∧ d.1 < 16 ∧ 1 ≤ d.2 ∧ d.2 ≤ 1048576 := by unfold rightD; rw [decide_eq_true_iff]
theorem vat_get {v : Vec} {i : Nat} (h : i < v.length) : vat v (i : Int) = v[i] := by unfold vat; rw [natOf_nat]; exact rd_at' (e := .int .i64) h
structure VOk (v : Vec) : Prop where
  len : v.length = 16
  lo : ∀ r, 0 ≤ r → r < 16 → 0 ≤ vat v r
  hi : ∀ r, 0 ≤ r → r < 16 → vat v r ≤ 1048576
structure Can (s : DSet) : Prop where
  vok : VOk s.1
  rt : ∀ d ∈ s.2, rightD d = true
  gap : ∀ d ∈ s.2, vat s.1 d.1 + 1 < d.2
  srt : s.2.Pairwise (fun a b => dotLt a b = true)
end Go.Proofs.YtbdfcbhnjdlabaaGreat
end
section
/- What the functions of the layer of dots compute. -/
namespace Go.Proofs.YtbdfcbhnjdlabaaGreat
open Pal
theorem iadd_s {a b : Int} (h1 : -1000000000000 ≤ a) (h2 : a ≤ 1000000000000) (h3 : -1000000000000 ≤ b) (h4 : b ≤ 1000000000000) : iadd .i64 a b = a + b := by
  have e1 : ((2 : Int) ^ 63) = 9223372036854775808 := by decide
  show IntKind.wrap .i64 (a + b) = _
  rw [wrap_i64 (by rw [e1]; omega) (by rw [e1]; omega)]
theorem isub_s {a b : Int} (h1 : -1000000000000 ≤ a) (h2 : a ≤ 1000000000000) (h3 : -1000000000000 ≤ b) (h4 : b ≤ 1000000000000) : isub .i64 a b = a - b := by
  have e1 : ((2 : Int) ^ 63) = 9223372036854775808 := by decide
  show IntKind.wrap .i64 (a - b) = _
  rw [wrap_i64 (by rw [e1]; omega) (by rw [e1]; omega)]
theorem inB16 {r : Int} (h0 : 0 ≤ r) (h1 : r < 16) : inB r 16 = true := by simp [inB, h0]; omega
theorem room1 {α : Type} {xs : List α} {x : α} (h : xs.length < 4000000) : room xs (x :: []) = true := by simp [room]; omega
theorem ile_dec (a b : Int) : ile a b = decide (a ≤ b) := rfl
theorem ilt_dec (a b : Int) : ilt a b = decide (a < b) := rfl
theorem deqD (a b : Dot) : deq tDot a b = decide (a = b) := deq_dec (τ := tDot) rfl a b
theorem rright_is (k : Nat) (d : Dot) : ref04_Right.f k d = some (rightD d) := by
  rw [ref04_Right.f_eq]
  have : ile d.1 15 = ilt d.1 16 := by unfold ile ilt; congr 1; exact propext ⟨fun h => by omega, fun h => by omega⟩
  rw [this]
  have := right_is k d
  rw [dot_Right.f_eq] at this
  exact this
end Go.Proofs.YtbdfcbhnjdlabaaGreat
end
section
/- What the functions of the layer of dots compute, on. -/
namespace Go.Proofs.YtbdfcbhnjdlabaaGreat
open Pal
theorem srt_get {l : List Dot} (hs : l.Pairwise (fun a b => dotLt a b = true)) {i j : Nat} (hi : i < l.length) (hj : j < l.length) (h : i < j) : dotLt l[i] l[j] = true := List.pairwise_iff_getElem.1 hs i j hi hj h
theorem cmp_lt0 (a b : Dot) : ilt (cmpD a b) 0 = dotLt a b := rfl
end Go.Proofs.YtbdfcbhnjdlabaaGreat
end
section
/- What the document's functions of the layer of dots compute. -/
namespace Go.Proofs.YtbdfcbhnjdlabaaGreat
open Pal
theorem rcmp_is (k : Nat) (a b : Dot) : ref04_Compare.f k a b = some (cmpD a b) := by
  rw [ref04_Compare.f_eq, ref04_ints.f_eq, ref04_ints.f_eq, ieq_dec, bnot_dec]
  have hI : ∀ x y : Int, br (ilt x y) (some (-1)) (br (ilt y x) (some 1) (some 0)) = some (cmpI x y) := fun x y => by
    unfold cmpI
    by_cases h1 : x < y
    · simp [ilt, h1, br_true]
    · by_cases h2 : y < x <;> simp [ilt, h1, h2, br_true, br_false]
  have hI' : ∀ x y : Int, bnd (br (ilt x y) (some (-1)) (br (ilt y x) (some 1) (some 0))) (fun r => some r) = some (cmpI x y) := fun x y => by rw [hI]; rfl
  rw [hI', hI']
  unfold cmpD
  by_cases h : a.1 = b.1
  · rw [if_pos ((cmpI_eq _ _).2 h)]; simp [h, br_false]
  · rw [if_neg (fun e => h ((cmpI_eq _ _).1 e))]; simp [h, br_true]
end Go.Proofs.YtbdfcbhnjdlabaaGreat
end
section
/- The same, and right, among sets of dots. -/
namespace Go.Proofs.YtbdfcbhnjdlabaaGreat
open Pal
theorem reqD_l (k : Nat) (xs ys : List Dot) (hl : xs.length = ys.length) (hb : xs.length < 1000000) : ∀ (n i : Nat), i ≤ xs.length → xs.length < n + i →
    ref04_Same.l4 k n xs ys (i : Int) = some (zall (fun x y => decide (x = y)) (xs.drop i) (ys.drop i))
  | 0, i, h, h' => by omega
  | n + 1, i, h, h' => by
    rw [ref04_Same.l4_eq, ilt_nat, inL_nat, inL_nat, natOf_nat]
    by_cases hi : i < xs.length
    · have hi' : i < ys.length := by omega
      rw [zall_step hi hi', rd_at' (e := tDot) hi, rd_at' (e := tDot) hi', deqD, bnot_dec, iadd_nat (by omega)]
      simp only [hi, hi', decide_true, br_true]
      by_cases he : xs[i] = ys[i]
      · simp only [he, not_true, decide_true, decide_false, br_false, Bool.true_and]
        exact reqD_l k xs ys hl hb n (i + 1) (by omega) (by omega)
      · simp only [he, not_false_eq_true, decide_false, decide_true, br_true, Bool.false_and]
    · rw [zall_end (by omega)]
      simp only [hi, decide_false, br_false]
theorem reqD (k : Nat) (xs ys : List Dot) (hb : xs.length < k) (hk : k < 1000000) : ref04_Same.f k xs ys = some (decide (xs = ys)) := by
  rw [ref04_Same.f_eq, ieq_len, bnot_dec]
  by_cases hl : xs.length = ys.length
  · simp only [hl, not_true, decide_false, br_false]
    have := reqD_l k xs ys hl (by omega) k 0 (by omega) (by omega)
    simp only [List.drop_zero, zall_eq xs ys hl] at this
    exact this
  · have : xs ≠ ys := fun e => hl (by rw [e])
    simp only [hl, this, not_false_eq_true, decide_true, decide_false, br_true]
theorem deqV (a b : Vec) : deq tVec a b = decide (a = b) := by
  have h := deq_iff tVec rfl a b
  by_cases he : a = b
  · rw [decide_eq_true he]; exact h.2 he
  · rw [decide_eq_false he, ← Bool.not_eq_true, h]; exact he
theorem rsame_is (k : Nat) (s t : DSet) (hb : s.2.length < k) (hk : k < 1000000) : ref06_Same.f k s t = some (decide (s = t)) := by
  rw [ref06_Same.f_eq, deqV, reqD k _ _ hb hk]
  obtain ⟨a, b⟩ := s
  obtain ⟨c, d⟩ := t
  by_cases h1 : a = c <;> by_cases h2 : b = d <;> simp [h1, h2, br_true, br_false, bnd]
def vin (v : Vec) (r : Int) : Prop := 0 ≤ vat v r ∧ vat v r ≤ 1048576
theorem rvr_l (k : Nat) (v : Vec) : ∀ (n i : Nat), i ≤ 16 → 16 < n + i → ∃ b, ref05_Right.l2 k n (i : Int) v = some b ∧ (b = true ↔ ∀ r : Nat, i ≤ r → r < 16 → vin v r)
  | 0, i, h, h' => by omega
  | n + 1, i, h, h' => by
    rw [ref05_Right.l2_eq, natOf_nat]
    have e1 : ilt (i : Int) 16 = decide (i < 16) := ilt_nn i 16
    rw [e1, inB_nat]
    by_cases hi : i < 16
    · have hv : rd (.int .i64) v i = vat v (i : Int) := rfl
      rw [hv, iadd_nat (by omega), ilt_dec, ilt_dec]
      simp only [hi, decide_true, br_true]
      by_cases h1 : vat v (i : Int) < 0
      · simp only [h1, decide_true, br_true]
        exact ⟨false, rfl, ⟨fun h => (by cases h), fun h => by have := (h i (Nat.le_refl _) hi).1; omega⟩⟩
      · simp only [h1, decide_false, br_false]
        by_cases h2 : 1048576 < vat v (i : Int)
        · simp only [h2, decide_true, br_true]
          exact ⟨false, rfl, ⟨fun h => (by cases h), fun h => by have := (h i (Nat.le_refl _) hi).2; omega⟩⟩
        · simp only [h2, decide_false, br_false]
          obtain ⟨b, hb, hbi⟩ := rvr_l k v n (i + 1) (by omega) (by omega)
          refine ⟨b, hb, hbi.trans ⟨fun h r hr hr2 => ?_, fun h r hr hr2 => h r (by omega) hr2⟩⟩
          by_cases he : r = i
          · subst he; exact ⟨by omega, by omega⟩
          · exact h r (by omega) hr2
    · simp only [hi, decide_false, br_false]
      exact ⟨true, rfl, ⟨fun _ r hr hr2 => by omega, fun _ => rfl⟩⟩
theorem vok_iff {v : Vec} (hl : v.length = 16) : VOk v ↔ ∀ r : Nat, 0 ≤ r → r < 16 → vin v r := by
  constructor
  · intro h r _ hr; exact ⟨h.lo r (by omega) (by omega), h.hi r (by omega) (by omega)⟩
  · intro h
    refine ⟨hl, fun r h0 h1 => ?_, fun r h0 h1 => ?_⟩
    · obtain ⟨a, rfl⟩ := Int.eq_ofNat_of_zero_le h0; exact (h a (by omega) (by omega)).1
    · obtain ⟨a, rfl⟩ := Int.eq_ofNat_of_zero_le h0; exact (h a (by omega) (by omega)).2
theorem rvr_is (k : Nat) (v : Vec) (hl : v.length = 16) (hk : 17 < k) : ∃ b, ref05_Right.f k v = some b ∧ (b = true ↔ VOk v) := by
  rw [ref05_Right.f_eq, vok_iff hl]
  exact rvr_l k v k 0 (by omega) (by omega)
theorem vr_l (k : Nat) (v : Vec) : ∀ (n i : Nat), i ≤ 16 → 16 < n + i → ∃ b, vec_Right.l2 k n v (i : Int) = some b ∧ (b = true ↔ ∀ r : Nat, i ≤ r → r < 16 → vin v r)
  | 0, i, h, h' => by omega
  | n + 1, i, h, h' => by
    rw [vec_Right.l2_eq, natOf_nat]
    have e1 : ilt (i : Int) 16 = decide (i < 16) := ilt_nn i 16
    rw [e1, inB_nat]
    by_cases hi : i < 16
    · have hv : rd (.int .i64) v i = vat v (i : Int) := rfl
      rw [hv, iadd_nat (by omega), ilt_dec, ilt_dec]
      simp only [hi, decide_true, br_true]
      by_cases h1 : vat v (i : Int) < 0
      · simp only [h1, decide_true, br_true]
        exact ⟨false, rfl, ⟨fun h => (by cases h), fun h => by have := (h i (Nat.le_refl _) hi).1; omega⟩⟩
      · simp only [h1, decide_false, br_false]
        by_cases h2 : 1048576 < vat v (i : Int)
        · simp only [h2, decide_true, br_true]
          exact ⟨false, rfl, ⟨fun h => (by cases h), fun h => by have := (h i (Nat.le_refl _) hi).2; omega⟩⟩
        · simp only [h2, decide_false, br_false]
          obtain ⟨b, hb, hbi⟩ := vr_l k v n (i + 1) (by omega) (by omega)
          refine ⟨b, hb, hbi.trans ⟨fun h r hr hr2 => ?_, fun h r hr hr2 => h r (by omega) hr2⟩⟩
          by_cases he : r = i
          · subst he; exact ⟨by omega, by omega⟩
          · exact h r (by omega) hr2
    · simp only [hi, decide_false, br_false]
      exact ⟨true, rfl, ⟨fun _ r hr hr2 => by omega, fun _ => rfl⟩⟩
theorem vr_is (k : Nat) (v : Vec) (hl : v.length = 16) (hk : 17 < k) : ∃ b, vec_Right.f k v = some b ∧ (b = true ↔ VOk v) := by
  rw [vec_Right.f_eq, vok_iff hl]
  exact vr_l k v k 0 (by omega) (by omega)
def okAt (s : DSet) (j : Nat) (h : j < s.2.length) : Prop := rightD s.2[j] = true ∧ vat s.1 s.2[j].1 + 1 < s.2[j].2 ∧ (∀ h0 : 0 < j, dotLt (s.2[j - 1]'(by omega)) s.2[j] = true)
theorem can_iff {s : DSet} (hv : VOk s.1) : Can s ↔ ∀ j (h : j < s.2.length), 0 ≤ j → okAt s j h := by
  constructor
  · intro hs j h _
    exact ⟨hs.rt _ (List.getElem_mem h), hs.gap _ (List.getElem_mem h), fun h0 => srt_get hs.srt (by omega) h (by omega)⟩
  · intro h
    refine ⟨hv, fun d hd => ?_, fun d hd => ?_, ?_⟩
    · obtain ⟨j, hj, rfl⟩ := List.getElem_of_mem hd; exact (h j hj (Nat.zero_le _)).1
    · obtain ⟨j, hj, rfl⟩ := List.getElem_of_mem hd; exact (h j hj (Nat.zero_le _)).2.1
    · have key : ∀ t i (hi : i < s.2.length) (hj : i + 1 + t < s.2.length), dotLt s.2[i] s.2[i + 1 + t] = true := by
        intro t
        induction t with
        | zero => intro i hi hj; exact (h (i + 1) hj (Nat.zero_le _)).2.2 (by omega)
        | succ t ih =>
          intro i hi hj
          have h1 := ih i hi (by omega)
          have h2 := (h (i + 1 + (t + 1)) hj (Nat.zero_le _)).2.2 (by omega)
          exact dotLt_swo.trans _ _ _ h1 h2
      rw [List.pairwise_iff_getElem]
      intro i j hi hj hij
      have := key (j - i - 1) i hi (by omega)
      have e : i + 1 + (j - i - 1) = j := by omega
      simp only [e] at this; exact this
theorem cmp_m1 (a b : Dot) : bnot (ieq (cmpD a b) (-1)) = !dotLt a b := by
  have h1 : ∀ x y : Int, cmpI x y = -1 ∨ cmpI x y = 0 ∨ cmpI x y = 1 := fun x y => by unfold cmpI; split <;> (try split) <;> simp
  have h : cmpD a b = -1 ∨ cmpD a b = 0 ∨ cmpD a b = 1 := by unfold cmpD; split <;> exact h1 _ _
  show bnot (ieq (cmpD a b) (-1)) = !decide (cmpD a b < 0)
  rcases h with h | h | h <;> rw [h] <;> rfl
theorem rr_l (k : Nat) (s : DSet) (hl : s.2.length < 1000000) (hv : VOk s.1) : ∀ (n i : Nat), i ≤ s.2.length → s.2.length < n + i → ∃ b, ref06_Right.l4 k n (i : Int) s = some b ∧ (b = true ↔ ∀ j (h : j < s.2.length), i ≤ j → okAt s j h)
  | 0, i, h, h' => by omega
  | n + 1, i, h, h' => by
    rw [ref06_Right.l4_eq, ilt_nat, inL_nat, natOf_nat]
    by_cases hi : i < s.2.length
    · rw [rd_at' (e := tDot) hi, rright_is, iadd_nat (by omega)]
      simp only [hi, decide_true, br_true, bnd_some]
      cases hr : rightD s.2[i] with
      | false =>
        have e : bnot false = true := rfl
        rw [e]
        exact ⟨false, rfl, ⟨fun h => (by cases h), fun h => by rw [(h i hi (Nat.le_refl _)).1] at hr; cases hr⟩⟩
      | true =>
        have e : bnot true = false := rfl
        obtain ⟨r0, r1, r2, r3⟩ := (rightD_iff s.2[i]).1 hr
        have hvv : rd (.int .i64) s.1 (natOf s.2[i].1) = vat s.1 s.2[i].1 := rfl
        rw [e, inB16 r0 r1, hvv, isub_s (by omega) (by omega) (by omega) (by omega), ile_dec]
        simp only [br_true, br_false]
        by_cases hg : s.2[i].2 - 1 ≤ vat s.1 s.2[i].1
        · simp only [hg, decide_true, br_true]
          exact ⟨false, rfl, ⟨fun h => (by cases h), fun h => by have := (h i hi (Nat.le_refl _)).2.1; omega⟩⟩
        · simp only [hg, decide_false, br_false]
          obtain ⟨b, hb, hbi⟩ := rr_l k s hl hv n (i + 1) (by omega) (by omega)
          have step : (∀ h0 : 0 < i, dotLt (s.2[i - 1]'(by omega)) s.2[i] = true) → (b = true ↔ ∀ j (h : j < s.2.length), i ≤ j → okAt s j h) := fun hlt => hbi.trans ⟨fun h j hj hij => by
            by_cases he : j = i
            · subst he; exact ⟨hr, by omega, hlt⟩
            · exact h j hj (by omega), fun h j hj hij => h j hj (by omega)⟩
          by_cases h0 : 0 < i
          · have e2 : ilt 0 (i : Int) = true := by simp [ilt]; omega
            have e3 : isub .i64 (i : Int) 1 = ((i - 1 : Nat) : Int) := by rw [isub_s (by omega) (by omega) (by omega) (by omega)]; omega
            have hi1 : i - 1 < s.2.length := by omega
            rw [e2, e3, inL_nat, natOf_nat, rd_at' (e := tDot) hi1, rcmp_is]
            simp only [hi1, decide_true, br_true, bnd_some, cmp_m1]
            cases hc : dotLt s.2[i - 1] s.2[i] with
            | true => exact ⟨b, hb, step fun _ => hc⟩
            | false => exact ⟨false, rfl, ⟨fun h => (by cases h), fun h => by have := (h i hi (Nat.le_refl _)).2.2 h0; rw [hc] at this; cases this⟩⟩
          · have e2 : ilt 0 (i : Int) = false := by simp [ilt]; omega
            rw [e2]
            exact ⟨b, hb, step fun h => absurd h h0⟩
    · simp only [hi, decide_false, br_false]
      exact ⟨true, rfl, ⟨fun _ j hj hij => by omega, fun _ => rfl⟩⟩
theorem rr_is (k : Nat) (s : DSet) (hl : s.1.length = 16) (hk : 5000 < k) (hk2 : k < 1000000) : ∃ b, ref06_Right.f k s = some b ∧ (b = true ↔ Can s ∧ s.2.length ≤ 4096) := by
  obtain ⟨b, hb, hbi⟩ := rvr_is k s.1 hl (by omega)
  rw [ref06_Right.f_eq, hb]
  simp only [bnd_some]
  cases b with
  | false => exact ⟨false, rfl, ⟨fun h => (by cases h), fun h => hbi.2 h.1.vok⟩⟩
  | true =>
    have hv := hbi.1 rfl
    have e : bnot true = false := rfl
    have e2 : ilt 4096 (ilen s.2) = decide (4096 < s.2.length) := ilt_nat 4096 s.2
    rw [e, e2]
    simp only [br_false]
    by_cases h : 4096 < s.2.length
    · simp only [h, decide_true, br_true]
      exact ⟨false, rfl, ⟨fun h => (by cases h), fun h => by omega⟩⟩
    · simp only [h, decide_false, br_false]
      obtain ⟨b, hb, hbi⟩ := rr_l k s (by omega) hv k 0 (by omega) (by omega)
      exact ⟨b, hb, hbi.trans ⟨fun h2 => ⟨(can_iff hv).2 h2, by omega⟩, fun h2 => (can_iff hv).1 h2.1⟩⟩
end Go.Proofs.YtbdfcbhnjdlabaaGreat
end
section
/- Whether a set is right, how many dots there are, and the next one's number. -/
namespace Go.Proofs.YtbdfcbhnjdlabaaGreat
open Pal
theorem dr_l (k : Nat) (s : DSet) (hl : s.2.length < 1000000) (hv : VOk s.1) : ∀ (n i : Nat), i ≤ s.2.length → s.2.length < n + i → ∃ b, dots_Right.l4 (k + 3) n s.2 (ilen s.2) (i : Int) s = some b ∧ (b = true ↔ ∀ j (h : j < s.2.length), i ≤ j → okAt s j h)
  | 0, i, h, h' => by omega
  | n + 1, i, h, h' => by
    rw [dots_Right.l4_eq, ilt_nat, inL_nat, natOf_nat]
    by_cases hi : i < s.2.length
    · rw [rd_at' (e := tDot) hi, right_is, iadd_nat (by omega)]
      simp only [hi, decide_true, br_true, bnd_some]
      cases hr : rightD s.2[i] with
      | false =>
        have e : bnot false = true := rfl
        rw [e]
        exact ⟨false, rfl, ⟨fun h => (by cases h), fun h => by rw [(h i hi (Nat.le_refl _)).1] at hr; cases hr⟩⟩
      | true =>
        have e : bnot true = false := rfl
        obtain ⟨r0, r1, r2, r3⟩ := (rightD_iff s.2[i]).1 hr
        have hvv : rd (.int .i64) s.1 (natOf s.2[i].1) = vat s.1 s.2[i].1 := rfl
        have v0 := hv.lo s.2[i].1 r0 r1
        have v1 := hv.hi s.2[i].1 r0 r1
        rw [e, inB16 r0 r1, hvv, iadd_s (by omega) (by omega) (by omega) (by omega), ile_dec]
        simp only [br_true, br_false]
        by_cases hg : s.2[i].2 ≤ vat s.1 s.2[i].1 + 1
        · simp only [hg, decide_true, br_true]
          exact ⟨false, rfl, ⟨fun h => (by cases h), fun h => by have := (h i hi (Nat.le_refl _)).2.1; omega⟩⟩
        · simp only [hg, decide_false, br_false]
          obtain ⟨b, hb, hbi⟩ := dr_l k s hl hv n (i + 1) (by omega) (by omega)
          have step : (∀ h0 : 0 < i, dotLt (s.2[i - 1]'(by omega)) s.2[i] = true) → (b = true ↔ ∀ j (h : j < s.2.length), i ≤ j → okAt s j h) := fun hlt => hbi.trans ⟨fun h j hj hij => by
            by_cases he : j = i
            · subst he; exact ⟨hr, by omega, hlt⟩
            · exact h j hj (by omega), fun h j hj hij => h j hj (by omega)⟩
          by_cases h0 : 0 < i
          · have e2 : ilt 0 (i : Int) = true := by simp [ilt]; omega
            have e3 : isub .i64 (i : Int) 1 = ((i - 1 : Nat) : Int) := by rw [isub_s (by omega) (by omega) (by omega) (by omega)]; omega
            have hi1 : i - 1 < s.2.length := by omega
            have e4 : ∀ a b : Dot, ile 0 (cmpD a b) = !dotLt a b := fun a b => by
              show decide (0 ≤ cmpD a b) = !decide (cmpD a b < 0)
              by_cases h : cmpD a b < 0
              · rw [decide_eq_true h, decide_eq_false (by omega)]; rfl
              · rw [decide_eq_false h, decide_eq_true (by omega)]; rfl
            rw [e2, e3, inL_nat, natOf_nat, rd_at' (e := tDot) hi1, cmpD_is]
            simp only [hi1, decide_true, br_true, bnd_some, e4]
            cases hc : dotLt s.2[i - 1] s.2[i] with
            | true => exact ⟨b, hb, step fun _ => hc⟩
            | false => exact ⟨false, rfl, ⟨fun h => (by cases h), fun h => by have := (h i hi (Nat.le_refl _)).2.2 h0; rw [hc] at this; cases this⟩⟩
          · have e2 : ilt 0 (i : Int) = false := by simp [ilt]; omega
            rw [e2]
            exact ⟨b, hb, step fun h => absurd h h0⟩
    · simp only [hi, decide_false, br_false]
      exact ⟨true, rfl, ⟨fun _ j hj hij => by omega, fun _ => rfl⟩⟩
theorem dr_is (k : Nat) (s : DSet) (hl : s.1.length = 16) (hk : 5000 < k) (hk2 : k < 1000000) : ∃ b, dots_Right.f k s = some b ∧ (b = true ↔ Can s ∧ s.2.length ≤ 4096) := by
  obtain ⟨b, hb, hbi⟩ := vr_is k s.1 hl (by omega)
  rw [dots_Right.f_eq, hb]
  simp only [bnd_some]
  cases b with
  | false => exact ⟨false, rfl, ⟨fun h => (by cases h), fun h => hbi.2 h.1.vok⟩⟩
  | true =>
    have hv := hbi.1 rfl
    have e : bnot true = false := rfl
    have e2 : ilt 4096 (ilen s.2) = decide (4096 < s.2.length) := ilt_nat 4096 s.2
    rw [e, e2]
    simp only [br_false]
    by_cases h : 4096 < s.2.length
    · simp only [h, decide_true, br_true]
      exact ⟨false, rfl, ⟨fun h => (by cases h), fun h => by omega⟩⟩
    · simp only [h, decide_false, br_false]
      obtain ⟨q, rfl⟩ : ∃ q, k = q + 3 := ⟨k - 3, by omega⟩
      obtain ⟨b, hb, hbi⟩ := dr_l q s (by omega) hv (q + 3) 0 (by omega) (by omega)
      exact ⟨b, hb, hbi.trans ⟨fun h2 => ⟨(can_iff hv).2 h2, by omega⟩, fun h2 => (can_iff hv).1 h2.1⟩⟩
end Go.Proofs.YtbdfcbhnjdlabaaGreat
end
section
/- Unions, and what is within what. -/
namespace Go.Proofs.YtbdfcbhnjdlabaaGreat
open Pal
end Go.Proofs.YtbdfcbhnjdlabaaGreat
end
section
/- Readers: the program's and the document's read the same. -/
namespace Go.Proofs.YtbdfcbhnjdlabaaGreat
open Pal
abbrev Rdr := List UInt8 × Int
abbrev RefRdr := List UInt8 × (Int × Int)
structure RR (S : List UInt8) (r : Rdr) (x : RefRdr) : Prop where
  src : x.1 = S
  lo : 0 ≤ x.2.1
  hi : x.2.1 ≤ (S.length : Int)
  bad : r.2 = x.2.2
  rest : x.2.2 = 0 → r.1 = S.drop x.2.1.toNat
theorem fine_is (k : Nat) (o : Rdr) : pack_Reader_fine.f k o = some (decide (o.2 = 0), o) := by rw [pack_Reader_fine.f_eq, ieq_dec]
theorem fail_is (k : Nat) (e : Int) (o : Rdr) : pack_Reader_Fail.f k e o = some ((), if o.2 = 0 then (o.1, e) else o) := by
  rw [pack_Reader_Fail.f_eq, fine_is]
  simp only [bnd_some, br_dec]
  split <;> rfl
theorem byte_lt (b : UInt8) : b.toNat < 256 := b.toNat_lt
theorem byteAt_drop (S : List UInt8) (a i : Nat) : byteAt (S.drop a) (i : Int) = byteAt S ((a + i : Nat) : Int) := by
  unfold byteAt
  rw [Int.toNat_natCast, Int.toNat_natCast]
  simp [List.getD]
theorem byteAt_rng (S : List UInt8) (i : Int) : 0 ≤ byteAt S i ∧ byteAt S i < 256 := by
  unfold byteAt
  have := byte_lt (S.getD i.toNat 0); omega
theorem wrap64 {n : Int} (h1 : -9000000000000000000 ≤ n) (h2 : n ≤ 9000000000000000000) : IntKind.wrap .i64 n = n := by
  have e1 : ((2 : Int) ^ 63) = 9223372036854775808 := by decide
  exact wrap_i64 (by rw [e1]; omega) (by rw [e1]; omega)
theorem iand127 {c : Nat} (h : c < 9000000000000000000) : iand .i64 (c : Int) 127 = ((c % 128 : Nat) : Int) := by
  show IntKind.wrap .i64 (((BitVec.ofInt 64 (c : Int) &&& BitVec.ofInt 64 127).toNat : Nat) : Int) = _
  have e : (BitVec.ofInt 64 (c : Int) &&& BitVec.ofInt 64 127).toNat = c % 128 := by
    have e1 : BitVec.ofInt 64 (c : Int) = BitVec.ofNat 64 c := by simp
    have e2 : BitVec.ofInt 64 127 = BitVec.ofNat 64 127 := by decide
    rw [e1, e2, BitVec.toNat_and, BitVec.toNat_ofNat, BitVec.toNat_ofNat, Nat.mod_eq_of_lt (show c < 2 ^ 64 by omega), show 127 % 2 ^ 64 = 2 ^ 7 - 1 by decide, Nat.and_two_pow_sub_one_eq_mod]
  rw [e, wrap64 (by omega) (by omega)]
theorem ior_add {a b m : Nat} (ha : a < 2 ^ m) (hb : 2 ^ m * b + a < 9000000000000000000) : ior .i64 (a : Int) ((2 ^ m * b : Nat) : Int) = ((2 ^ m * b + a : Nat) : Int) := by
  show IntKind.wrap .i64 (((BitVec.ofInt 64 (a : Int) ||| BitVec.ofInt 64 ((2 ^ m * b : Nat) : Int)).toNat : Nat) : Int) = _
  have e : (BitVec.ofInt 64 (a : Int) ||| BitVec.ofInt 64 ((2 ^ m * b : Nat) : Int)).toNat = 2 ^ m * b + a := by
    have e1 : ∀ c : Nat, BitVec.ofInt 64 (c : Int) = BitVec.ofNat 64 c := fun c => by simp
    rw [e1, e1, BitVec.toNat_or, BitVec.toNat_ofNat, BitVec.toNat_ofNat, Nat.mod_eq_of_lt (show a < 2 ^ 64 by omega), Nat.mod_eq_of_lt (show 2 ^ m * b < 2 ^ 64 by omega), Nat.or_comm, Nat.two_pow_add_eq_or_of_lt ha]
  rw [e, wrap64 (by omega) (by omega)]
theorem pow_mono {i : Nat} (h : i ≤ 8) : 2 ^ (7 * i) ≤ 72057594037927936 := by
  have : 2 ^ (7 * i) ≤ 2 ^ 56 := Nat.pow_le_pow_right (by decide) (by omega)
  exact this
theorem pow_mono7 {i : Nat} (h : i < 8) : 2 ^ (7 * i) ≤ 562949953421312 := by
  have : 2 ^ (7 * i) ≤ 2 ^ 49 := Nat.pow_le_pow_right (by decide) (by omega)
  exact this
theorem num_step {i c n : Nat} (hi : i < 8) (hc : c < 256) (hn : n < 2 ^ (7 * i)) :
    ior .i64 (n : Int) (ishl .i64 (iand .i64 (c : Int) 127) (imul .i64 7 (i : Int))) = ((2 ^ (7 * i) * (c % 128) + n : Nat) : Int) ∧ 2 ^ (7 * i) * (c % 128) + n < 2 ^ (7 * (i + 1)) := by
  have hp := pow_mono7 hi
  have hp1 := pow_mono (show i + 1 ≤ 8 by omega)
  have e7 : 2 ^ (7 * (i + 1)) = 2 ^ (7 * i) * 128 := by rw [show 7 * (i + 1) = 7 * i + 7 by omega, Nat.pow_add]
  have hm : c % 128 ≤ 127 := by omega
  have hmul : 2 ^ (7 * i) * (c % 128) ≤ 2 ^ (7 * i) * 127 := Nat.mul_le_mul_left _ hm
  have hlt : 2 ^ (7 * i) * (c % 128) + n < 2 ^ (7 * (i + 1)) := by rw [e7]; omega
  refine ⟨?_, hlt⟩
  have e1 : imul .i64 7 (i : Int) = ((7 * i : Nat) : Int) := by
    show IntKind.wrap .i64 (7 * (i : Int)) = _
    rw [wrap64 (by omega) (by omega)]; omega
  have e2 : ishl .i64 ((c % 128 : Nat) : Int) ((7 * i : Nat) : Int) = ((2 ^ (7 * i) * (c % 128) : Nat) : Int) := by
    show IntKind.wrap .i64 (((c % 128 : Nat) : Int) * 2 ^ (min ((7 * i : Nat) : Int).toNat 64)) = _
    have : min ((7 * i : Nat) : Int).toNat 64 = 7 * i := by omega
    rw [this]
    have e3 : ((c % 128 : Nat) : Int) * 2 ^ (7 * i) = ((2 ^ (7 * i) * (c % 128) : Nat) : Int) := by
      rw [Int.natCast_mul, Int.natCast_pow, Int.mul_comm]; rfl
    rw [e3, wrap64 (by omega) (by omega)]
  rw [iand127 (by omega), e1, e2, ior_add hn (by omega)]
theorem ref_step {i c n : Nat} (hi : i < 8) (hc : c < 256) (hn : n < 2 ^ (7 * i)) (hc2 : 128 ≤ c) :
    iadd .i64 (n : Int) (imul .i64 (isub .i64 (c : Int) 128) ((2 ^ (7 * i) : Nat) : Int)) = ((2 ^ (7 * i) * (c % 128) + n : Nat) : Int) := by
  have hp := pow_mono7 hi
  have e1 : isub .i64 (c : Int) 128 = ((c % 128 : Nat) : Int) := by
    show IntKind.wrap .i64 ((c : Int) - 128) = _
    rw [wrap64 (by omega) (by omega)]; omega
  have hmul : (c % 128) * 2 ^ (7 * i) ≤ 127 * 2 ^ (7 * i) := Nat.mul_le_mul_right _ (by omega)
  have e2 : imul .i64 ((c % 128 : Nat) : Int) ((2 ^ (7 * i) : Nat) : Int) = (((c % 128) * 2 ^ (7 * i) : Nat) : Int) := by
    show IntKind.wrap .i64 (((c % 128 : Nat) : Int) * ((2 ^ (7 * i) : Nat) : Int)) = _
    rw [← Int.natCast_mul, wrap64 (by omega) (by omega)]
  rw [e1, e2]
  show IntKind.wrap .i64 ((n : Int) + (((c % 128) * 2 ^ (7 * i) : Nat) : Int)) = _
  rw [wrap64 (by omega) (by omega), Nat.mul_comm]; omega
theorem ref_last {i c n : Nat} (hi : i < 8) (hn : n < 2 ^ (7 * i)) (hc2 : c < 128) :
    iadd .i64 (n : Int) (imul .i64 (c : Int) ((2 ^ (7 * i) : Nat) : Int)) = ((2 ^ (7 * i) * (c % 128) + n : Nat) : Int) := by
  have hp := pow_mono7 hi
  have hmul : c * 2 ^ (7 * i) ≤ 127 * 2 ^ (7 * i) := Nat.mul_le_mul_right _ (by omega)
  have e2 : imul .i64 (c : Int) ((2 ^ (7 * i) : Nat) : Int) = ((c * 2 ^ (7 * i) : Nat) : Int) := by
    show IntKind.wrap .i64 ((c : Int) * ((2 ^ (7 * i) : Nat) : Int)) = _
    rw [← Int.natCast_mul, wrap64 (by omega) (by omega)]
  rw [e2, Nat.mod_eq_of_lt (show c < 128 by omega)]
  show IntKind.wrap .i64 ((n : Int) + ((c * 2 ^ (7 * i) : Nat) : Int)) = _
  rw [wrap64 (by omega) (by omega), Nat.mul_comm]; omega
theorem unit_step {i : Nat} (hi : i < 8) : imul .i64 ((2 ^ (7 * i) : Nat) : Int) 128 = ((2 ^ (7 * (i + 1)) : Nat) : Int) := by
  have hp := pow_mono7 hi
  have e7 : 2 ^ (7 * (i + 1)) = 2 ^ (7 * i) * 128 := by rw [show 7 * (i + 1) = 7 * i + 7 by omega, Nat.pow_add]
  show IntKind.wrap .i64 (((2 ^ (7 * i) : Nat) : Int) * 128) = _
  rw [wrap64 (by omega) (by omega), e7]; omega
theorem rr_bad {S s : List UInt8} {a : Nat} {e : Int} (h : a ≤ S.length) (he : e ≠ 0) : RR S (s, e) (S, ((a : Int), e)) :=
  ⟨rfl, by show (0 : Int) ≤ (a : Int); omega, by show (a : Int) ≤ (S.length : Int); omega, rfl, fun hh => absurd hh he⟩
def IntOK (S : List UInt8) (p : Option (Int × Rdr)) (q : Option (Int × RefRdr)) : Prop :=
  ∃ n r x, p = some (n, r) ∧ q = some (n, x) ∧ RR S r x ∧ 0 ≤ n ∧ n < 72057594037927936 ∧ (x.2.2 ≠ 0 → n = 0)
theorem int_bad (k m : Nat) (a b : Int) (s : List UInt8) (e : Int) (he : e ≠ 0) : pack_Reader_Int.l3 k (m + 1) a b (s, e) = some (0, (s, e)) := by
  rw [pack_Reader_Int.l3_eq, fine_is]
  simp only [bnd_some, he, decide_false, br_false]
theorem int_fin {S : List UInt8} {a i : Nat} (hl : a + i < S.length) (hS : S.length < 4000000) {v : Int} (h0 : 0 ≤ v) (h1 : v < 72057594037927936) :
    IntOK S (br (inS ((i + 1 : Nat) : Int) (ilen (S.drop a)) (ilen (S.drop a))) (some (v, ((piece (S.drop a) ((i + 1 : Nat) : Int) (ilen (S.drop a))), (0 : Int)))) none) (some (v, (S, ((iadd .i64 ((a + i : Nat) : Int) 1), (0 : Int))))) := by
  have hin : inS ((i + 1 : Nat) : Int) (ilen (S.drop a)) (ilen (S.drop a)) = true := by
    have q1 : ((i + 1 : Nat) : Int) ≤ ((S.drop a).length : Int) := by rw [List.length_drop]; omega
    show (decide ((0 : Int) ≤ ((i + 1 : Nat) : Int)) && decide (((i + 1 : Nat) : Int) ≤ ((S.drop a).length : Int)) && decide (((S.drop a).length : Int) ≤ ((S.drop a).length : Int))) = true
    rw [decide_eq_true q1, decide_eq_true (show (0 : Int) ≤ ((i + 1 : Nat) : Int) by omega), decide_eq_true (Int.le_refl _)]; rfl
  rw [hin, iadd_nat (by omega)]
  refine ⟨_, _, _, rfl, rfl, ⟨rfl, by show (0 : Int) ≤ ((a + i + 1 : Nat) : Int); omega, by show ((a + i + 1 : Nat) : Int) ≤ (S.length : Int); omega, rfl, fun _ => ?_⟩, h0, h1, fun h => absurd rfl h⟩
  show piece (S.drop a) ((i + 1 : Nat) : Int) (ilen (S.drop a)) = S.drop ((a + i + 1 : Nat) : Int).toNat
  unfold piece ilen
  rw [Int.toNat_natCast, Int.toNat_natCast, Int.toNat_natCast, List.take_length, List.drop_drop]
  congr 1
theorem int_end (k : Nat) (S : List UInt8) (a : Nat) (ha : a ≤ S.length) (n u : Int) (m1 m2 : Nat) :
    IntOK S (pack_Reader_Int.l3 k (m1 + 2) n ((8 : Nat) : Int) (S.drop a, 0)) (ref02_Reader_Int.l5 k (m2 + 1) n u ((8 : Nat) : Int) (S, ((a : Int), 0))) := by
    rw [pack_Reader_Int.l3_eq, ref02_Reader_Int.l5_eq, fine_is]
    have e1 : ieq ((8 : Nat) : Int) 8 = true := rfl
    have e2 : ilt ((8 : Nat) : Int) 8 = false := rfl
    simp only [bnd_some, decide_true, br_true, e1, e2, br_false, fail_is, if_true]
    rw [int_bad k m1 _ _ _ 6 (by decide)]
    exact ⟨0, _, _, rfl, rfl, rr_bad ha (by decide), by decide, by decide, fun _ => rfl⟩
theorem int_step (k : Nat) (S : List UInt8) (a : Nat) (ha : a ≤ S.length) (hS : S.length < 4000000) (i n m1 m2 : Nat) (hi8 : i < 8) (hn : n < 2 ^ (7 * i))
    (ih : ∀ v : Nat, v < 2 ^ (7 * (i + 1)) → IntOK S (pack_Reader_Int.l3 k (m1 + 1) (v : Int) ((i + 1 : Nat) : Int) (S.drop a, 0)) (ref02_Reader_Int.l5 k m2 (v : Int) ((2 ^ (7 * (i + 1)) : Nat) : Int) ((i + 1 : Nat) : Int) (S, ((a : Int), 0)))) :
    IntOK S (pack_Reader_Int.l3 k (m1 + 2) (n : Int) (i : Int) (S.drop a, 0)) (ref02_Reader_Int.l5 k (m2 + 1) (n : Int) ((2 ^ (7 * i) : Nat) : Int) (i : Int) (S, ((a : Int), 0))) := by
    rw [pack_Reader_Int.l3_eq, ref02_Reader_Int.l5_eq, fine_is]
    have e1 : ieq (i : Int) 8 = false := by rw [ieq_dec]; exact decide_eq_false (by omega)
    have e2 : ilt (i : Int) 8 = true := decide_eq_true (by omega)
    have e3 : iadd .i64 (a : Int) (i : Int) = ((a + i : Nat) : Int) := by rw [iadd_s (by omega) (by omega) (by omega) (by omega)]; omega
    have e4 : ile (ilen (S.drop a)) (i : Int) = decide (S.length ≤ a + i) := by
      unfold ile ilen; rw [List.length_drop]; exact decide_eq_decide.2 ⟨fun h => by omega, fun h => by omega⟩
    have e5 : ile (ilen S) ((a + i : Nat) : Int) = decide (S.length ≤ a + i) := by
      unfold ile ilen; exact decide_eq_decide.2 ⟨fun h => by omega, fun h => by omega⟩
    have e6 : inL (i : Int) (S.drop a) = decide (a + i < S.length) := by
      rw [inL_nat, List.length_drop]; exact decide_eq_decide.2 ⟨fun h => by omega, fun h => by omega⟩
    have e8' : inL ((a + i : Nat) : Int) S = decide (a + i < S.length) := inL_nat _ _
    have e7 : ilt (imul .i64 7 (i : Int)) 0 = false := by
      show decide (IntKind.wrap .i64 (7 * (i : Int)) < 0) = false
      rw [wrap64 (by omega) (by omega)]; exact decide_eq_false (by omega)
    simp only [bnd_some, decide_true, br_true, e1, e2, br_false, fail_is, if_true, e3, e4, e5, e6, e7, e8', byteAt_drop]
    by_cases hl : S.length ≤ a + i
    · simp only [hl, decide_true, br_true]
      rw [int_bad k m1 _ _ _ 4 (by decide)]
      exact ⟨0, _, _, rfl, rfl, rr_bad ha (by decide), by decide, by decide, fun _ => rfl⟩
    · have hl2 : a + i < S.length := by omega
      simp only [hl, hl2, decide_true, decide_false, br_true, br_false]
      have hcr := byteAt_rng S ((a + i : Nat) : Int)
      obtain ⟨c, hc⟩ : ∃ c : Nat, byteAt S ((a + i : Nat) : Int) = (c : Int) := ⟨(byteAt S ((a + i : Nat) : Int)).toNat, by omega⟩
      rw [hc] at hcr ⊢
      have hw : iwrap .i64 (c : Int) = (c : Int) := wrap64 (by omega) (by omega)
      have hc256 : c < 256 := by omega
      obtain ⟨g1, g2⟩ := num_step (c := c) hi8 hc256 hn
      have e12 : iadd .i64 (i : Int) 1 = ((i + 1 : Nat) : Int) := iadd_nat (by omega)
      rw [hw, g1, e12]
      have e8 : ile 128 (c : Int) = decide (128 ≤ c) := by unfold ile; exact decide_eq_decide.2 ⟨fun h => by omega, fun h => by omega⟩
      have e9 : ilt (c : Int) 128 = decide (c < 128) := by unfold ilt; exact decide_eq_decide.2 ⟨fun h => by omega, fun h => by omega⟩
      have e10 : ieq (c : Int) 0 = decide (c = 0) := by rw [ieq_dec]; exact decide_eq_decide.2 ⟨fun h => by omega, fun h => by omega⟩
      have e11 : ilt 0 (i : Int) = decide (0 < i) := ilt_nn 0 i
      rw [e8, e9, e10, e11]
      by_cases hc2 : 128 ≤ c
      · have hc3 : ¬ c < 128 := by omega
        rw [decide_eq_true hc2, decide_eq_false hc3, br_true, br_false]
        rw [ref_step hi8 hc256 hn hc2, unit_step hi8]
        exact ih _ g2
      · have hc3 : c < 128 := by omega
        rw [decide_eq_false hc2, decide_eq_true hc3, br_false, br_true]
        rw [ref_last hi8 hn hc3]
        have hp1 := pow_mono (show i + 1 ≤ 8 by omega)
        obtain ⟨v, hv⟩ : ∃ v : Int, v = ((2 ^ (7 * i) * (c % 128) + n : Nat) : Int) := ⟨_, rfl⟩
        have v0 : 0 ≤ v := by omega
        have v1 : v < 72057594037927936 := by omega
        rw [← hv]
        have fin := int_fin hl2 hS v0 v1
        by_cases hc0 : c = 0
        · simp only [hc0, decide_true, br_true]
          by_cases h0 : 0 < i
          · simp only [h0, decide_true, br_true]
            rw [int_bad k m1 _ _ _ 3 (by decide)]
            exact ⟨0, _, _, rfl, rfl, rr_bad ha (by decide), by decide, by decide, fun _ => rfl⟩
          · simp only [h0, decide_false, br_false]
            exact fin
        · simp only [hc0, decide_false, br_false]
          exact fin
theorem int_l (k : Nat) (S : List UInt8) (a : Nat) (ha : a ≤ S.length) (hS : S.length < 4000000) (m : Nat) : ∀ (i n m1 m2 : Nat), i + m = 8 → m + 2 ≤ m1 → m + 1 ≤ m2 → n < 2 ^ (7 * i) →
    IntOK S (pack_Reader_Int.l3 k m1 (n : Int) (i : Int) (S.drop a, 0)) (ref02_Reader_Int.l5 k m2 (n : Int) ((2 ^ (7 * i) : Nat) : Int) (i : Int) (S, ((a : Int), 0))) := by
  induction m with
  | zero =>
    intro i n m1 m2 hi h1 h2 hn
    obtain ⟨q1, rfl⟩ : ∃ q, m1 = q + 2 := ⟨m1 - 2, by omega⟩
    obtain ⟨q2, rfl⟩ : ∃ q, m2 = q + 1 := ⟨m2 - 1, by omega⟩
    have : i = 8 := by omega
    subst this
    exact int_end k S a ha _ _ q1 q2
  | succ m ih =>
    intro i n m1 m2 hi h1 h2 hn
    obtain ⟨q1, rfl⟩ : ∃ q, m1 = q + 2 := ⟨m1 - 2, by omega⟩
    obtain ⟨q2, rfl⟩ : ∃ q, m2 = q + 1 := ⟨m2 - 1, by omega⟩
    exact int_step k S a ha hS i n q1 q2 (by omega) hn fun v hv => ih (i + 1) v (q1 + 1) q2 (by omega) (by omega) (by omega) hv
theorem int_is (k : Nat) (S : List UInt8) (r : Rdr) (x : RefRdr) (h : RR S r x) (hS : S.length < 4000000) (hk : 12 < k) : IntOK S (pack_Reader_Int.f k r) (ref02_Reader_Int.f k x) := by
  obtain ⟨s, b⟩ := r
  obtain ⟨S', a, e⟩ := x
  obtain ⟨h1, h2, h3, h4, h5⟩ := h
  simp only at h1 h2 h3 h4 h5
  subst h1; subst h4
  rw [pack_Reader_Int.f_eq, ref02_Reader_Int.f_eq, ieq_dec, bnot_dec]
  by_cases hb : b = 0
  · subst hb
    simp only [not_true, decide_false, br_false]
    rw [h5 rfl]
    obtain ⟨A, hA⟩ : ∃ A : Nat, a = (A : Int) := ⟨a.toNat, by omega⟩
    subst hA
    have := int_l k S' A (by omega) hS 8 0 0 k k (by omega) (by omega) (by omega) (by decide)
    exact this
  · simp only [hb, not_false_eq_true, decide_true, br_true]
    obtain ⟨m, rfl⟩ : ∃ m, k = m + 1 := ⟨k - 1, by omega⟩
    rw [int_bad (m + 1) m _ _ _ b hb]
    exact ⟨0, _, _, rfl, rfl, ⟨rfl, h2, h3, rfl, fun h => absurd h hb⟩, by decide, by decide, fun _ => rfl⟩
theorem many_is (k : Nat) (S : List UInt8) (most : Int) (r : Rdr) (x : RefRdr) (h : RR S r x) (hS : S.length < 4000000) (hk : 12 < k) : ∃ (n : Int) (r' : Rdr) (x' : RefRdr), pack_Reader_Many.f k most r = some (n, r') ∧ ref02_Reader_Many.f k most x = some (n, x') ∧ RR S r' x' ∧ 0 ≤ n ∧ n ≤ (S.length : Int) ∧ (n ≠ 0 → n ≤ most) := by
  obtain ⟨n, r1, x1, e1, e2, hr, n0, n1, nb⟩ := int_is k S r x h hS hk
  rw [pack_Reader_Many.f_eq, ref02_Reader_Many.f_eq, e1, e2]
  simp only [bnd_some, fine_is, fail_is, ieq_dec, bnot_dec, br_dec, ilt_dec]
  obtain ⟨s1, b1⟩ := r1
  obtain ⟨S1, a1, e3⟩ := x1
  obtain ⟨q1, q2, q3, q4, q5⟩ := hr
  simp only at q1 q2 q3 q4 q5 nb ⊢
  subst q1; subst q4
  by_cases hb : b1 = 0
  · subst hb
    have hl : (s1.length : Int) = (S1.length : Int) - a1 := by rw [q5 rfl, List.length_drop]; omega
    have hsub : isub .i64 (ilen S1) a1 = (S1.length : Int) - a1 := by unfold ilen; exact isub_s (by omega) (by omega) (by omega) (by omega)
    have hlen : ilen s1 = (S1.length : Int) - a1 := hl
    simp only [hsub, hlen, not_true, if_false, if_true]
    by_cases c1 : most < n
    · rw [if_pos c1, if_pos c1]
      exact ⟨0, _, _, rfl, rfl, ⟨rfl, q2, q3, rfl, fun h => by cases h⟩, by omega, by omega, fun h => absurd rfl h⟩
    · rw [if_neg c1, if_neg c1]
      by_cases c2 : (S1.length : Int) - a1 < n
      · rw [if_pos c2, if_pos c2]
        exact ⟨0, _, _, rfl, rfl, ⟨rfl, q2, q3, rfl, fun h => by cases h⟩, by omega, by omega, fun h => absurd rfl h⟩
      · rw [if_neg c2, if_neg c2]
        exact ⟨n, _, _, rfl, rfl, ⟨rfl, q2, q3, rfl, q5⟩, n0, by omega, fun _ => by omega⟩
  · simp only [hb, not_false_eq_true, if_true, if_false]
    exact ⟨0, _, _, rfl, rfl, ⟨rfl, q2, q3, rfl, q5⟩, by omega, by omega, fun h => absurd rfl h⟩
theorem fault_is (k : Nat) (r : Rdr) : pack_Reader_Fault.f k r = some (r.2, r) := pack_Reader_Fault.f_eq k r
theorem left_is (k : Nat) (S : List UInt8) (r : Rdr) (x : RefRdr) (h : RR S r x) (hS : S.length < 4000000) : ∃ n, pack_Reader_Left.f k r = some (n, r) ∧ ref02_Reader_Left.f k x = some (n, x) := by
  rw [pack_Reader_Left.f_eq, ref02_Reader_Left.f_eq, fine_is]
  obtain ⟨s1, b1⟩ := r
  obtain ⟨S1, a1, e3⟩ := x
  obtain ⟨q1, q2, q3, q4, q5⟩ := h
  simp only at q1 q2 q3 q4 q5 ⊢
  subst q1; subst q4
  simp only [bnd_some, ieq_dec, bnot_dec, br_dec]
  by_cases hb : b1 = 0
  · subst hb
    refine ⟨ilen s1, by simp, ?_⟩
    have hsub : isub .i64 (ilen S1) a1 = ilen s1 := by unfold ilen; rw [isub_s (by omega) (by omega) (by omega) (by omega), q5 rfl, List.length_drop]; omega
    simp [hsub]
  · exact ⟨0, by simp [hb], by simp [hb]⟩
theorem open_rr (S : List UInt8) : RR S (S, 0) (S, (0, 0)) := ⟨rfl, Int.le_refl _, by show (0 : Int) ≤ _; omega, rfl, fun _ => rfl⟩
theorem RR.fail {S : List UInt8} {r : Rdr} {x : RefRdr} (h : RR S r x) {e : Int} (he : e ≠ 0) (hb : x.2.2 = 0) : RR S (r.1, e) (x.1, (x.2.1, e)) := ⟨h.src, h.lo, h.hi, rfl, fun hh => absurd hh he⟩
end Go.Proofs.YtbdfcbhnjdlabaaGreat
end
section
/- What is told as bytes is read again: numbers. -/
namespace Go.Proofs.YtbdfcbhnjdlabaaGreat
open Pal
theorem bk_byte {s r : List UInt8} {i : Nat} {b : UInt8} (h : s.drop i = b :: r) : i < s.length ∧ byteAt s (i : Int) = ((b.toNat : Nat) : Int) ∧ s.drop (i + 1) = r := by
  have hl : i < s.length := by
    rcases Nat.lt_or_ge i s.length with h1 | h1
    · exact h1
    · rw [List.drop_eq_nil_of_le h1] at h; cases h
  rw [List.drop_eq_getElem_cons hl] at h
  injection h with h1 h2
  refine ⟨hl, ?_, h2⟩
  unfold byteAt
  rw [Int.toNat_natCast, List.getD_eq_getElem?_getD, List.getElem?_eq_getElem hl, h1]; rfl
theorem back_l (k : Nat) (s t : List UInt8) (hS : s.length < 4000000) : ∀ (j i v n m : Nat), i + j = 8 → j + 1 ≤ m → n < 2 ^ (7 * j) → (0 < i → 0 < n) → v < 2 ^ (7 * i) → s.drop i = packB n ++ t →
    pack_Reader_Int.l3 k m (v : Int) (i : Int) (s, 0) = some (((2 ^ (7 * i) * n + v : Nat) : Int), (t, 0))
  | 0, i, v, n, m, hj, _, hn, hp, _, _ => by
    have h0 : n < 1 := hn
    have := hp (by omega); omega
  | j + 1, i, v, n, 0, hj, hm, _, _, _, _ => by omega
  | j + 1, i, v, n, m + 1, hj, hm, hn, hp, hv, hd => by
    have hi8 : i < 8 := by omega
    have e1 : ieq (i : Int) 8 = false := by rw [ieq_dec]; exact decide_eq_false (by omega)
    have e7 : ilt (imul .i64 7 (i : Int)) 0 = false := by
      show decide (IntKind.wrap .i64 (7 * (i : Int)) < 0) = false
      rw [wrap64 (by omega) (by omega)]; exact decide_eq_false (by omega)
    have e12 : iadd .i64 (i : Int) 1 = ((i + 1 : Nat) : Int) := iadd_nat (by omega)
    obtain ⟨c, b, r, hb, hc, hcb, hc256⟩ : ∃ (c : Nat) (b : UInt8) (r : List UInt8), packB n ++ t = b :: r ∧ b.toNat = c ∧ (if n < 128 then c = n ∧ r = t else c = n % 128 + 128 ∧ r = packB (n / 128) ++ t) ∧ c < 256 := by
      by_cases h : n < 128
      · refine ⟨n, UInt8.ofNat n, t, by rw [packB_lo h]; rfl, ?_, by rw [if_pos h]; exact ⟨rfl, rfl⟩, by omega⟩
        rw [UInt8.toNat_ofNat']; omega
      · refine ⟨n % 128 + 128, UInt8.ofNat (n % 128 + 128), packB (n / 128) ++ t, by rw [packB_hi h]; rfl, ?_, by rw [if_neg h]; exact ⟨rfl, rfl⟩, by omega⟩
        rw [UInt8.toNat_ofNat']; omega
    rw [hb] at hd
    obtain ⟨hl, hby, hdr⟩ := bk_byte hd
    rw [hc] at hby
    have e4 : ile (ilen s) (i : Int) = false := by unfold ile ilen; exact decide_eq_false (by omega)
    have e6 : inL (i : Int) s = true := by rw [inL_nat]; exact decide_eq_true hl
    have hw : iwrap .i64 (c : Int) = (c : Int) := wrap64 (by omega) (by omega)
    obtain ⟨g1, g2⟩ := num_step (c := c) hi8 hc256 hv
    have e8 : ile 128 (c : Int) = decide (128 ≤ c) := by unfold ile; exact decide_eq_decide.2 ⟨fun h => by omega, fun h => by omega⟩
    have e10 : ieq (c : Int) 0 = decide (c = 0) := by rw [ieq_dec]; exact decide_eq_decide.2 ⟨fun h => by omega, fun h => by omega⟩
    have e11 : ilt 0 (i : Int) = decide (0 < i) := ilt_nn 0 i
    rw [pack_Reader_Int.l3_eq, fine_is]
    simp only [bnd_some, decide_true, br_true, e1, br_false, e4, e6, e7, hby, hw, e8, e10, e11, g1, e12]
    by_cases h : n < 128
    · rw [if_pos h] at hcb
      obtain ⟨hcn, hr⟩ := hcb
      have hcm : c % 128 = n := by omega
      have hc2 : ¬ 128 ≤ c := by omega
      rw [decide_eq_false hc2, br_false, hcm]
      have hin : inS ((i + 1 : Nat) : Int) (ilen s) (ilen s) = true := by
        have q1 : ((i + 1 : Nat) : Int) ≤ (s.length : Int) := by omega
        show (decide ((0 : Int) ≤ ((i + 1 : Nat) : Int)) && decide (((i + 1 : Nat) : Int) ≤ (s.length : Int)) && decide ((s.length : Int) ≤ (s.length : Int))) = true
        rw [decide_eq_true q1, decide_eq_true (show (0 : Int) ≤ ((i + 1 : Nat) : Int) by omega), decide_eq_true (Int.le_refl _)]; rfl
      have hpc : piece s ((i + 1 : Nat) : Int) (ilen s) = t := by
        unfold piece ilen
        rw [Int.toNat_natCast, Int.toNat_natCast, List.take_length, hdr, hr]
      rw [hin, hpc, br_true]
      by_cases hc0 : c = 0
      · have h0 : ¬ 0 < i := fun h => by have := hp h; omega
        rw [decide_eq_true hc0, decide_eq_false h0]; rfl
      · rw [decide_eq_false hc0]; rfl
    · rw [if_neg h] at hcb
      obtain ⟨hcn, hr⟩ := hcb
      have hcm : c % 128 = n % 128 := by omega
      have hc2 : 128 ≤ c := by omega
      rw [decide_eq_true hc2, br_true, hcm]
      rw [hcm] at g2
      have e2 : 2 ^ (7 * (j + 1)) = 2 ^ (7 * j) * 128 := by rw [show 7 * (j + 1) = 7 * j + 7 by omega, Nat.pow_add]
      have e3 : 2 ^ (7 * (i + 1)) = 2 ^ (7 * i) * 128 := by rw [show 7 * (i + 1) = 7 * i + 7 by omega, Nat.pow_add]
      rw [back_l k s t hS j (i + 1) _ (n / 128) m (by omega) (by omega) (by rw [e2] at hn; omega) (fun _ => by omega) g2 (by rw [hdr, hr])]
      have e5 : 2 ^ (7 * (i + 1)) * (n / 128) + (2 ^ (7 * i) * (n % 128) + v) = 2 ^ (7 * i) * n + v := by
        have e9 : 2 ^ (7 * i) * n = 2 ^ (7 * i) * (128 * (n / 128) + n % 128) := by rw [Nat.div_add_mod]
        rw [e3, e9, Nat.mul_add, Nat.mul_assoc]; omega
      rw [e5]
theorem back_int (k n : Nat) (t : List UInt8) (hk : 12 < k) (hn : n < 72057594037927936) (hS : (packB n ++ t).length < 4000000) : pack_Reader_Int.f k (packB n ++ t, 0) = some ((n : Int), (t, 0)) := by
  rw [pack_Reader_Int.f_eq]
  have := back_l k (packB n ++ t) t hS 8 0 0 n k (by omega) (by omega) (by show n < 2 ^ 56; exact hn) (fun h => by omega) (by decide) rfl
  simpa using this
end Go.Proofs.YtbdfcbhnjdlabaaGreat
end
section
/- Dots, vectors, rows of dots and sets: the program and the document read the same. -/
namespace Go.Proofs.YtbdfcbhnjdlabaaGreat
open Pal
theorem dotread_is (k : Nat) (S : List UInt8) (r : Rdr) (x : RefRdr) (h : RR S r x) (hS : S.length < 4000000) (hk : 12 < k) :
    ∃ (d : Dot) (r' : Rdr) (x' : RefRdr), dot_Read.f k r = some (d, r') ∧ ref04_Read.f k x = some (d, x') ∧ RR S r' x' ∧ (x'.2.2 = 0 → rightD d = true) := by
  obtain ⟨a, r1, x1, e1, e2, h1, _, _, _⟩ := int_is k S r x h hS hk
  obtain ⟨b, r2, x2, e3, e4, h2, _, _, _⟩ := int_is k S r1 x1 h1 hS hk
  rw [dot_Read.f_eq, ref04_Read.f_eq, e1, e2]
  simp only [bnd_some, e3, e4, fault_is, fail_is, ieq_dec, bnot_dec, br_dec, right_is, rright_is]
  obtain ⟨s2, b2⟩ := r2
  obtain ⟨S2, a2, c2⟩ := x2
  have hb : b2 = c2 := h2.bad
  subst hb
  by_cases hz : b2 = 0
  · subst hz
    simp only [if_true]
    cases hr : rightD (a, b) with
    | true =>
      have e : bnot true = false := rfl
      simp only [e, br_false, not_true, if_false]
      exact ⟨(a, b), _, _, rfl, rfl, h2, fun _ => hr⟩
    | false =>
      have e : bnot false = true := rfl
      simp only [e, br_true]
      exact ⟨(0, 0), _, _, rfl, rfl, h2.fail (e := 2) (by decide) rfl, fun hh => by cases hh⟩
  · simp only [hz, not_false_eq_true, if_true, if_false]
    exact ⟨(0, 0), _, _, rfl, rfl, h2, fun hh => absurd hh hz⟩
theorem upd_len {v : Vec} {i : Nat} {x : Int} : (upd v i x).length = v.length := by simp [upd]
theorem vread_l (k : Nat) (S : List UInt8) (hS : S.length < 4000000) (hk : 17 < k) (za zb : Vec) : ∀ (n i : Nat) (v : Vec) (r : Rdr) (x : RefRdr), i ≤ 16 → 16 < n + i → v.length = 16 → RR S r x →
    ∃ (v' : Vec) (r' : Rdr) (x' : RefRdr), vec_Read.l3 k n (i : Int) za v r = some (v', r') ∧ ref05_Read.l3 k n (i : Int) zb v x = some (v', x') ∧ RR S r' x' ∧ v'.length = 16 ∧ (x'.2.2 = 0 → VOk v')
  | 0, i, _, _, _, h, h', _, _ => by omega
  | n + 1, i, v, r, x, h, h', hv, hr => by
    rw [vec_Read.l3_eq, ref05_Read.l3_eq]
    have e1 : ilt (i : Int) 16 = decide (i < 16) := ilt_nn i 16
    rw [e1, inB_nat]
    by_cases hi : i < 16
    · obtain ⟨a, r1, x1, e2, e3, h1, _, _, _⟩ := int_is k S r x hr hS (by omega)
      have e4 : iadd .i64 (i : Int) 1 = ((i + 1 : Nat) : Int) := iadd_nat (by omega)
      rw [decide_eq_true hi, e2, e3, e4]
      simp only [br_true, bnd_some]
      exact vread_l k S hS hk za zb n (i + 1) _ r1 x1 (by omega) (by omega) (by rw [upd_len]; exact hv) h1
    · rw [decide_eq_false hi]
      obtain ⟨b1, g1, i1⟩ := vr_is k v hv hk
      obtain ⟨b2, g2, i2⟩ := rvr_is k v hv hk
      have hbb : b1 = b2 := by rw [Bool.eq_iff_iff, i1, i2]
      subst hbb
      simp only [br_false, bnd_some, g1, g2, fault_is, fail_is, ieq_dec, bnot_dec, br_dec]
      obtain ⟨s2, c1⟩ := r
      obtain ⟨S2, a2, c2⟩ := x
      have hb : c1 = c2 := hr.bad
      subst hb
      by_cases hz : c1 = 0
      · subst hz
        simp only [if_true]
        cases b1 with
        | true =>
          have e : bnot true = false := rfl
          simp only [e, br_false, not_true, if_false]
          exact ⟨v, _, _, rfl, rfl, hr, hv, fun _ => i1.1 rfl⟩
        | false =>
          have e : bnot false = true := rfl
          simp only [e, br_true]
          exact ⟨zarr 16 0, _, _, rfl, rfl, hr.fail (e := 2) (by decide) rfl, rfl, fun hh => by cases hh⟩
      · simp only [hz, not_false_eq_true, if_true, if_false]
        exact ⟨zarr 16 0, _, _, rfl, rfl, hr, rfl, fun hh => absurd hh hz⟩
theorem vread_is (k : Nat) (S : List UInt8) (r : Rdr) (x : RefRdr) (h : RR S r x) (hS : S.length < 4000000) (hk : 17 < k) :
    ∃ (v' : Vec) (r' : Rdr) (x' : RefRdr), vec_Read.f k r = some (v', r') ∧ ref05_Read.f k x = some (v', x') ∧ RR S r' x' ∧ v'.length = 16 ∧ (x'.2.2 = 0 → VOk v') := by
  rw [vec_Read.f_eq, ref05_Read.f_eq]
  exact vread_l k S hS hk _ _ k 0 (zarr 16 0) r x (by omega) (by omega) rfl h
theorem lread_l (k : Nat) (S : List UInt8) (hS : S.length < 1000000) (hk : 12 < k) (N : Nat) (hN : N ≤ S.length) : ∀ (n i : Nat) (l : List Dot) (r : Rdr) (x : RefRdr), i ≤ N → N < n + i → l.length = i → RR S r x →
    ∃ (l' : List Dot) (r' : Rdr) (x' : RefRdr), dots_ReadList.l3 k n l (N : Int) (i : Int) r = some (l', r') ∧ ref06_ReadList.l4 k n (N : Int) l (i : Int) x = some (l', x') ∧ RR S r' x' ∧ l'.length ≤ N
  | 0, i, _, _, _, h, h', _, _ => by omega
  | n + 1, i, l, r, x, h, h', hl, hr => by
    rw [dots_ReadList.l3_eq, ref06_ReadList.l4_eq, ilt_nn]
    by_cases hi : i < N
    · obtain ⟨d, r1, x1, e1, e2, h1, _⟩ := dotread_is k S r x hr (by omega) hk
      have e4 : iadd .i64 (i : Int) 1 = ((i + 1 : Nat) : Int) := iadd_nat (by omega)
      rw [decide_eq_true hi, e1, e2, e4]
      simp only [br_true, bnd_some, room1 (show l.length < 4000000 by omega)]
      exact lread_l k S hS hk N hN n (i + 1) _ r1 x1 (by omega) (by omega) (by simp [app, hl]) h1
    · rw [decide_eq_false hi]
      simp only [br_false, bnd_some, fault_is, ieq_dec, bnot_dec, br_dec]
      have hb : r.2 = x.2.2 := hr.bad
      rw [hb]
      by_cases hz : x.2.2 = 0
      · simp only [hz, not_true, if_false]
        exact ⟨l, _, _, rfl, rfl, hr, by omega⟩
      · simp only [hz, not_false_eq_true, if_true]
        exact ⟨[], _, _, rfl, rfl, hr, by simp⟩
theorem lread_is (k : Nat) (S : List UInt8) (most : Int) (r : Rdr) (x : RefRdr) (h : RR S r x) (hS : S.length < 1000000) (hk : 12 < k) (hk2 : S.length < k) :
    ∃ (l : List Dot) (r' : Rdr) (x' : RefRdr), dots_ReadList.f k most r = some (l, r') ∧ ref06_ReadList.f k most x = some (l, x') ∧ RR S r' x' ∧ l.length ≤ S.length ∧ (l ≠ [] → (l.length : Int) ≤ most) := by
  obtain ⟨n, r1, x1, e1, e2, h1, n0, n1, nm⟩ := many_is k S most r x h (by omega) hk
  rw [dots_ReadList.f_eq, ref06_ReadList.f_eq, e1, e2]
  simp only [bnd_some]
  obtain ⟨N, rfl⟩ : ∃ N : Nat, n = (N : Int) := ⟨n.toNat, by omega⟩
  obtain ⟨l, r', x', g1, g2, g3, g4⟩ := lread_l k S hS hk N (by omega) k 0 [] r1 x1 (by omega) (by omega) rfl h1
  refine ⟨l, r', x', g1, g2, g3, by omega, fun hne => ?_⟩
  have hpos : 0 < l.length := List.length_pos_iff.2 hne
  have := nm (by omega)
  omega
theorem dread_is (k : Nat) (S : List UInt8) (r : Rdr) (x : RefRdr) (h : RR S r x) (hS : S.length < 5000) (hk : 5000 < k) (hk2 : k < 1000000) :
    ∃ (s : DSet) (r' : Rdr) (x' : RefRdr), dots_Read.f k r = some (s, r') ∧ ref06_Read.f k x = some (s, x') ∧ RR S r' x' ∧ s.2.length ≤ S.length ∧ s.1.length = 16 ∧ (x'.2.2 = 0 → Can s) := by
  obtain ⟨v, r1, x1, e1, e2, h1, hv, hvo⟩ := vread_is k S r x h (by omega) (by omega)
  obtain ⟨l, r2, x2, e3, e4, h2, hl, hlm⟩ := lread_is k S 4096 r1 x1 h1 (by omega) (by omega) (by omega)
  obtain ⟨b1, g1, i1⟩ := dr_is k (v, l) hv hk hk2
  obtain ⟨b2, g2, i2⟩ := rr_is k (v, l) hv hk hk2
  have hbb : b1 = b2 := by rw [Bool.eq_iff_iff, i1, i2]
  subst hbb
  rw [dots_Read.f_eq, ref06_Read.f_eq, e1, e2]
  simp only [bnd_some, e3, e4]
  simp only [g1, g2, bnd_some, fault_is, fail_is, ieq_dec, bnot_dec, br_dec]
  obtain ⟨s2, c1⟩ := r2
  obtain ⟨S2, a2, c2⟩ := x2
  have hb : c1 = c2 := h2.bad
  subst hb
  by_cases hz : c1 = 0
  · subst hz
    simp only [if_true]
    cases b1 with
    | true =>
      have e : bnot true = false := rfl
      simp only [e, br_false, not_true, if_false]
      exact ⟨(v, l), _, _, rfl, rfl, h2, hl, hv, fun _ => (i1.1 rfl).1⟩
    | false =>
      have e : bnot false = true := rfl
      simp only [e, br_true]
      exact ⟨(zarr 16 0, []), _, _, rfl, rfl, h2.fail (e := 2) (by decide) rfl, by simp, rfl, fun hh => by cases hh⟩
  · simp only [hz, not_false_eq_true, if_true, if_false]
    exact ⟨(zarr 16 0, []), _, _, rfl, rfl, h2, by simp, rfl, fun hh => absurd hh hz⟩
end Go.Proofs.YtbdfcbhnjdlabaaGreat
end
section
/- What is told as bytes is read again: dots, vectors, rows of dots and sets. -/
namespace Go.Proofs.YtbdfcbhnjdlabaaGreat
open Pal
def codeD (d : Dot) : List UInt8 := packB d.1.toNat ++ packB d.2.toNat
def codeV (v : Vec) : List UInt8 := List.flatMap (fun n : Int => packB n.toNat) v
def codeL (l : List Dot) : List UInt8 := packB l.length ++ l.flatMap codeD
def codeS (s : DSet) : List UInt8 := codeV s.1 ++ codeL s.2
theorem rightD_rng {d : Dot} (h : rightD d = true) : 0 ≤ d.1 ∧ d.1 < 16 ∧ 1 ≤ d.2 ∧ d.2 ≤ 1048576 := of_decide_eq_true h
theorem back_dot (k : Nat) (d : Dot) (t : List UInt8) (hd : rightD d = true) (hk : 12 < k) (hS : (codeD d ++ t).length < 4000000) : dot_Read.f k (codeD d ++ t, 0) = some (d, (t, 0)) := by
  obtain ⟨h1, h2, h3, h4⟩ := rightD_rng hd
  have e1 : ((d.1.toNat : Nat) : Int) = d.1 := Int.toNat_of_nonneg h1
  have e2 : ((d.2.toNat : Nat) : Int) = d.2 := Int.toNat_of_nonneg (by omega)
  have ea : codeD d ++ t = packB d.1.toNat ++ (packB d.2.toNat ++ t) := by unfold codeD; rw [List.append_assoc]
  rw [ea] at hS ⊢
  have hS2 : (packB d.2.toNat ++ t).length < 4000000 := by rw [List.length_append] at hS; omega
  rw [dot_Read.f_eq, back_int k _ _ hk (by omega) hS]
  simp only [bnd_some]
  rw [back_int k _ _ hk (by omega) hS2, e1, e2]
  have bt : bnot true = false := rfl
  simp only [bnd_some, fault_is, ieq_dec, decide_true, br_true, right_is, hd, bt, br_false]
theorem codeD_pos (d : Dot) : 0 < (codeD d).length := by
  unfold codeD; rw [List.length_append]; have := packB_pos d.1.toNat; omega
theorem codes_len {α : Type} (f : α → List UInt8) (hf : ∀ x, 0 < (f x).length) : ∀ (l : List α), l.length ≤ (l.flatMap f).length
  | [] => by simp
  | x :: l => by
    have := codes_len f hf l; have := hf x
    simp only [List.flatMap_cons, List.length_append, List.length_cons]; omega
theorem back_many (k n : Nat) (most : Int) (t : List UInt8) (hk : 12 < k) (hn : n < 72057594037927936) (hm : (n : Int) ≤ most) (hl : n ≤ t.length) (hS : (packB n ++ t).length < 4000000) : pack_Reader_Many.f k most (packB n ++ t, 0) = some ((n : Int), (t, 0)) := by
  rw [pack_Reader_Many.f_eq, back_int k n t hk hn hS]
  have e1 : ilt most (n : Int) = false := decide_eq_false (by omega)
  have e2 : ilt (ilen t) (n : Int) = false := by unfold ilt ilen; exact decide_eq_false (by omega)
  have bt : bnot true = false := rfl
  simp only [bnd_some, fine_is, decide_true, bt, br_false, e1, e2]
theorem back_l3 (k : Nat) (hk : 12 < k) (N : Nat) (hN : N < 1000000) (t : List UInt8) : ∀ (n i : Nat) (x l : List Dot), i + l.length = N → N < n + i → x.length = i → (∀ d ∈ l, rightD d = true) → (l.flatMap codeD ++ t).length < 4000000 →
    dots_ReadList.l3 k n x (N : Int) (i : Int) (l.flatMap codeD ++ t, 0) = some (x ++ l, (t, 0))
  | 0, i, _, _, h, h', _, _, _ => by omega
  | n + 1, i, x, [], h, _, _, _, _ => by
    have hi : N = i := by simpa using h.symm
    subst hi
    rw [dots_ReadList.l3_eq, ilt_nn, decide_eq_false (Nat.lt_irrefl _)]
    have bt : bnot true = false := rfl
    simp only [br_false, fault_is, bnd_some, ieq_dec, decide_true, bt, List.append_nil, List.flatMap_nil, List.nil_append]
  | n + 1, i, x, d :: l, h, h', hx, hr, hS => by
    simp only [List.length_cons] at h
    have e4 : iadd .i64 (i : Int) 1 = ((i + 1 : Nat) : Int) := iadd_nat (by omega)
    have ea : (d :: l).flatMap codeD ++ t = codeD d ++ (l.flatMap codeD ++ t) := by rw [List.flatMap_cons, List.append_assoc]
    rw [ea] at hS ⊢
    have hS2 : (l.flatMap codeD ++ t).length < 4000000 := by rw [List.length_append] at hS; omega
    rw [dots_ReadList.l3_eq, ilt_nn, decide_eq_true (show i < N by omega), back_dot k d _ (hr d (by simp)) hk hS, e4]
    simp only [br_true, bnd_some, room1 (show x.length < 4000000 by omega)]
    have := back_l3 k hk N hN t n (i + 1) (app x (d :: [])) l (by omega) (by omega) (by simp [app, hx]) (fun e he => hr e (List.mem_cons_of_mem _ he)) hS2
    refine this.trans ?_
    simp [app]
theorem back_list (k : Nat) (l : List Dot) (most : Int) (t : List UInt8) (hr : ∀ d ∈ l, rightD d = true) (hm : (l.length : Int) ≤ most) (hk : 12 < k) (hl : l.length < k) (hk2 : k < 1000000) (hS : (codeL l ++ t).length < 4000000) :
    dots_ReadList.f k most (codeL l ++ t, 0) = some (l, (t, 0)) := by
  have ea : codeL l ++ t = packB l.length ++ (l.flatMap codeD ++ t) := by unfold codeL; rw [List.append_assoc]
  rw [ea] at hS ⊢
  have hS2 : (l.flatMap codeD ++ t).length < 4000000 := by rw [List.length_append] at hS; omega
  have hlen := codes_len codeD codeD_pos l
  rw [dots_ReadList.f_eq, back_many k _ most _ hk (by omega) hm (by rw [List.length_append]; omega) hS]
  simp only [bnd_some]
  exact back_l3 k hk l.length (by omega) t k 0 [] l (by omega) (by omega) rfl hr hS2
theorem back_v3 (k : Nat) (hk : 17 < k) (v za : Vec) (hv : VOk v) (t : List UInt8) : ∀ (n i : Nat) (x : Vec), i ≤ 16 → 16 < n + i → x.length = 16 → (∀ j : Nat, j < i → x[j]? = v[j]?) → (List.flatMap (fun n : Int => packB n.toNat) (List.drop i v) ++ t).length < 4000000 →
    vec_Read.l3 k n (i : Int) za x (List.flatMap (fun n : Int => packB n.toNat) (List.drop i v) ++ t, 0) = some (v, (t, 0))
  | 0, i, _, h, h', _, _, _ => by omega
  | n + 1, i, x, h, h', hx, hj, hS => by
    have hvl := hv.len
    rw [vec_Read.l3_eq, show ilt (i : Int) 16 = decide (i < 16) from ilt_nn i 16, inB_nat]
    by_cases hi : i < 16
    · have hil : i < List.length v := by omega
      have hge : 0 ≤ v[i] ∧ v[i] ≤ 1048576 := by
        have h1 := hv.lo (i : Int) (by omega) (by omega)
        have h2 := hv.hi (i : Int) (by omega) (by omega)
        have e : vat v (i : Int) = v[i] := by
          unfold vat
          first
            | (rw [natOf_nat]; exact rd_at' (e := .int .i64) hil)
            | (rw [Int.toNat_natCast, List.getD_eq_getElem?_getD, List.getElem?_eq_getElem hil]; rfl)
        rw [e] at h1 h2; exact ⟨h1, h2⟩
      have ed : List.drop i v = v[i] :: List.drop (i + 1) v := List.drop_eq_getElem_cons hil
      have ea : List.flatMap (fun n : Int => packB n.toNat) (List.drop i v) ++ t = packB v[i].toNat ++ (List.flatMap (fun n : Int => packB n.toNat) (List.drop (i + 1) v) ++ t) := by
        rw [ed, List.flatMap_cons, List.append_assoc]
      rw [ea] at hS ⊢
      have hS2 : (List.flatMap (fun n : Int => packB n.toNat) (List.drop (i + 1) v) ++ t).length < 4000000 := by rw [List.length_append] at hS; omega
      have e4 : iadd .i64 (i : Int) 1 = ((i + 1 : Nat) : Int) := iadd_nat (by omega)
      rw [decide_eq_true hi, back_int k _ _ (by omega) (by omega) hS, e4, Int.toNat_of_nonneg hge.1, natOf_nat]
      simp only [br_true, bnd_some]
      refine back_v3 k hk v za hv t n (i + 1) (upd x i v[i]) (by omega) (by omega) (by rw [upd_len]; exact hx) (fun j hj' => ?_) hS2
      show (List.set x i v[i])[j]? = v[j]?
      by_cases hji : j = i
      · subst hji; rw [List.getElem?_set_self (by omega), List.getElem?_eq_getElem hil]
      · rw [List.getElem?_set_ne (by omega)]; exact hj j (by omega)
    · have hi16 : i = 16 := by omega
      subst hi16
      have hxv : x = v := List.ext_getElem? fun j => by
        by_cases hj16 : j < 16
        · exact hj j hj16
        · rw [List.getElem?_eq_none (by omega), List.getElem?_eq_none (by omega)]
      subst hxv
      obtain ⟨b, g1, i1⟩ := vr_is k x hx hk
      have hb : b = true := i1.2 hv
      subst hb
      have e0 : List.drop 16 x = [] := List.drop_eq_nil_of_le (by omega)
      have bt : bnot true = false := rfl
      rw [decide_eq_false hi, e0]
      simp only [br_false, bnd_some, g1, fault_is, ieq_dec, decide_true, br_true, bt, List.flatMap_nil, List.nil_append]
theorem back_vec (k : Nat) (v : Vec) (t : List UInt8) (hv : VOk v) (hk : 17 < k) (hS : (codeV v ++ t).length < 4000000) : vec_Read.f k (codeV v ++ t, 0) = some (v, (t, 0)) := by
  rw [vec_Read.f_eq]
  exact back_v3 k hk v (zarr 16 0) hv t k 0 (zarr 16 0) (by omega) (by omega) rfl (fun j hj => by omega) hS
theorem back_dots (k : Nat) (s : DSet) (t : List UInt8) (hs : Can s) (hm : s.2.length ≤ 4096) (hk : 5000 < k) (hk2 : k < 1000000) (hS : (codeS s ++ t).length < 4000000) : dots_Read.f k (codeS s ++ t, 0) = some (s, (t, 0)) := by
  have ea : codeS s ++ t = codeV s.1 ++ (codeL s.2 ++ t) := by unfold codeS; rw [List.append_assoc]
  rw [ea] at hS ⊢
  have hS2 : (codeL s.2 ++ t).length < 4000000 := by rw [List.length_append] at hS; omega
  obtain ⟨b, g1, i1⟩ := dr_is k s hs.vok.len hk hk2
  have hb : b = true := i1.2 ⟨hs, hm⟩
  subst hb
  have bt : bnot true = false := rfl
  rw [dots_Read.f_eq, back_vec k s.1 _ hs.vok (by omega) hS]
  simp only [bnd_some]
  rw [back_list k s.2 4096 t hs.rt (by omega) (by omega) (by omega) hk2 hS2]
  have g2 : dots_Right.f k (s.1, s.2) = some true := g1
  simp only [bnd_some, fault_is, ieq_dec, decide_true, br_true, g2, bt, br_false]
end Go.Proofs.YtbdfcbhnjdlabaaGreat
end
section
/- Counts: rows of dots with numbers, in order; joined, put, looked up. Plain facts. -/
namespace Go.Proofs.YtbdfcbhnjdlabaaGreat
open Pal
abbrev Undo := Dot × Int
def rightU (u : Undo) : Bool := rightD u.1 && decide (1 ≤ u.2 ∧ u.2 ≤ 64)
theorem rightU_iff (u : Undo) : rightU u = true ↔ rightD u.1 = true ∧ 1 ≤ u.2 ∧ u.2 ≤ 64 := by simp [rightU]
structure CanU (l : List Undo) : Prop where
  rt : ∀ u ∈ l, rightU u = true
  srt : l.Pairwise (fun a b => dotLt a.1 b.1 = true)
theorem CanU.cons {u : Undo} {l : List Undo} (h : CanU l) (h1 : rightU u = true) (h2 : ∀ v ∈ l, dotLt u.1 v.1 = true) : CanU (u :: l) :=
  ⟨fun v hv => by rcases List.mem_cons.1 hv with rfl | hv; exact h1; exact h.rt v hv, List.pairwise_cons.2 ⟨h2, h.srt⟩⟩
theorem dotLt_trans {a b c : Dot} (h1 : dotLt a b = true) (h2 : dotLt b c = true) : dotLt a c = true := dotLt_swo.trans _ _ _ h1 h2
end Go.Proofs.YtbdfcbhnjdlabaaGreat
end
section
/- What the program's tally, and the document's, come to. -/
namespace Go.Proofs.YtbdfcbhnjdlabaaGreat
open Pal
theorem rone_is (k : Nat) (u : Undo) : ref08_one.f k u = some (rightU u) := by
  rw [ref08_one.f_eq, rright_is]
  simp only [bnd_some]
  unfold rightU
  cases rightD u.1 with
  | false => rfl
  | true =>
    simp only [br_true, ile_dec, br_dec, Bool.true_and]
    by_cases h : 1 ≤ u.2
    · rw [if_pos h]; simp [h]
    · rw [if_neg h]; simp [h]
theorem deqU (a b : Undo) : deq tUndo a b = decide (a = b) := deq_dec (τ := tUndo) rfl a b
theorem canU_iff {l : List Undo} : CanU l ↔ ∀ j (h : j < l.length), rightU l[j] = true ∧ ∀ h0 : 0 < j, dotLt (l[j - 1]'(by omega)).1 l[j].1 = true := by
  constructor
  · intro h j hj
    exact ⟨h.rt _ (List.getElem_mem hj), fun h0 => List.pairwise_iff_getElem.1 h.srt (j - 1) j (by omega) hj (by omega)⟩
  · intro h
    refine ⟨fun u hu => ?_, List.pairwise_iff_getElem.2 fun i j hi hj hij => ?_⟩
    · obtain ⟨j, hj, rfl⟩ := List.mem_iff_getElem.1 hu
      exact (h j hj).1
    · have key : ∀ d j (hj : j < l.length) (hd : d + 1 ≤ j), dotLt (l[j - (d + 1)]'(by omega)).1 l[j].1 = true := by
        intro d
        induction d with
        | zero => intro j hj hd; exact (h j hj).2 (by omega)
        | succ d ih =>
          intro j hj hd
          have h1 := ih j hj (by omega)
          have h2 := (h (j - (d + 1)) (by omega)).2 (by omega)
          have e : j - (d + 1) - 1 = j - (d + 1 + 1) := by omega
          simp only [e] at h2
          exact dotLt_trans h2 h1
      have := key (j - i - 1) j hj (by omega)
      have e : j - (j - i - 1 + 1) = i := by omega
      simpa only [e] using this
def okU (l : List Undo) (j : Nat) : Prop := ∀ h : j < l.length, rightU l[j] = true ∧ ∀ h0 : 0 < j, dotLt (l[j - 1]'(by omega)).1 l[j].1 = true
theorem rrightU_is (k : Nat) (l : List Undo) (hl : l.length < k) (hk : k < 1000000) : ∃ b, ref08_Right.f k l = some b ∧ (b = true ↔ CanU l) := by
  obtain ⟨b, hb, hbi⟩ := loop_all' l.length (fun n i => ref08_Right.l2 k n l (i : Int)) (okU l) (fun n i hi => by
    simp only [ref08_Right.l2_eq, ilt_nat, inL_nat, natOf_nat, hi, decide_true, br_true, rd_at' (e := tUndo) hi, rone_is, bnd_some]
    cases hu : rightU l[i] with
    | false => exact .inr ⟨fun h => (by have := (h hi).1; rw [hu] at this; cases this), rfl⟩
    | true =>
      have e1 : bnot true = false := rfl
      have e2 : ilt 0 (i : Int) = decide (0 < i) := ilt_nn 0 i
      rw [e1, e2, iadd_nat (by omega)]
      simp only [br_false]
      by_cases h0 : 0 < i
      · have hi1 : i - 1 < l.length := by omega
        have e3 : isub .i64 (i : Int) 1 = ((i - 1 : Nat) : Int) := by rw [isub_s (by omega) (by omega) (by omega) (by omega)]; omega
        rw [e3, inL_nat, natOf_nat, rd_at' (e := tUndo) hi1, rcmp_is]
        simp only [h0, hi1, decide_true, br_true, bnd_some, cmp_m1]
        cases hd : dotLt l[i - 1].1 l[i].1 with
        | true => exact .inl ⟨fun _ => ⟨hu, fun _ => hd⟩, rfl⟩
        | false => exact .inr ⟨fun h => (by have := (h hi).2 h0; rw [hd] at this; cases this), rfl⟩
      · simp only [h0, decide_false, br_false]
        exact .inl ⟨fun _ => ⟨hu, fun h => absurd h h0⟩, trivial⟩) (fun n => by
    simp only [ref08_Right.l2_eq, ilt_nat, Nat.lt_irrefl, decide_false, br_false]) k 0 (by omega) (by omega)
  rw [ref08_Right.f_eq]
  refine ⟨b, hb, hbi.trans ?_⟩
  rw [canU_iff]
  exact ⟨fun h j hj => h j (by omega) hj hj, fun h j _ _ hj => h j hj⟩
theorem tcmp_is (k : Nat) (u v : Undo) (h3 : 3 ≤ k) : tally_compare.f k u v = some (cmpD u.1 v.1) := by
  obtain ⟨q, rfl⟩ : ∃ q, k = q + 3 := ⟨k - 3, by omega⟩
  rw [tally_compare.f_eq, cmpD_is]; rfl
theorem rsameU_is (k : Nat) (a b : List Undo) (hl : a.length < k) (hk : k < 1000000) : ref08_Same.f k a b = some (decide (a = b)) := by
  rw [ref08_Same.f_eq, ieq_len, bnot_dec]
  by_cases h : a.length = b.length
  · simp only [h, not_true, decide_false, br_false]
    exact loop_same a b h (fun n i => ref08_Same.l4 k n a b (i : Int)) (fun n i hi hi' => by
      simp only [ref08_Same.l4_eq, ilt_nat, inL_nat, natOf_nat, hi, hi', decide_true, br_true, rd_at' (e := tUndo) hi, rd_at' (e := tUndo) hi', deqU, bnot_dec, br_dec, iadd_nat (show i < 4611686018427387904 by omega)]
      by_cases e : a[i] = b[i] <;> simp [e]) (fun n => by simp only [ref08_Same.l4_eq, ilt_nat, Nat.lt_irrefl, decide_false, br_false]) k (by omega)
  · have : a ≠ b := fun e => h (by rw [e])
    simp only [h, this, not_false_eq_true, decide_true, decide_false, br_true]
end Go.Proofs.YtbdfcbhnjdlabaaGreat
end
section
/- What is known: joined, the same, within. -/
namespace Go.Proofs.YtbdfcbhnjdlabaaGreat
open Pal
abbrev Know := DSet × (List Undo × DSet)
structure CanK (a : Know) : Prop where
  kn : Can a.1
  un : CanU a.2.1
  se : Can a.2.2
structure LenK (n : Nat) (a : Know) : Prop where
  kn : a.1.2.length ≤ n
  un : a.2.1.length ≤ n
  se : a.2.2.2.length ≤ n
theorem know_eq (a b : Know) : a = b ↔ a.1 = b.1 ∧ a.2.1 = b.2.1 ∧ a.2.2 = b.2.2 := by
  obtain ⟨a1, a2, a3⟩ := a; obtain ⟨b1, b2, b3⟩ := b
  simp
theorem goodK_is (k : Nat) (a : Ty.D tKnow) (fa : Fits tKnow a) (hk : 5000 < k) (hk2 : k < 1000000) : ∃ b, ref24_Good.f k a = some b ∧ (b = true → CanK a ∧ LenK 100 a) := by
  have e : ∀ {α : Type} (xs : List α), ile (ilen xs) 100 = decide (xs.length ≤ 100) := fun xs => by unfold ile ilen; congr 1; exact propext ⟨fun h => by omega, fun h => by omega⟩
  rw [ref24_Good.f_eq, ref24_Short.f_eq, e, e, e]
  simp only [br_dec]
  by_cases h1 : List.length a.1.2 ≤ 100
  · rw [if_pos h1]
    by_cases h2 : List.length a.2.1 ≤ 100
    · rw [if_pos h2]
      by_cases h3 : List.length a.2.2.2 ≤ 100
      · rw [decide_eq_true h3, bnd_some]
        simp only [br_true]
        obtain ⟨b1, g1, i1⟩ := rr_is k a.1 fa.1.1.1 hk hk2
        obtain ⟨b2, g2, i2⟩ := rrightU_is k a.2.1 (Nat.lt_of_le_of_lt h2 (by omega)) hk2
        obtain ⟨b3, g3, i3⟩ := rr_is k a.2.2 fa.2.2.1.1 hk hk2
        rw [ref24_Right.f_eq, g1, g2, g3]
        simp only [bnd_some]
        cases b1 with
        | false => exact ⟨false, rfl, fun h => by cases h⟩
        | true =>
          cases b2 with
          | false => exact ⟨false, rfl, fun h => by cases h⟩
          | true => exact ⟨b3, rfl, fun h => ⟨⟨(i1.1 rfl).1, i2.1 rfl, (i3.1 h).1⟩, ⟨h1, h2, h3⟩⟩⟩
      · rw [decide_eq_false h3]; exact ⟨false, rfl, fun h => by cases h⟩
    · rw [if_neg h2]; exact ⟨false, rfl, fun h => by cases h⟩
  · rw [if_neg h1]; exact ⟨false, rfl, fun h => by cases h⟩
theorem rdsame_is (k : Nat) (a b : Know) {n : Nat} (h1 : LenK n a) (hl : n < k) (hk : k < 1000000) : ref24_Same.f k a b = some (decide (a = b)) := by
  have := h1.kn; have := h1.un; have := h1.se
  rw [ref24_Same.f_eq, rsame_is k _ _ (by omega) hk, rsameU_is k _ _ (by omega) hk, rsame_is k _ _ (by omega) hk]
  simp only [bnd_some, br_dec, know_eq a b]
  by_cases e1 : a.1 = b.1 <;> by_cases e2 : a.2.1 = b.2.1 <;> simp [e1, e2]
end Go.Proofs.YtbdfcbhnjdlabaaGreat
end
section
/- Knowledge: the program and the document read the same, and what is told is read again. -/
set_option linter.unusedVariables false
set_option linter.unusedSimpArgs false
namespace Go.Proofs.YtbdfcbhnjdlabaaGreat
open Pal
theorem trightU2_is (k : Nat) (l : List Undo) (h3 : 3 ≤ k) (hl : l.length < k) (hk : k < 1000000) : ∃ b, tally_Right.f k l = some b ∧ (b = true ↔ CanU l) := by
  obtain ⟨b, hb, hbi⟩ := loop_all' l.length (fun n i => tally_Right.l2 k n l l (ilen l) (i : Int)) (okU l) (fun n i hi => by
    have e4 : iadd .i64 (i : Int) 1 = ((i + 1 : Nat) : Int) := iadd_nat (by omega)
    simp only [tally_Right.l2_eq, ilt_nat, inL_nat, natOf_nat, hi, decide_true, br_true, rd_at' (e := tUndo) hi, right_is, bnd_some, e4]
    have key : ∀ hr : rightU l[i] = false, ¬ okU l i := fun hr h => by have := (h hi).1; rw [hr] at this; cases this
    have bt : bnot true = false := rfl
    have bf : bnot false = true := rfl
    cases hd : rightD l[i].1 with
    | false => exact .inr ⟨key (by unfold rightU; rw [hd]; rfl), by rw [bf]; rfl⟩
    | true =>
      rw [bt]
      simp only [br_false, ilt_dec, br_dec]
      by_cases h1 : l[i].2 < 1
      · exact .inr ⟨key (by unfold rightU; rw [hd, decide_eq_false (by omega)]; rfl), if_pos h1⟩
      · rw [if_neg h1]
        by_cases h2 : 64 < l[i].2
        · exact .inr ⟨key (by unfold rightU; rw [hd, decide_eq_false (by omega)]; rfl), if_pos h2⟩
        · rw [if_neg h2]
          have hu : rightU l[i] = true := by unfold rightU; rw [hd, decide_eq_true (by omega)]; rfl
          by_cases h0 : 0 < i
          · have hi1 : i - 1 < l.length := by omega
            have e3 : isub .i64 (i : Int) 1 = ((i - 1 : Nat) : Int) := by rw [isub_s (by omega) (by omega) (by omega) (by omega)]; omega
            have e5 : (0 : Int) < (i : Int) := by omega
            rw [if_pos e5, e3, inL_nat, natOf_nat, rd_at' (e := tUndo) hi1, tcmp_is k _ _ h3]
            simp only [hi1, decide_true, br_true, bnd_some, ile_dec, br_dec]
            have hcc : cmpD l[i - 1].1 l[i].1 < 0 ↔ dotLt l[i - 1].1 l[i].1 = true := by rw [← cmp_lt0]; exact decide_eq_true_iff.symm
            by_cases hc : 0 ≤ cmpD l[i - 1].1 l[i].1
            · exact .inr ⟨fun h => by have := hcc.2 ((h hi).2 h0); omega, if_pos hc⟩
            · exact .inl ⟨fun _ => ⟨hu, fun _ => hcc.1 (by omega)⟩, if_neg hc⟩
          · have e5 : ¬ (0 : Int) < (i : Int) := by omega
            exact .inl ⟨fun _ => ⟨hu, fun h => absurd h h0⟩, if_neg e5⟩) (fun n => by
    simp only [tally_Right.l2_eq, ilt_nat, Nat.lt_irrefl, decide_false, br_false]) k 0 (by omega) (by omega)
  rw [tally_Right.f_eq]
  refine ⟨b, hb, hbi.trans ?_⟩
  rw [canU_iff]
  exact ⟨fun h j hj => h j (by omega) hj hj, fun h j _ _ hj => h j hj⟩
theorem tread_l (k : Nat) (S : List UInt8) (hS : S.length < 5000) (hk : 5000 < k) (hk2 : k < 1000000) (N : Nat) (hN : N ≤ S.length) : ∀ (n i : Nat) (l : List Undo) (r : Rdr) (x : RefRdr), i ≤ N → N < n + i → l.length = i → RR S r x →
    ∃ (l' : List Undo) (r' : Rdr) (x' : RefRdr), tally_Read.l3 k n l (N : Int) (i : Int) r = some (l', r') ∧ ref08_Read.l4 k n (N : Int) l (i : Int) x = some (l', x') ∧ RR S r' x' ∧ l'.length ≤ N
  | 0, i, _, _, _, h, h', _, _ => by omega
  | n + 1, i, l, r, x, h, h', hl, hr => by
    rw [tally_Read.l3_eq, ref08_Read.l4_eq, ilt_nn]
    by_cases hi : i < N
    · obtain ⟨d, r1, x1, e1, e2, h1, _⟩ := dotread_is k S r x hr (by omega) (by omega)
      obtain ⟨c, r2, x2, e3, e5, h2, _, _, _⟩ := int_is k S r1 x1 h1 (by omega) (by omega)
      have e4 : iadd .i64 (i : Int) 1 = ((i + 1 : Nat) : Int) := iadd_nat (by omega)
      rw [decide_eq_true hi, e1, e2, e4]
      simp only [br_true, bnd_some]
      rw [e3, e5]
      simp only [bnd_some, room1 (show l.length < 4000000 by omega), br_true]
      exact tread_l k S hS hk hk2 N hN n (i + 1) _ r2 x2 (by omega) (by omega) (by simp [app, hl]) h2
    · rw [decide_eq_false hi]
      obtain ⟨b1, g1, i1⟩ := trightU2_is k l (by omega) (by omega) hk2
      obtain ⟨b2, g2, i2⟩ := rrightU_is k l (by omega) hk2
      have hbb : b1 = b2 := by rw [Bool.eq_iff_iff, i1, i2]
      subst hbb
      simp only [br_false, bnd_some, g1, g2, fault_is, fail_is, ieq_dec, bnot_dec, br_dec]
      obtain ⟨s2, c1⟩ := r
      obtain ⟨S2, a2, c2⟩ := x
      have hb : c1 = c2 := hr.bad
      subst hb
      by_cases hz : c1 = 0
      · subst hz
        simp only [if_true]
        cases b1 with
        | true =>
          have e : bnot true = false := rfl
          simp only [e, br_false, not_true, if_false]
          exact ⟨l, _, _, rfl, rfl, hr, by omega⟩
        | false =>
          have e : bnot false = true := rfl
          simp only [e, br_true]
          exact ⟨[], _, _, rfl, rfl, hr.fail (e := 2) (by decide) rfl, by simp⟩
      · simp only [hz, not_false_eq_true, if_true, if_false]
        exact ⟨[], _, _, rfl, rfl, hr, by simp⟩
theorem tread_is (k : Nat) (S : List UInt8) (most : Int) (r : Rdr) (x : RefRdr) (h : RR S r x) (hS : S.length < 5000) (hk : 5000 < k) (hk2 : k < 1000000) :
    ∃ (l : List Undo) (r' : Rdr) (x' : RefRdr), tally_Read.f k most r = some (l, r') ∧ ref08_Read.f k most x = some (l, x') ∧ RR S r' x' ∧ l.length ≤ S.length := by
  obtain ⟨n, r1, x1, e1, e2, h1, n0, n1, nm⟩ := many_is k S most r x h (by omega) (by omega)
  rw [tally_Read.f_eq, ref08_Read.f_eq, e1, e2]
  simp only [bnd_some]
  obtain ⟨N, rfl⟩ : ∃ N : Nat, n = (N : Int) := ⟨n.toNat, by omega⟩
  obtain ⟨l, r', x', g1, g2, g3, g4⟩ := tread_l k S hS hk hk2 N (by omega) k 0 [] r1 x1 (by omega) (by omega) rfl h1
  exact ⟨l, r', x', g1, g2, g3, by omega⟩
theorem dkread_is (k : Nat) (S : List UInt8) (r : Rdr) (x : RefRdr) (h : RR S r x) (hS : S.length < 5000) (hk : 5000 < k) (hk2 : k < 1000000) :
    ∃ (s : Know) (r' : Rdr) (x' : RefRdr), delta_Read.f k r = some (s, r') ∧ ref24_Read.f k x = some (s, x') ∧ RR S r' x' ∧ LenK S.length s := by
  obtain ⟨a, r1, x1, e1, e2, h1, l1, _, _⟩ := dread_is k S r x h hS hk hk2
  obtain ⟨b, r2, x2, e3, e4, h2, l2⟩ := tread_is k S 1048576 r1 x1 h1 hS hk hk2
  obtain ⟨c, r3, x3, e5, e6, h3, l3, _, _⟩ := dread_is k S r2 x2 h2 hS hk hk2
  have hb : r3.2 = x3.2.2 := h3.bad
  rw [delta_Read.f_eq, ref24_Read.f_eq, e1, e2]
  simp only [bnd_some]
  rw [e3, e4]
  simp only [bnd_some]
  rw [e5, e6]
  simp only [bnd_some, fault_is, ieq_dec, bnot_dec, br_dec, hb]
  by_cases hz : x3.2.2 = 0
  · simp only [hz, not_true, if_false]
    exact ⟨(a, (b, c)), _, _, rfl, rfl, h3, ⟨l1, l2, l3⟩⟩
  · simp only [hz, not_false_eq_true, if_true]
    exact ⟨(((zarr 16 0), []), ([], ((zarr 16 0), []))), _, _, rfl, rfl, h3, ⟨by simp, by simp, by simp⟩⟩
def codeU (u : Undo) : List UInt8 := codeD u.1 ++ packB u.2.toNat
def codeT (l : List Undo) : List UInt8 := packB l.length ++ l.flatMap codeU
def codeK (a : Know) : List UInt8 := (codeS a.1 ++ codeT a.2.1) ++ codeS a.2.2
theorem roomS_ok {a b : List UInt8} (h1 : a.length ≤ 4000000000) (h2 : b.length ≤ 4000000000) : roomS a b = true := decide_eq_true (by omega)
theorem packB_le {n : Nat} (h : n < 72057594037927936) : (packB n).length ≤ 8 := packB_len 7 n h
theorem codeD_le {d : Dot} (h : rightD d = true) : (codeD d).length ≤ 16 := by
  obtain ⟨h1, h2, h3, h4⟩ := rightD_rng h
  have := packB_le (n := d.1.toNat) (by omega)
  have := packB_le (n := d.2.toNat) (by omega)
  unfold codeD; rw [List.length_append]; omega
theorem codeU_le {u : Undo} (h : rightU u = true) : (codeU u).length ≤ 24 := by
  obtain ⟨h1, h2, h3⟩ := (rightU_iff u).1 h
  have := codeD_le h1
  have := packB_le (n := u.2.toNat) (by omega)
  unfold codeU; rw [List.length_append]; omega
theorem codes_le {α : Type} (f : α → List UInt8) (c : Nat) : ∀ (l : List α), (∀ x ∈ l, (f x).length ≤ c) → (l.flatMap f).length ≤ c * l.length
  | [], _ => by simp
  | x :: l, h => by
    have h1 := h x (by simp)
    have h2 := codes_le f c l (fun y hy => h y (List.mem_cons_of_mem _ hy))
    rw [List.flatMap_cons, List.length_append, List.length_cons, Nat.mul_add, Nat.mul_one]; omega
theorem dcode_is (k : Nat) {d : Dot} (h : rightD d = true) : dot_Code.f k d = some (codeD d) := by
  obtain ⟨h1, h2, h3, h4⟩ := rightD_rng h
  have p1 := packB_le (n := d.1.toNat) (by omega)
  have p2 := packB_le (n := d.2.toNat) (by omega)
  rw [dot_Code.f_eq, packI_is (n := d.1) (by omega), packI_is (n := d.2) (by omega)]
  simp only [bnd_some]
  rw [roomS_ok (by omega) (by omega)]; rfl
theorem vcode_l (k : Nat) (v : Vec) (hv : VOk v) : ∀ (n i : Nat) (x : List UInt8), i ≤ 16 → 16 < n + i → x.length ≤ 100 + 8 * i → vec_Code.l3 k n x v (i : Int) = some (x ++ List.flatMap (fun n : Int => packB n.toNat) (List.drop i v))
  | 0, i, _, h, h', _ => by omega
  | n + 1, i, x, h, h', hx => by
    have hvl := hv.len
    rw [vec_Code.l3_eq, show ilt (i : Int) 16 = decide (i < 16) from ilt_nn i 16, inB_nat, natOf_nat]
    by_cases hi : i < 16
    · have hil : i < List.length v := by omega
      have e : rd (.int .i64) v i = v[i] := rd_at' (e := .int .i64) hil
      have hge : 0 ≤ v[i] ∧ v[i] ≤ 1048576 := by
        have h1 := hv.lo (i : Int) (by omega) (by omega)
        have h2 := hv.hi (i : Int) (by omega) (by omega)
        rw [vat_get hil] at h1 h2; exact ⟨h1, h2⟩
      have e4 : iadd .i64 (i : Int) 1 = ((i + 1 : Nat) : Int) := iadd_nat (by omega)
      have hp : (packB v[i].toNat).length ≤ 8 := packB_le (by omega)
      have ed : List.drop i v = v[i] :: List.drop (i + 1) v := List.drop_eq_getElem_cons hil
      rw [decide_eq_true hi, e, packI_is (n := v[i]) (by omega), e4, ed, List.flatMap_cons]
      simp only [br_true, bnd_some]
      rw [roomS_ok (by omega) (by omega), br_true]
      refine (vcode_l k v hv n (i + 1) _ (by omega) (by omega) (by unfold app; rw [List.length_append]; omega)).trans ?_
      unfold app; rw [List.append_assoc]
    · have e0 : List.drop i v = [] := List.drop_eq_nil_of_le (by omega)
      rw [decide_eq_false hi, br_false, e0]; simp
theorem vcode_is (k : Nat) {v : Vec} (hv : VOk v) (hk : 17 < k) : vec_Code.f k v = some (codeV v) := by
  rw [vec_Code.f_eq]
  exact vcode_l k v hv k 0 [] (by omega) (by omega) (by simp)
theorem codeV_le {v : Vec} (hv : VOk v) : (codeV v).length ≤ 128 := by
  have hvl := hv.len
  have := codes_le (fun n : Int => packB n.toNat) 8 v (fun x hx => by
    obtain ⟨i, hi, rfl⟩ := List.getElem_of_mem hx
    have h1 := hv.lo (i : Int) (by omega) (by omega)
    have h2 := hv.hi (i : Int) (by omega) (by omega)
    rw [vat_get hi] at h1 h2
    exact packB_le (by omega))
  unfold codeV; omega
theorem lcode_l (k : Nat) (l : List Dot) (hr : ∀ d ∈ l, rightD d = true) (hl : l.length < 1000000) : ∀ (n i : Nat) (x : List UInt8), i ≤ l.length → l.length < n + i → x.length ≤ 100 + 16 * i → dots_List.l3 k n x l (ilen l) (i : Int) = some (x ++ (l.drop i).flatMap codeD)
  | 0, i, _, h, h', _ => by omega
  | n + 1, i, x, h, h', hx => by
    rw [dots_List.l3_eq, ilt_nat, inL_nat, natOf_nat]
    by_cases hi : i < l.length
    · have hd := hr l[i] (List.getElem_mem hi)
      have hp := codeD_le hd
      have e4 : iadd .i64 (i : Int) 1 = ((i + 1 : Nat) : Int) := iadd_nat (by omega)
      have ed : l.drop i = l[i] :: l.drop (i + 1) := List.drop_eq_getElem_cons hi
      rw [decide_eq_true hi, rd_at' (e := tDot) hi, dcode_is k hd, e4, ed, List.flatMap_cons]
      simp only [br_true, bnd_some]
      rw [roomS_ok (by omega) (by omega), br_true]
      refine (lcode_l k l hr hl n (i + 1) _ (by omega) (by omega) (by unfold app; rw [List.length_append]; omega)).trans ?_
      unfold app; rw [List.append_assoc]
    · have e0 : l.drop i = [] := List.drop_eq_nil_of_le (by omega)
      rw [decide_eq_false hi, br_false, e0]; simp
theorem lcode_is (k : Nat) {l : List Dot} (hr : ∀ d ∈ l, rightD d = true) (hl : l.length < k) (hk : k < 1000000) : dots_List.f k l = some (codeL l) := by
  have e : (ilen l).toNat = l.length := rfl
  have hp := packB_le (n := l.length) (by omega)
  rw [dots_List.f_eq, packI_is (n := ilen l) (by unfold ilen; omega), e, bnd_some]
  exact lcode_l k l hr (by omega) k 0 _ (by omega) (by omega) (by omega)
theorem codeL_le {l : List Dot} (hr : ∀ d ∈ l, rightD d = true) (hl : l.length < 1000000) : (codeL l).length ≤ 8 + 16 * l.length := by
  have hp := packB_le (n := l.length) (by omega)
  have := codes_le codeD 16 l (fun d hd => codeD_le (hr d hd))
  unfold codeL; rw [List.length_append]; omega
theorem scode_is (k : Nat) {s : DSet} (hs : Can s) (hl : s.2.length < k) (h17 : 17 < k) (hk : k < 1000000) : dots_Code.f k s = some (codeS s) := by
  have h1 := codeV_le hs.vok
  have h2 := codeL_le hs.rt (by omega)
  rw [dots_Code.f_eq, vcode_is k hs.vok h17, lcode_is k hs.rt hl hk]
  simp only [bnd_some]
  rw [roomS_ok (by omega) (by omega)]; rfl
theorem codeS_le {s : DSet} (hs : Can s) {n : Nat} (hl : s.2.length ≤ n) (hn : n < 1000000) : (codeS s).length ≤ 136 + 16 * n := by
  have h1 := codeV_le hs.vok
  have h2 := codeL_le hs.rt (by omega)
  unfold codeS; rw [List.length_append]; omega
theorem tcode_l (k : Nat) (l : List Undo) (hr : ∀ u ∈ l, rightU u = true) (hl : l.length < 1000000) : ∀ (n i : Nat) (x : List UInt8), i ≤ l.length → l.length < n + i → x.length ≤ 100 + 24 * i → tally_Code.l3 k n x l (ilen l) (i : Int) = some (x ++ (l.drop i).flatMap codeU)
  | 0, i, _, h, h', _ => by omega
  | n + 1, i, x, h, h', hx => by
    rw [tally_Code.l3_eq, ilt_nat, inL_nat, natOf_nat]
    by_cases hi : i < l.length
    · have hd := hr l[i] (List.getElem_mem hi)
      obtain ⟨hd1, hd2, hd3⟩ := (rightU_iff _).1 hd
      have hp := codeU_le hd
      have hp1 := codeD_le hd1
      have hp2 := packB_le (n := l[i].2.toNat) (by omega)
      have e4 : iadd .i64 (i : Int) 1 = ((i + 1 : Nat) : Int) := iadd_nat (by omega)
      have ed : l.drop i = l[i] :: l.drop (i + 1) := List.drop_eq_getElem_cons hi
      rw [decide_eq_true hi, rd_at' (e := tUndo) hi, dcode_is k hd1, packI_is (n := l[i].2) (by omega), e4, ed, List.flatMap_cons]
      simp only [br_true, bnd_some]
      rw [roomS_ok (by omega) (by omega), br_true]
      have ea : app (codeD l[i].1) (packB l[i].2.toNat) = codeU l[i] := rfl
      rw [ea, roomS_ok (by omega) (by omega), br_true]
      refine (tcode_l k l hr hl n (i + 1) _ (by omega) (by omega) (by unfold app; rw [List.length_append]; omega)).trans ?_
      unfold app; rw [List.append_assoc]
    · have e0 : l.drop i = [] := List.drop_eq_nil_of_le (by omega)
      rw [decide_eq_false hi, br_false, e0]; simp
theorem tcode_is (k : Nat) {l : List Undo} (hr : ∀ u ∈ l, rightU u = true) (hl : l.length < k) (hk : k < 1000000) : tally_Code.f k l = some (codeT l) := by
  have e : (ilen l).toNat = l.length := rfl
  have hp := packB_le (n := l.length) (by omega)
  rw [tally_Code.f_eq, packI_is (n := ilen l) (by unfold ilen; omega), e, bnd_some]
  exact tcode_l k l hr (by omega) k 0 _ (by omega) (by omega) (by omega)
theorem codeT_le {l : List Undo} (hr : ∀ u ∈ l, rightU u = true) {n : Nat} (hl : l.length ≤ n) (hn : n < 1000000) : (codeT l).length ≤ 8 + 24 * n := by
  have hp := packB_le (n := l.length) (by omega)
  have := codes_le codeU 24 l (fun d hd => codeU_le (hr d hd))
  unfold codeT; rw [List.length_append]; omega
theorem kcode_is (k : Nat) {a : Know} (ha : CanK a) (la : LenK 100 a) (hk : 5000 < k) (hk2 : k < 1000000) : delta_Code.f k a = some (codeK a) := by
  have l1 := la.kn; have l2 := la.un; have l3 := la.se
  have c1 := codeS_le ha.kn l1 (by omega); have c2 := codeT_le ha.un.rt l2 (by omega); have c3 := codeS_le ha.se l3 (by omega)
  rw [delta_Code.f_eq, scode_is k ha.kn (by omega) (by omega) hk2, tcode_is k ha.un.rt (by omega) hk2, scode_is k ha.se (by omega) (by omega) hk2]
  simp only [bnd_some]
  rw [roomS_ok (by omega) (by omega), br_true, roomS_ok (by unfold app; rw [List.length_append]; omega) (by omega)]; rfl
theorem codeU_pos (u : Undo) : 0 < (codeU u).length := by
  unfold codeU; rw [List.length_append]; have := codeD_pos u.1; omega
theorem back_t3 (k : Nat) (h12 : 12 < k) (N : Nat) (hN : N < 1000000) (hNk : N < k) (hk2 : k < 1000000) (t : List UInt8) : ∀ (n i : Nat) (x l : List Undo), i + l.length = N → N < n + i → x.length = i → (∀ d ∈ l, rightU d = true) → CanU (x ++ l) → (l.flatMap codeU ++ t).length < 4000000 →
    tally_Read.l3 k n x (N : Int) (i : Int) (l.flatMap codeU ++ t, 0) = some (x ++ l, (t, 0))
  | 0, i, _, _, h, h', _, _, _, _ => by omega
  | n + 1, i, x, [], h, _, hx, _, hc, _ => by
    have hi : N = i := by simpa using h.symm
    subst hi
    rw [List.append_nil] at hc
    obtain ⟨b1, g1, i1⟩ := trightU2_is k x (by omega) (by omega) hk2
    have hb : b1 = true := i1.2 hc
    subst hb
    rw [tally_Read.l3_eq, ilt_nn, decide_eq_false (Nat.lt_irrefl _)]
    have bt : bnot true = false := rfl
    simp only [br_false, fault_is, bnd_some, ieq_dec, decide_true, br_true, g1, bt, List.append_nil, List.flatMap_nil, List.nil_append]
  | n + 1, i, x, d :: l, h, h', hx, hr, hc, hS => by
    simp only [List.length_cons] at h
    have hd := hr d (by simp)
    obtain ⟨hd1, hd2, hd3⟩ := (rightU_iff _).1 hd
    have e4 : iadd .i64 (i : Int) 1 = ((i + 1 : Nat) : Int) := iadd_nat (by omega)
    have ea : (d :: l).flatMap codeU ++ t = codeD d.1 ++ (packB d.2.toNat ++ (l.flatMap codeU ++ t)) := by rw [List.flatMap_cons, codeU, List.append_assoc, List.append_assoc]
    rw [ea] at hS ⊢
    have hS2 : (packB d.2.toNat ++ (l.flatMap codeU ++ t)).length < 4000000 := by rw [List.length_append] at hS; omega
    have hS3 : (l.flatMap codeU ++ t).length < 4000000 := by rw [List.length_append] at hS2; omega
    rw [tally_Read.l3_eq, ilt_nn, decide_eq_true (show i < N by omega), back_dot k d.1 _ hd1 h12 hS, e4]
    simp only [br_true, bnd_some]
    rw [back_int k d.2.toNat _ h12 (by omega) hS2]
    simp only [bnd_some]
    rw [room1 (show x.length < 4000000 by omega), br_true, Int.toNat_of_nonneg (by omega)]
    have := back_t3 k h12 N hN hNk hk2 t n (i + 1) (app x (d :: [])) l (by omega) (by omega) (by simp [app, hx]) (fun e he => hr e (List.mem_cons_of_mem _ he)) (by unfold app; rw [List.append_assoc]; exact hc) hS3
    refine this.trans ?_
    simp [app]
theorem back_tally (k : Nat) (l : List Undo) (most : Int) (t : List UInt8) (hc : CanU l) (hm : (l.length : Int) ≤ most) (hk : 12 < k) (hl : l.length < k) (hk2 : k < 1000000) (hS : (codeT l ++ t).length < 4000000) :
    tally_Read.f k most (codeT l ++ t, 0) = some (l, (t, 0)) := by
  have ea : codeT l ++ t = packB l.length ++ (l.flatMap codeU ++ t) := by unfold codeT; rw [List.append_assoc]
  rw [ea] at hS ⊢
  have hS2 : (l.flatMap codeU ++ t).length < 4000000 := by rw [List.length_append] at hS; omega
  have hlen := codes_len codeU codeU_pos l
  rw [tally_Read.f_eq, back_many k _ most _ hk (by omega) hm (by rw [List.length_append]; omega) hS]
  simp only [bnd_some]
  exact back_t3 k hk l.length (by omega) (by omega) hk2 t k 0 [] l (by omega) (by omega) rfl hc.rt hc hS2
theorem back_know (k : Nat) {a : Know} (t : List UInt8) (ha : CanK a) (la : LenK 100 a) (ht : t.length < 1000000) (hk : 5000 < k) (hk2 : k < 1000000) : delta_Read.f k (codeK a ++ t, 0) = some (a, (t, 0)) := by
  have l1 := la.kn; have l2 := la.un; have l3 := la.se
  have c1 := codeS_le ha.kn l1 (by omega); have c2 := codeT_le ha.un.rt l2 (by omega); have c3 := codeS_le ha.se l3 (by omega)
  have ea : codeK a ++ t = codeS a.1 ++ (codeT a.2.1 ++ (codeS a.2.2 ++ t)) := by unfold codeK; rw [List.append_assoc, List.append_assoc]
  have s3 : (codeS a.2.2 ++ t).length < 2000000 := by rw [List.length_append]; omega
  have s2 : (codeT a.2.1 ++ (codeS a.2.2 ++ t)).length < 3000000 := by rw [List.length_append]; omega
  have s1 : (codeS a.1 ++ (codeT a.2.1 ++ (codeS a.2.2 ++ t))).length < 4000000 := by rw [List.length_append]; omega
  have bt : bnot true = false := rfl
  rw [delta_Read.f_eq, ea, back_dots k a.1 _ ha.kn (by omega) hk hk2 s1]
  simp only [bnd_some]
  rw [back_tally k a.2.1 1048576 _ ha.un (by omega) (by omega) (by omega) hk2 (by omega)]
  simp only [bnd_some]
  rw [back_dots k a.2.2 _ ha.se (by omega) hk hk2 (by omega)]
  simp only [bnd_some, fault_is, ieq_dec, decide_true, bt, br_false]
end Go.Proofs.YtbdfcbhnjdlabaaGreat
end
section
/- Chapter 24's example: it is as it is told. -/
namespace Go.Proofs.YtbdfcbhnjdlabaaGreat
open Pal
set_option maxRecDepth 100000 in
theorem law24_awake.is (k : Nat) : law24_awake.f (k + 40) = some true := by kernel_rfl
theorem awake24 {k : Nat} (h : 40 ≤ k) : law24_awake.f k = some true := by
  obtain ⟨q, rfl⟩ : ∃ q, k = q + 40 := ⟨k - 40, by omega⟩
  exact law24_awake.is q
end Go.Proofs.YtbdfcbhnjdlabaaGreat
end
section
/- The plain law: the run of DeltaReads answers true for every input. -/
namespace Go.Proofs.YtbdfcbhnjdlabaaGreat
open Pal
theorem end_is (k : Nat) : pack_Reader_End.f k ([], 0) = some (0, ([], 0)) := by
  have bt : bnot true = false := rfl
  rw [pack_Reader_End.f_eq, pack_Reader_Left.f_eq, fine_is]
  simp only [bnd_some, decide_true, bt, br_false]
  have e : ilt 0 (ilen ([] : List UInt8)) = false := rfl
  rw [e]
  simp only [br_false, fault_is, bnd_some]
theorem deltaReads_core (k : Nat) (hk : 6000 ≤ k) (hk2 : k < 1000000) (s : List UInt8) (hs : s.length ≤ 600) (a : Ty.D tKnow) (fa : Fits tKnow a) :
    (bnd (pack_Open.f k s) fun r15 =>
    bnd (delta_Read.f k r15.2) fun r16 =>
    bnd (ref24_Read.f k (s, (0, 0))) fun r17 =>
    bnd (ref24_Same.f k r16.1 r17.1) fun r18 =>
    br (bnot r18)
      (some false)
      (bnd (pack_Reader_Fault.f k r16.2) fun r19 =>
      br (bnot (ieq r19.1 r17.2.2.2))
        (some false)
        (bnd (pack_Reader_Left.f k r19.2) fun r20 =>
        bnd (ref02_Reader_Left.f k r17.2) fun r21 =>
        br (bnot (ieq r20.1 r21.1))
          (some false)
          (bnd (ref24_Good.f k a) fun r22 =>
          br (bnot r22)
            (bnd (law24_awake.f k) fun r23 =>
            some r23)
            (bnd (delta_Code.f k a) fun r24 =>
            bnd (pack_Open.f k r24) fun r25 =>
            bnd (delta_Read.f k r25.2) fun r26 =>
            bnd (ref24_Same.f k r26.1 a) fun r27 =>
            br r27
              (bnd (pack_Reader_End.f k r26.2) fun r28 =>
              br (ieq r28.1 0)
                (bnd (law24_awake.f k) fun r29 =>
                some r29)
                (some false))
              (some false)))))) = some true := by
  have aw : law24_awake.f k = some true := awake24 (by omega)
  have bt : bnot true = false := rfl
  have bf : bnot false = true := rfl
  obtain ⟨d, r1, x1, e1, e2, h1, hl⟩ := dkread_is k s _ _ (open_rr s) (by omega) (by omega) hk2
  obtain ⟨n1, f1, f2⟩ := left_is k s r1 x1 h1 (by omega)
  rw [pack_Open.f_eq]
  simp only [bnd_some]
  rw [e1, e2]
  simp only [bnd_some]
  rw [rdsame_is k d d hl (by omega) hk2]
  simp only [bnd_some, decide_true, bt, br_false, fault_is, f1, f2, ieq_dec, h1.bad]
  obtain ⟨b, g1, g2⟩ := goodK_is k a fa (by omega) hk2
  rw [g1]
  simp only [bnd_some]
  cases b with
  | false => rw [bf, br_true, aw]; rfl
  | true =>
    obtain ⟨ca, la⟩ := g2 rfl
    rw [bt, br_false, kcode_is k ca la (by omega) hk2]
    simp only [bnd_some]
    rw [pack_Open.f_eq]
    simp only [bnd_some]
    have hb := back_know k [] ca la (by decide) (by omega) hk2
    rw [List.append_nil] at hb
    rw [hb]
    simp only [bnd_some]
    rw [rdsame_is k a a la (by omega) hk2]
    simp only [bnd_some, decide_true, br_true, end_is, aw]
    rfl
theorem deltaReads_true (s : Ty.D .str) (_ : Fits .str s) (a : Ty.D tKnow) (fa : Fits tKnow a) : ∃ k, law24_DeltaReads.f k s a = some true := by
  refine ⟨6000, ?_⟩
  rw [law24_DeltaReads.f_eq]
  have e : ilt 600 (ilen s) = decide (600 < List.length s) := by unfold ilt ilen; exact decide_eq_decide.2 ⟨fun h => by omega, fun h => by omega⟩
  rw [e]
  by_cases hs : 600 < List.length s
  · rw [decide_eq_true hs, br_true]
    have hin : inS 0 600 (ilen s) = true := by
      have : (600 : Int) ≤ (List.length s : Int) := by omega
      show (decide ((0 : Int) ≤ 0) && decide ((0 : Int) ≤ 600) && decide ((600 : Int) ≤ (List.length s : Int))) = true
      rw [decide_eq_true this]; rfl
    rw [hin, br_true]
    exact deltaReads_core 6000 (by decide) (by decide) (piece s 0 600) (by unfold piece; rw [List.length_drop, List.length_take]; omega) a fa
  · rw [decide_eq_false hs, br_false]
    exact deltaReads_core 6000 (by decide) (by decide) s (by omega) a fa
end Go.Proofs.YtbdfcbhnjdlabaaGreat
end
section
/- The statement of the law DeltaReads: for every input the law returns true, and its arguments read as they did. No conditions. -/
namespace Go.Proofs.YtbdfcbhnjdlabaaGreat.deltaReadsDone
open Go.ChangeShapes Go.WideShapes Go.ChangeAt Go.RowKit
open Pal
set_option linter.unusedVariables false

theorem own : ownKnob Tryz.prog.godebug = none := by kernel_rfl
theorem laidOut : laidOutB Tryz.prog = true := by kernel_rfl
theorem ty0 : tyB Tryz.prog 40 9 .str = true := by kernel_rfl
theorem ty1 : tyB Tryz.prog 40 29 tKnow = true := by kernel_rfl

theorem walk (W : World) (v0 : Value) (x0 : Ty.D .str) (h0 : TRep (gh0 W) W (.dat .str x0) v0 []) (f0 : Fits .str x0) (v1 : Value) (x1 : Ty.D tKnow) (h1 : TRep (gh0 W) W (.dat tKnow x1) v1 []) (f1 : Fits tKnow x1) :
    Calls Tryz.prog 3 #[v0, v1] W fun e w' => e = .returned (.bool true) ∧ Below W.heap.size W w' := by
  obtain ⟨k, hk⟩ := deltaReads_true x0 f0 x1 f1
  exact law_calls' (args := [.dat .str x0, .dat tKnow x1]) (argv := [v0, v1]) (code := law24_DeltaReads.body) (σ := law24_DeltaReads.sg) (F := fun x => law24_DeltaReads.f k x.1 x.2) (x := (x0, x1)) (r := true) (law24_DeltaReads.ok k) Tryz.func3 (by kernel_rfl) (by kernel_rfl) (by kernel_rfl) (by kernel_rfl) hk rfl rfl
    ⟨v0, _, [], [], rfl, rfl, h0, ⟨v1, _, [], [], rfl, rfl, h1, ⟨rfl, rfl⟩⟩⟩

set_option maxRecDepth 100000 in
theorem lifted (os : Os) (started : os.Started) (H : Type) (enc : TypeId × Value → H) :
    ReturnsInHanded {} Tryz.checked os 3 .any (Rows.deltaReadsSpec.pre6 enc Tryz.prog Tryz.f3 Rows.deltaReadsRow.domain false) (Rows.deltaReadsSpec.post enc Tryz.prog Tryz.f3 false true false false) := by
  refine returnsInHanded_of_change (C := Tryz.checked) own started (by kernel_rfl) Tryz.func3
    (ChangeSpec.witness6 (enc := enc) (C := Tryz.checked) false ⟨#[], #[.string ByteArray.empty, .agg #[.int .i64 0, .int .i64 0, .int .i64 0, .int .i64 0, .int .i64 0, .int .i64 0, .int .i64 0, .int .i64 0, .int .i64 0, .int .i64 0, .int .i64 0, .int .i64 0, .int .i64 0, .int .i64 0, .int .i64 0, .int .i64 0, .slice none 0 0, .slice none 0 0, .int .i64 0, .int .i64 0, .int .i64 0, .int .i64 0, .int .i64 0, .int .i64 0, .int .i64 0, .int .i64 0, .int .i64 0, .int .i64 0, .int .i64 0, .int .i64 0, .int .i64 0, .int .i64 0, .int .i64 0, .int .i64 0, .slice none 0 0]], []⟩ 12 (by kernel_rfl) (by kernel_rfl) (by kernel_rfl) (by kernel_rfl)) ?_
  intro W base args ds gs before hval0 hW hcnd _
  have hval : ∀ (j : Nat) t v, Tryz.f3.params[j]? = some t → args[j]? = some v → Value.okWide Tryz.prog W .any base t v := hval0
  have hW' := hW
  obtain ⟨p, q, hA0, hV, rfl, hfz, hnd⟩ := hW
  have hA : DataW.TrodAll enc Tryz.prog W 0 (fun _ => true) true Tryz.f3.params.toList args.toList ds p := hA0
  rw [Tryz.params3] at hA hval
  obtain ⟨v0, vs0, d0, ds0, p0, q0, hargs, rfl, rfl, h0, r0⟩ := trodAll_cons hA
  obtain ⟨v1, vs1, d1, ds1, p1, q1, rfl, rfl, rfl, h1, r1⟩ := trodAll_cons r0
  obtain ⟨rfl, rfl, rfl⟩ := trodAll_nil r1
  obtain rfl : args = #[v0, v1] := by cases args; simp_all
  obtain ⟨rfl, rfl⟩ := trodVars_none hV
  have k0 := h0
  have lt0 : ∀ x ∈ p0, x.block < W.heap.size := by obtain ⟨m, hm⟩ := k0; exact DataW.trod_lt m _ _ _ hm
  obtain ⟨x0, g0, f0⟩ := arg_open ty0 (hval 0 9 v0 rfl rfl) h0
  have k1 := h1
  have lt1 : ∀ x ∈ p1, x.block < W.heap.size := by obtain ⟨m, hm⟩ := k1; exact DataW.trod_lt m _ _ _ hm
  obtain ⟨x1, g1, f1⟩ := arg_open ty1 (hval 1 29 v1 rfl rfl) h1
  clear hA0 hval0
  refine (walk W v0 x0 g0 f0 v1 x1 g1 f1).mono fun e W' ⟨he, bel⟩ => ?_
  subst he
  exact ⟨_, rfl, _, _, _, [], _, [], hW', trodAll_mk1 (shut_bool Tryz.underlying4 _), (trodAll_cons_mk (Below.trod laidOut (by kernel_rfl) (of_decide_eq_true (by kernel_rfl)) k0 bel lt0) (trodAll_cons_mk (Below.trod laidOut (by kernel_rfl) (of_decide_eq_true (by kernel_rfl)) k1 bel lt1) trodAll_mk0)), rfl, bel.frame _, fun h => by cases h⟩

theorem over : Rows.deltaReadsRow.holds Tryz.pinned (OpenSpec.ofChange Rows.deltaReadsSpec) :=
  OpenClaim.holds_of_wide 3 Tryz.f3 rfl rfl rfl rfl rfl rfl rfl ⟨rfl, rfl, rfl, rfl, rfl⟩ rfl rfl rfl rfl rfl (by kernel_rfl) Tryz.func3 (by kernel_rfl)
    (of_decide_eq_true (by kernel_rfl)) (by unfold Func.isWrapper; first | (rw [if_pos (by decide +kernel)]; kernel_rfl) | (rw [if_neg (by decide +kernel)]; exact ⟨rfl, rfl⟩))
    (fun os started H enc _ => lifted os started H enc)

theorem proved : Rows.DeltaReadsSaid := over
#print axioms proved
end Go.Proofs.YtbdfcbhnjdlabaaGreat.deltaReadsDone
end
