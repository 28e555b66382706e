/- PoundPostings: from the walk to the row: for every number of reeves, posting and line, the call returns true and its arguments read as they did. (The shell of the step from the walk to the row was turned from the one that the kit's proof-skeleton.mjs wrote for another row.) -/
import Derived.Test.YtocabeobfbhajaaGreatDoorRows
import Derived.Test.YtocabeobfbhajaaGreatDoorAllE
import Derived.Test.YtocabeobfbhajaaGreatDoorAllK
import Derived.Test.YtocabeobfbhajaaGreatDoorPosW
import Derived.WalkKit
import Derived.ProofKit
import Derived.OpenShut
import Derived.ShutString
import Derived.ChangeOld
import Derived.Below
set_option linter.unusedVariables false
set_option linter.unusedSimpArgs false
set_option linter.unusedSectionVars false
section
namespace Go.Proofs.YtocabeobfbhajaaGreatDoor.poundPostings
open Go.ChangeShapes Go.WideShapes Go.ChangeAt Go.RowKit
open Go.ChangeMaps (open_string shut_string)
open Go.Proofs.YtocabeobfbhajaaGreatDoor
theorem own : ownKnob Tryz.prog.godebug = none := by kernel_rfl
theorem laidOut : laidOutB Tryz.prog = true := by kernel_rfl
theorem walk (n : Int) (p : Po) (s : ByteArray) (w : World) (H : Sx.StrW w) (hn : Sx.R64 n) (hp : Sx.PoR p) (hs : s.size ≤ maxLen) :
  Calls Tryz.prog 3 #[.int .i64 n, p.val, .string s] w fun e w' => e = .returned (.bool true) ∧ Below w.heap.size w w' :=
 (Sx.postings_walk H n p s hn hp.2.2.2.1).mono fun e w' ⟨h1, h2⟩ => ⟨h1, h2.below⟩
theorem strW {w : World} (hL : laidMetH Tryz.prog Rows.poundPostingsRow.laid w) (hS : w.ShapedOpen Tryz.prog) : Sx.StrW w := by
 have hM : laidMet Tryz.prog Rows.poundPostingsRow.laid w := by rw [← MakeChecks.laidMetH_plain _ _ _ (by kernel_rfl)]; exact hL
 refine ⟨?_, ?_, ?_, ?_⟩
 ·have h1 := laidMet.filter (fun x => x.1 == "internal/strconv.uint64pow10") hM
  have e : Rows.poundPostingsRow.laid.filter (fun x => x.1 == "internal/strconv.uint64pow10") = [("internal/strconv.uint64pow10", Lib.tabData .u64 Lib.pow10Tab)] := by kernel_rfl
  rw [e] at h1
  exact Lib.tabIs_of_head (g := 0) (t := ((Tryz.prog.globals[0]?).map (·.type)).getD 0) (e := 345) (n := 20) (by kernel_rfl) (by kernel_rfl) (by kernel_rfl) (by kernel_rfl) (by kernel_rfl) (by kernel_rfl) h1
 ·exact cell_of_shapedOpen_int (g := 1) (t := 3) (zero := #[.int .i64 0]) hS (of_decide_eq_true (by kernel_rfl)) (by kernel_rfl) rfl (by kernel_rfl) (by kernel_rfl) Tryz.underlying3
 ·obtain ⟨g, t, cs, fuel, p, h1, h2, h3, h4⟩ := Lib.laidMet.reads hM (n := "strconv.ErrSyntax") (d := Rows.laid_strconv_ErrSyntax) (List.mem_of_getElem? (i := 5) rfl)
  exact Sx.iface_of (g := 2) (t := 325) (by kernel_rfl) (by kernel_rfl) (by kernel_rfl) h1 h2 h3 h4
 ·obtain ⟨g, t, cs, fuel, p, h1, h2, h3, h4⟩ := Lib.laidMet.reads hM (n := "strconv.ErrRange") (d := Rows.laid_strconv_ErrRange) (List.mem_of_getElem? (i := 4) rfl)
  exact Sx.iface_of (g := 3) (t := 325) (by kernel_rfl) (by kernel_rfl) (by kernel_rfl) h1 h2 h3 h4
set_option maxRecDepth 100000 in
theorem lifted (os : Os) (started : os.Started) (H : Type) (enc : TypeId × Value → H) :
  ReturnsInHanded {} Tryz.checked os 3 .any (fun w args => (Rows.poundPostingsSpec.pre enc Tryz.prog Tryz.f3 Rows.poundPostingsRow.domain false w args ∧ laidMetH Tryz.prog Rows.poundPostingsRow.laid w) ∧ sizedMet enc Tryz.prog Tryz.f3 (OpenSpec.ofChange Rows.poundPostingsSpec) false w args)
   (Rows.poundPostingsSpec.post enc Tryz.prog Tryz.f3 false true false false) := by
 refine Sx.handed_and_shaped (C := Tryz.checked) (X := fun w _ => laidMetH Tryz.prog Rows.poundPostingsRow.laid w) (fun _ _ _ hh h => h.of_heap hh) own started (by kernel_rfl) Tryz.func3
  (ChangeSpec.witness_shaped (enc := enc) (C := Tryz.checked) (os := os) (X := fun w _ => laidMetH Tryz.prog Rows.poundPostingsRow.laid w) false (W0 os) wargs 8 rfl (wShaped os) (wOk os) (wPre os H enc) (wSz os H enc) (met os _)) ?_
 intro W base args ds gs before hval0 hW hL hS
 have hval : ∀ (j : Nat) t v, Tryz.f3.params[j]? = some t → args[j]? = some v → Value.okWide Tryz.prog W .any base t v := hval0
 have hW' := hW
 obtain ⟨p, q, hA0, hV, rfl, hfz, hnd⟩ := hW
 have hA : DataW.TrodAll enc Tryz.prog W 0 (fun _ => true) true Tryz.f3.params.toList args.toList ds p := hA0
 rw [Tryz.params3] at hA hval
 obtain ⟨v0, vs0, d0, ds0, p0, q0, hargs, rfl, rfl, h0, r0⟩ := trodAll_cons hA
 obtain ⟨v1, vs1, d1, ds1, p1, q1, rfl, rfl, rfl, h1, r1⟩ := trodAll_cons r0
 obtain ⟨v2, vs2, d2, ds2, p2, q2, rfl, rfl, rfl, h2, r2⟩ := trodAll_cons r1
 obtain ⟨rfl, rfl, rfl⟩ := trodAll_nil r2
 obtain rfl : args = #[v0, v1, v2] := by cases args; simp_all
 obtain ⟨rfl, rfl⟩ := trodVars_none hV
 obtain ⟨a0, rfl, rfl, rfl, w0⟩ := open_int Tryz.underlying3 (hval 0 3 v0 rfl rfl) h0
 obtain ⟨cs, rfl, hsz⟩ := okWide_struct Tryz.underlying25 (hval 1 25 v1 rfl rfl)
 obtain ⟨s2, rfl, rfl, rfl, z2⟩ := open_string Tryz.underlying9 (hval 2 9 v2 rfl rfl) h2
 have k1 := h1
 have lt1 : ∀ x ∈ p1, x.block < W.heap.size := by obtain ⟨m, hm⟩ := k1; exact DataW.trod_lt m _ _ _ hm
 obtain ⟨x, hx, hxr⟩ : ∃ x : Po, cs.toList = x.cells ∧ Sx.PoR x := by
  obtain ⟨fuel, hf⟩ := h1
  exact Sx.po_trod hf
 obtain rfl : cs = x.cells.toArray := by rw [← hx, Array.toArray_toList]
 clear hA0 hval0
 refine (walk a0 x s2 W (strW hL hS) (Sx.r64 w0) hxr z2).mono fun e W' ⟨he, bel⟩ => ?_
 subst he
 exact ⟨_, rfl, _, _, _, [], _, [], hW', trodAll_mk1 (shut_bool Tryz.underlying4 _), (trodAll_cons_mk (shut_int Tryz.underlying3 w0) (trodAll_cons_mk (Below.trod laidOut (by kernel_rfl) (of_decide_eq_true (by kernel_rfl)) k1 bel lt1) (trodAll_cons_mk (shut_string Tryz.underlying9 z2) trodAll_mk0))), rfl, bel.frame _, fun h => by cases h⟩
theorem lifted' (os : Os) (started : os.Started) (H : Type) (enc : TypeId × Value → H) :
  ReturnsInHanded Rows.poundPostingsRow.assume Tryz.checked os 3 .any (Rows.poundPostingsRow.pre enc Tryz.prog Tryz.f3 (OpenSpec.ofChange Rows.poundPostingsSpec)) (Rows.poundPostingsSpec.post enc Tryz.prog Tryz.f3 Rows.poundPostingsRow.apart Rows.poundPostingsRow.fresh Rows.poundPostingsRow.handsOn Rows.poundPostingsRow.again) := by
 have h := lifted os started H enc
 have e1 : Rows.poundPostingsRow.assume = {} := rfl
 have e2 : ∀ (c : OpenClaim) (x : String × DataW Unit) (r : List (String × DataW Unit)), c.laid = x :: r → c.pre enc Tryz.prog Tryz.f3 (OpenSpec.ofChange Rows.poundPostingsSpec) = fun w args => (Rows.poundPostingsSpec.pre enc Tryz.prog Tryz.f3 c.domain c.apart w args ∧ laidMetH Tryz.prog c.laid w) ∧ sizedMet enc Tryz.prog Tryz.f3 (OpenSpec.ofChange Rows.poundPostingsSpec) c.apart w args := by
  intro c x r hc
  unfold OpenClaim.pre OpenClaim.preLaid
  rw [hc]
  rfl
 rw [e1, e2 Rows.poundPostingsRow _ _ rfl]
 exact h
end Go.Proofs.YtocabeobfbhajaaGreatDoor.poundPostings
end
