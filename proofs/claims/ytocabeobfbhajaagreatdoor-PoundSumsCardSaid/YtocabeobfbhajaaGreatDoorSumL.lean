/- PoundSums: from the walk to the row: for every number of reeves and list of postings, the call returns true and its arguments read as they did. (The shell of the step from the walk to the row was turned from the one that the kit's proof-skeleton.mjs wrote for another row.) -/
import Derived.Test.YtocabeobfbhajaaGreatDoorRows
import Derived.Test.YtocabeobfbhajaaGreatDoorAllE
import Derived.Test.YtocabeobfbhajaaGreatDoorAllH
import Derived.Test.YtocabeobfbhajaaGreatDoorSumW
import Derived.WalkKit
import Derived.ProofKit
import Derived.OpenShut
import Derived.ShutString
import Derived.ChangeOld
import Derived.Below
section
set_option linter.unusedVariables false
namespace Go.Proofs.YtocabeobfbhajaaGreatDoor.poundSums
open Go.ChangeShapes Go.WideShapes Go.ChangeAt Go.RowKit
open Go.ChangeMaps (open_string shut_string)
open Go.Proofs.YtocabeobfbhajaaGreatDoor
theorem own : ownKnob Tryz.prog.godebug = none := by kernel_rfl
theorem laidOut : laidOutB Tryz.prog = true := by kernel_rfl
theorem walk (n : Int) {a : Option Addr} {b o κ : Nat} {l : List Po} (w : World) (H : Sx.LstAt Sx.poC w a b o l) (h0 : l.length ≤ κ) (hn : Sx.R64 n) (hl : ∀ p ∈ l, Sx.PoR p) :
  Calls Tryz.prog 5 #[.int .i64 n, .slice a l.length κ] w fun e w' => e = .returned (.bool true) ∧ Below w.heap.size w w' :=
 (Sx.sums_walk H h0 hn (Sx.kindR_of hl) (Sx.refR_of hl)).mono fun e w' ⟨h1, h2⟩ => ⟨h1, h2.below⟩
set_option maxRecDepth 100000 in
theorem lifted (os : Os) (started : os.Started) (H : Type) (enc : TypeId × Value → H) :
  ReturnsInHanded {} Tryz.checked os 5 .any (fun w args => (Rows.poundSumsSpec.pre enc Tryz.prog Tryz.f5 Rows.poundSumsRow.domain false w args ∧ laidMetH Tryz.prog Rows.poundSumsRow.laid w) ∧ sizedMet enc Tryz.prog Tryz.f5 (OpenSpec.ofChange Rows.poundSumsSpec) false w args)
   (Rows.poundSumsSpec.post enc Tryz.prog Tryz.f5 false true false false) := by
 refine returnsInHanded_of_change_and (C := Tryz.checked) (X := fun w _ => laidMetH Tryz.prog Rows.poundSumsRow.laid w) (fun _ _ _ hh h => h.of_heap hh) own started (by kernel_rfl) Tryz.func5
  (ChangeSpec.witness_shaped (enc := enc) (C := Tryz.checked) (os := os) (X := fun w _ => laidMetH Tryz.prog Rows.poundSumsRow.laid w) false (W0 os) wargs 8 rfl (wShaped os) (wOk os) (wPre os H enc) (wSz os H enc) (met os _)) ?_
 intro W base args ds gs before hval0 hW _ _ hL _
 have hval : ∀ (j : Nat) t v, Tryz.f5.params[j]? = some t → args[j]? = some v → Value.okWide Tryz.prog W .any base t v := hval0
 have hW' := hW
 obtain ⟨p, q, hA0, hV, rfl, hfz, hnd⟩ := hW
 have hA : DataW.TrodAll enc Tryz.prog W 0 (fun _ => true) true Tryz.f5.params.toList args.toList ds p := hA0
 rw [Tryz.params5] at hA hval
 obtain ⟨v0, vs0, d0, ds0, p0, q0, hargs, rfl, rfl, h0, r0⟩ := trodAll_cons hA
 obtain ⟨v1, vs1, d1, ds1, p1, q1, rfl, rfl, rfl, h1, r1⟩ := trodAll_cons r0
 obtain ⟨rfl, rfl, rfl⟩ := trodAll_nil r1
 obtain rfl : args = #[v0, v1] := by cases args; simp_all
 obtain ⟨rfl, rfl⟩ := trodVars_none hV
 obtain ⟨a0, rfl, rfl, rfl, w0⟩ := open_int Tryz.underlying3 (hval 0 3 v0 rfl rfl) h0
 obtain ⟨sa, sl, sc, rfl⟩ := okWide_slice Sx.rowPo (hval 1 38 v1 rfl rfl)
 have k1 := h1
 have lt1 : ∀ x ∈ p1, x.block < W.heap.size := by obtain ⟨m, hm⟩ := k1; exact DataW.trod_lt m _ _ _ hm
 obtain ⟨xa, xb, xo, xk, l, he, hlk, hkm, hat, hpo⟩ : ∃ (a : Option Addr) (b o κ : Nat) (l : List Po), Value.slice sa sl sc = .slice a l.length κ ∧ l.length ≤ κ ∧ κ ≤ maxLen ∧ Sx.LstAt Sx.poC W a b o l ∧ ∀ p ∈ l, Sx.PoR p := by
  obtain ⟨fuel, hf⟩ := h1
  exact Sx.list_trod (v := .slice sa sl sc) hf
 injection he with e1 e2 e3
 subst e1 e2 e3
 clear hA0 hval0
 refine (walk a0 W hat hlk (Sx.r64 w0) hpo).mono fun e W' ⟨he, bel⟩ => ?_
 subst he
 exact ⟨_, rfl, _, _, _, [], _, [], hW', trodAll_mk1 (shut_bool Tryz.underlying4 _), (trodAll_cons_mk (shut_int Tryz.underlying3 w0) (trodAll_cons_mk (Below.trod laidOut (by kernel_rfl) (of_decide_eq_true (by kernel_rfl)) k1 bel lt1) trodAll_mk0)), rfl, bel.frame _, fun h => by cases h⟩
theorem lifted' (os : Os) (started : os.Started) (H : Type) (enc : TypeId × Value → H) :
  ReturnsInHanded Rows.poundSumsRow.assume Tryz.checked os 5 .any (Rows.poundSumsRow.pre enc Tryz.prog Tryz.f5 (OpenSpec.ofChange Rows.poundSumsSpec)) (Rows.poundSumsSpec.post enc Tryz.prog Tryz.f5 Rows.poundSumsRow.apart Rows.poundSumsRow.fresh Rows.poundSumsRow.handsOn Rows.poundSumsRow.again) := by
 have h := lifted os started H enc
 have e1 : Rows.poundSumsRow.assume = {} := rfl
 have e2 : ∀ (c : OpenClaim) (x : String × DataW Unit) (r : List (String × DataW Unit)), c.laid = x :: r → c.pre enc Tryz.prog Tryz.f5 (OpenSpec.ofChange Rows.poundSumsSpec) = fun w args => (Rows.poundSumsSpec.pre enc Tryz.prog Tryz.f5 c.domain c.apart w args ∧ laidMetH Tryz.prog c.laid w) ∧ sizedMet enc Tryz.prog Tryz.f5 (OpenSpec.ofChange Rows.poundSumsSpec) c.apart w args := by
  intro c x r hc
  unfold OpenClaim.pre OpenClaim.preLaid
  rw [hc]
  rfl
 rw [e1, e2 Rows.poundSumsRow _ _ rfl]
 exact h
end Go.Proofs.YtocabeobfbhajaaGreatDoor.poundSums
end
