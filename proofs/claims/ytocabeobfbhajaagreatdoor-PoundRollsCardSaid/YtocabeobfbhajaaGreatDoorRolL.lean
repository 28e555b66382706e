/- PoundRolls: from the walk to the row: for every number of reeves, list of postings, Ref, reeve and account, the call returns true and its arguments read as they did. (The shell of the step from the walk to the row was turned from the one that the kit's proof-skeleton.mjs wrote for another row.) -/
import Derived.Test.YtocabeobfbhajaaGreatDoorRows
import Derived.Test.YtocabeobfbhajaaGreatDoorAllE
import Derived.Test.YtocabeobfbhajaaGreatDoorAllJ
import Derived.Test.YtocabeobfbhajaaGreatDoorRolW
import Derived.WalkKit
import Derived.ProofKit
import Derived.OpenShut
import Derived.ShutString
import Derived.ChangeOld
import Derived.Below
set_option linter.unusedVariables false
set_option linter.unusedSimpArgs false
set_option linter.unusedSectionVars false
section
namespace Go.Proofs.YtocabeobfbhajaaGreatDoor.poundRolls
open Go.ChangeShapes Go.WideShapes Go.ChangeAt Go.RowKit
open Go.ChangeMaps (open_string shut_string)
open Go.Proofs.YtocabeobfbhajaaGreatDoor
theorem own : ownKnob Tryz.prog.godebug = none := by kernel_rfl
theorem laidOut : laidOutB Tryz.prog = true := by kernel_rfl
theorem walk (n r acc : Int) (x : Rf) {a : Option Addr} {b o κ : Nat} {l : List Po} (w : World) (H : Sx.LstAt Sx.poC w a b o l) (h0 : l.length ≤ κ) (hn : Sx.R64 n) (hl : ∀ p ∈ l, Sx.PoR p) (hx : Sx.R64 x.reeve ∧ Sx.R64 x.number) (hr : Sx.R64 r) (ha : Sx.R64 acc) :
  Calls Tryz.prog 6 #[.int .i64 n, .slice a l.length κ, x.val, .int .i64 r, .int .i64 acc] w fun e w' => e = .returned (.bool true) ∧ Below w.heap.size w w' :=
 (Sx.rolls_walk H h0 (Sx.kindR_of hl) hn hx.1 hx.2 ha hr).mono fun e w' ⟨h1, h2⟩ => ⟨h1, h2.below⟩
set_option maxRecDepth 100000 in
theorem lifted (os : Os) (started : os.Started) (H : Type) (enc : TypeId × Value → H) :
  ReturnsInHanded {} Tryz.checked os 6 .any (fun w args => (Rows.poundRollsSpec.pre enc Tryz.prog Tryz.f6 Rows.poundRollsRow.domain false w args ∧ laidMetH Tryz.prog Rows.poundRollsRow.laid w) ∧ sizedMet enc Tryz.prog Tryz.f6 (OpenSpec.ofChange Rows.poundRollsSpec) false w args)
   (Rows.poundRollsSpec.post enc Tryz.prog Tryz.f6 false true false false) := by
 refine returnsInHanded_of_change_and (C := Tryz.checked) (X := fun w _ => laidMetH Tryz.prog Rows.poundRollsRow.laid w) (fun _ _ _ hh h => h.of_heap hh) own started (by kernel_rfl) Tryz.func6
  (ChangeSpec.witness_shaped (enc := enc) (C := Tryz.checked) (os := os) (X := fun w _ => laidMetH Tryz.prog Rows.poundRollsRow.laid w) false (W0 os) wargs 8 rfl (wShaped os) (wOk os) (wPre os H enc) (wSz os H enc) (met os _)) ?_
 intro W base args ds gs before hval0 hW _ _ hL _
 have hval : ∀ (j : Nat) t v, Tryz.f6.params[j]? = some t → args[j]? = some v → Value.okWide Tryz.prog W .any base t v := hval0
 have hW' := hW
 obtain ⟨p, q, hA0, hV, rfl, hfz, hnd⟩ := hW
 have hA : DataW.TrodAll enc Tryz.prog W 0 (fun _ => true) true Tryz.f6.params.toList args.toList ds p := hA0
 rw [Tryz.params6] at hA hval
 obtain ⟨v0, vs0, d0, ds0, p0, q0, hargs, rfl, rfl, h0, r0⟩ := trodAll_cons hA
 obtain ⟨v1, vs1, d1, ds1, p1, q1, rfl, rfl, rfl, h1, r1⟩ := trodAll_cons r0
 obtain ⟨v2, vs2, d2, ds2, p2, q2, rfl, rfl, rfl, h2, r2⟩ := trodAll_cons r1
 obtain ⟨v3, vs3, d3, ds3, p3, q3, rfl, rfl, rfl, h3, r3⟩ := trodAll_cons r2
 obtain ⟨v4, vs4, d4, ds4, p4, q4, rfl, rfl, rfl, h4, r4⟩ := trodAll_cons r3
 obtain ⟨rfl, rfl, rfl⟩ := trodAll_nil r4
 obtain rfl : args = #[v0, v1, v2, v3, v4] := by cases args; simp_all
 obtain ⟨rfl, rfl⟩ := trodVars_none hV
 obtain ⟨a0, rfl, rfl, rfl, w0⟩ := open_int Tryz.underlying3 (hval 0 3 v0 rfl rfl) h0
 obtain ⟨sa, sl, sc, rfl⟩ := okWide_slice Sx.rowPo (hval 1 38 v1 rfl rfl)
 obtain ⟨cs, rfl, hsz⟩ := okWide_struct Tryz.underlying23 (hval 2 23 v2 rfl rfl)
 obtain ⟨a3, rfl, rfl, rfl, w3⟩ := open_int Tryz.underlying3 (hval 3 3 v3 rfl rfl) h3
 obtain ⟨a4, rfl, rfl, rfl, w4⟩ := open_int Tryz.underlying3 (hval 4 3 v4 rfl rfl) h4
 have k1 := h1
 have k2 := h2
 have lt1 : ∀ x ∈ p1, x.block < W.heap.size := by obtain ⟨m, hm⟩ := k1; exact DataW.trod_lt m _ _ _ hm
 have lt2 : ∀ x ∈ p2, x.block < W.heap.size := by obtain ⟨m, hm⟩ := k2; exact DataW.trod_lt m _ _ _ hm
 obtain ⟨xa, xb, xo, xk, l, he, hlk, hkm, hat, hpo⟩ : ∃ (a : Option Addr) (b o κ : Nat) (l : List Po), Value.slice sa sl sc = .slice a l.length κ ∧ l.length ≤ κ ∧ κ ≤ maxLen ∧ Sx.LstAt Sx.poC W a b o l ∧ ∀ p ∈ l, Sx.PoR p := by
  obtain ⟨fuel, hf⟩ := h1
  exact Sx.list_trod (v := .slice sa sl sc) hf
 obtain ⟨x, hx, hxr⟩ : ∃ x : Rf, cs.toList = x.cells ∧ Sx.R64 x.reeve ∧ Sx.R64 x.number := by
  obtain ⟨fuel, hf⟩ := h2
  exact Sx.rf_trod hf
 obtain rfl : cs = x.cells.toArray := by rw [← hx, Array.toArray_toList]
 injection he with e1 e2 e3
 subst e1 e2 e3
 clear hA0 hval0
 refine (walk a0 a3 a4 x W hat hlk (Sx.r64 w0) hpo hxr (Sx.r64 w3) (Sx.r64 w4)).mono fun e W' ⟨he, bel⟩ => ?_
 subst he
 exact ⟨_, rfl, _, _, _, [], _, [], hW', trodAll_mk1 (shut_bool Tryz.underlying4 _), (trodAll_cons_mk (shut_int Tryz.underlying3 w0) (trodAll_cons_mk (Below.trod laidOut (by kernel_rfl) (of_decide_eq_true (by kernel_rfl)) k1 bel lt1) (trodAll_cons_mk (Below.trod laidOut (by kernel_rfl) (of_decide_eq_true (by kernel_rfl)) k2 bel lt2) (trodAll_cons_mk (shut_int Tryz.underlying3 w3) (trodAll_cons_mk (shut_int Tryz.underlying3 w4) trodAll_mk0))))), rfl, bel.frame _, fun h => by cases h⟩
theorem lifted' (os : Os) (started : os.Started) (H : Type) (enc : TypeId × Value → H) :
  ReturnsInHanded Rows.poundRollsRow.assume Tryz.checked os 6 .any (Rows.poundRollsRow.pre enc Tryz.prog Tryz.f6 (OpenSpec.ofChange Rows.poundRollsSpec)) (Rows.poundRollsSpec.post enc Tryz.prog Tryz.f6 Rows.poundRollsRow.apart Rows.poundRollsRow.fresh Rows.poundRollsRow.handsOn Rows.poundRollsRow.again) := by
 have h := lifted os started H enc
 have e1 : Rows.poundRollsRow.assume = {} := rfl
 have e2 : ∀ (c : OpenClaim) (x : String × DataW Unit) (r : List (String × DataW Unit)), c.laid = x :: r → c.pre enc Tryz.prog Tryz.f6 (OpenSpec.ofChange Rows.poundRollsSpec) = fun w args => (Rows.poundRollsSpec.pre enc Tryz.prog Tryz.f6 c.domain c.apart w args ∧ laidMetH Tryz.prog c.laid w) ∧ sizedMet enc Tryz.prog Tryz.f6 (OpenSpec.ofChange Rows.poundRollsSpec) c.apart w args := by
  intro c x r hc
  unfold OpenClaim.pre OpenClaim.preLaid
  rw [hc]
  rfl
 rw [e1, e2 Rows.poundRollsRow _ _ rfl]
 exact h
end Go.Proofs.YtocabeobfbhajaaGreatDoor.poundRolls
end
