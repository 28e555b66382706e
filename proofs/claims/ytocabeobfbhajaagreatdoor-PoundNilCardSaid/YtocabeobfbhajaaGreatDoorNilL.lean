/- PoundNil: from the walk to the row: for every operation, sector and tick, the call returns true and its arguments read as they did. (The shell of the step from the walk to the row was turned from the one that the kit's proof-skeleton.mjs wrote for another row.) -/
import Derived.Test.YtocabeobfbhajaaGreatDoorRows
import Derived.Test.YtocabeobfbhajaaGreatDoorNilB
import Derived.Test.YtocabeobfbhajaaGreatDoorNilC
import Derived.Test.YtocabeobfbhajaaGreatDoorNilW
import Derived.WalkKit
import Derived.ProofKit
import Derived.OpenShut
import Derived.ShutString
import Derived.ChangeOld
import Derived.Below
set_option linter.unusedVariables false
namespace Go.Proofs.YtocabeobfbhajaaGreatDoor.poundNil
open Go.ChangeShapes Go.WideShapes Go.ChangeAt Go.RowKit
open Go.ChangeMaps (open_string shut_string)
open Go.Proofs.YtocabeobfbhajaaGreatDoor

theorem own : ownKnob Tryz.prog.godebug = none := by kernel_rfl
theorem laidOut : laidOutB Tryz.prog = true := by kernel_rfl

theorem walk (o : RvOp) (a1 a2 : Int) (w : World) (hp : PostsAt w w.heap.size o.pa o.ps) :
    Calls Tryz.prog 12 #[.agg o.cells.toArray, .int .i64 a1, .int .i64 a2] w fun e w' => e = .returned (.bool true) ∧ Below w.heap.size w w' :=
  (Sx.nil_walk hp (.int .i64 a1) (.int .i64 a2) rfl rfl).mono fun e w' ⟨h1, h2⟩ => ⟨h1, h2.below⟩

/-! ### THE ROW's STEP: WRITTEN OUT: LEAVE IT -/
set_option maxRecDepth 100000 in
theorem lifted (os : Os) (started : os.Started) (H : Type) (enc : TypeId × Value → H) :
    ReturnsInHanded {} Tryz.checked os 12 .any (fun w args => (Rows.poundNilSpec.pre enc Tryz.prog Tryz.f12 Rows.poundNilRow.domain false w args ∧ laidMetH Tryz.prog Rows.poundNilRow.laid w) ∧ sizedMet enc Tryz.prog Tryz.f12 (OpenSpec.ofChange Rows.poundNilSpec) false w args)
      (Rows.poundNilSpec.post enc Tryz.prog Tryz.f12 false true false false) := by
  refine returnsInHanded_of_change_and (C := Tryz.checked) (X := fun w _ => laidMetH Tryz.prog Rows.poundNilRow.laid w) (fun _ _ _ hh h => h.of_heap hh) own started (by kernel_rfl) Tryz.func12
    (ChangeSpec.witness_shaped (enc := enc) (C := Tryz.checked) (os := os) (X := fun w _ => laidMetH Tryz.prog Rows.poundNilRow.laid w) false (W0 os) wargs 8 rfl (wShaped os) (wOk os) (wPre os H enc) (wSz os H enc) (met os _)) ?_
  intro W base args ds gs before hval0 hW _ _ hL _
  have hval : ∀ (j : Nat) t v, Tryz.f12.params[j]? = some t → args[j]? = some v → Value.okWide Tryz.prog W .any base t v := hval0
  have hW' := hW
  obtain ⟨p, q, hA0, hV, rfl, hfz, hnd⟩ := hW
  have hA : DataW.TrodAll enc Tryz.prog W 0 (fun _ => true) true Tryz.f12.params.toList args.toList ds p := hA0
  rw [Tryz.params12] at hA hval
  obtain ⟨v0, vs0, d0, ds0, p0, q0, hargs, rfl, rfl, h0, r0⟩ := trodAll_cons hA
  obtain ⟨v1, vs1, d1, ds1, p1, q1, rfl, rfl, rfl, h1, r1⟩ := trodAll_cons r0
  obtain ⟨v2, vs2, d2, ds2, p2, q2, rfl, rfl, rfl, h2, r2⟩ := trodAll_cons r1
  obtain ⟨rfl, rfl, rfl⟩ := trodAll_nil r2
  obtain rfl : args = #[v0, v1, v2] := by cases args; simp_all
  obtain ⟨rfl, rfl⟩ := trodVars_none hV
  obtain ⟨cs, rfl, hsz⟩ := okWide_struct Tryz.underlying44 (hval 0 44 v0 rfl rfl)
  obtain ⟨a1, rfl, rfl, rfl, w1⟩ := open_int Tryz.underlying3 (hval 1 3 v1 rfl rfl) h1
  obtain ⟨a2, rfl, rfl, rfl, w2⟩ := open_int Tryz.underlying3 (hval 2 3 v2 rfl rfl) h2
  have k0 := h0
  have lt0 : ∀ x ∈ p0, x.block < W.heap.size := by obtain ⟨m, hm⟩ := k0; exact DataW.trod_lt m _ _ _ hm
  obtain ⟨o, ho, hp⟩ : ∃ o : RvOp, cs.toList = o.cells ∧ PostsAt W W.heap.size o.pa o.ps := by
    obtain ⟨fuel, hf⟩ := h0
    exact rv_trod hf
  obtain rfl : cs = o.cells.toArray := by rw [← ho, Array.toArray_toList]
  clear hA0 hval0
  refine (walk o a1 a2 W hp).mono fun e W' ⟨he, bel⟩ => ?_
  subst he
  exact ⟨_, rfl, _, _, _, [], _, [], hW', trodAll_mk1 (shut_bool Tryz.underlying4 _), (trodAll_cons_mk (Below.trod laidOut (by kernel_rfl) (of_decide_eq_true (by kernel_rfl)) k0 bel lt0) (trodAll_cons_mk (shut_int Tryz.underlying3 w1) (trodAll_cons_mk (shut_int Tryz.underlying3 w2) trodAll_mk0))), rfl, bel.frame _, fun h => by cases h⟩

theorem lifted' (os : Os) (started : os.Started) (H : Type) (enc : TypeId × Value → H) :
    ReturnsInHanded Rows.poundNilRow.assume Tryz.checked os 12 .any (Rows.poundNilRow.pre enc Tryz.prog Tryz.f12 (OpenSpec.ofChange Rows.poundNilSpec)) (Rows.poundNilSpec.post enc Tryz.prog Tryz.f12 Rows.poundNilRow.apart Rows.poundNilRow.fresh Rows.poundNilRow.handsOn Rows.poundNilRow.again) := by
  have h := lifted os started H enc
  have e1 : Rows.poundNilRow.assume = {} := rfl
  have e2 : ∀ (c : OpenClaim) (x : String × DataW Unit) (r : List (String × DataW Unit)), c.laid = x :: r → c.pre enc Tryz.prog Tryz.f12 (OpenSpec.ofChange Rows.poundNilSpec) = fun w args => (Rows.poundNilSpec.pre enc Tryz.prog Tryz.f12 c.domain c.apart w args ∧ laidMetH Tryz.prog c.laid w) ∧ sizedMet enc Tryz.prog Tryz.f12 (OpenSpec.ofChange Rows.poundNilSpec) c.apart w args := by
    intro c x r hc
    unfold OpenClaim.pre OpenClaim.preLaid
    rw [hc]
    rfl
  rw [e1, e2 Rows.poundNilRow _ _ rfl]
  exact h
end Go.Proofs.YtocabeobfbhajaaGreatDoor.poundNil
