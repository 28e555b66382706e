/- Package pound: formed, payments. -/
import Derived.Test.YtocabeobfbhajaaGreatDoorAllC
set_option linter.unusedVariables false
set_option linter.unusedSimpArgs false
set_option linter.unusedSectionVars false
section
set_option maxRecDepth 100000
namespace Go.Proofs.YtocabeobfbhajaaGreatDoor
open Go Go.RowKit
attribute [local go_sem] if_ok Bool.and_true
set_option maxHeartbeats 2000000 in
theorem formed_pay (n : Int) (p : Po) (w : World) (h1 : manyB n = true) (h2 : isRefB n p.me = true) (h3 : inB p.tick 0 100000 = true) (h4 : inB p.owner 1 40 = true) (h5 : inB p.amount 1 1000000 = true) (hk : p.kind = 4) : Calls Tryz.prog 81 #[.int .i64 n, p.val] w fun e w' => e = .returned (.bool (bodyB n p)) ∧ Below w.heap.size w w' := by
 have h35 : n = 3 ∨ n = 5 := by unfold manyB at h1; simpa using h1
 have hn : -9223372036854775807 ≤ n ∧ n ≤ 9223372036854775807 := by omega
 have hn0 : (n == 0) = false := by simp; omega
 have hn1 : ¬ n = 0 := by omega
 obtain ⟨re, nu, ti, ki, cs, ow, ⟨ofr, ofn⟩, ⟨byr, byn⟩, am⟩ := p
 simp only at hk h2 h3 h4 h5
 subst hk
 have HM := hid (isMany_any n)
 have HR := hid (refOf_any ⟨re, nu, ti, 4, cs, ow, ⟨ofr, ofn⟩, ⟨byr, byn⟩, am⟩)
 have HB := hid (bare_any ⟨re, nu, ti, 4, cs, ow, ⟨ofr, ofn⟩, ⟨byr, byn⟩, am⟩)
 have HI := hid (isRef_any n hn)
 unfold Po.me at *
 simp only [Po.val, Po.bare, Po.cells, Rf.val, Rf.cells] at *
 go_enter Tryz.func81, Tryz.ntmps81
 go_wp2_with (first
  | (go_at_call 75; refine (HM.out _).mono ?_; rintro e w' ⟨rfl, rfl⟩)
  | (go_at_call 106; refine (HR.out _).mono ?_; rintro e w' ⟨rfl, rfl⟩)
  | (go_at_call 175; refine (HB.out _).mono ?_; rintro e w' ⟨rfl, rfl⟩)
  | (go_at_call 83; refine (in_any _ _ _ _).mono ?_; rintro e w' ⟨rfl, rfl⟩)
  | (go_at_call 174; refine (HI.out ⟨_, _⟩ _).mono ?_; rintro e w' ⟨rfl, rfl⟩))
 refine Mix.wp_region_mix [([(0, 0), (1, 1), (2, 0), (3, 1), (4, 0), (5, 2), (6, 0)], some 7)] (by kernel_rfl) (by kernel_rfl) (fun _ _ d _ _ h => by cases d <;> exact h) ?_
 refine Mix.grps_some (fun w' => w'.cell? ⟨w.heap.size, 6, none⟩ = some (.int .i64 ofr) ∧ w'.cell? ⟨w.heap.size, 7, none⟩ = some (.int .i64 ofn) ∧ w'.cell? ⟨w.heap.size, 8, none⟩ = some (.int .i64 byr) ∧ w'.cell? ⟨w.heap.size, 9, none⟩ = some (.int .i64 byn)) ⟨by go_simp, by go_simp, by go_simp, by go_simp⟩ ?_
 repeat' (first | (apply Mix.grp_bool; (focus (simp only [List.getElem?_toArray, List.getElem?_cons_succ, List.getElem?_cons_zero]; try exact rfl)); (focus rfl); (focus (intro w'; go_simp; try with_reducible exact rfl)); all_goals (intro hb; first | (cases hb; done) | skip); all_goals simp only [Act.put, List.setIfInBounds_toArray, List.set_cons_succ, List.set_cons_zero]) | (apply Mix.grp_pure; (focus (simp only [List.getElem?_toArray, List.getElem?_cons_succ, List.getElem?_cons_zero]; try exact rfl)); (focus rfl); (focus (intro w'; go_simp; try with_reducible exact rfl)); simp only [Act.put, List.setIfInBounds_toArray, List.set_cons_succ, List.set_cons_zero]) | (apply Mix.grp_read; (focus (simp only [List.getElem?_toArray, List.getElem?_cons_succ, List.getElem?_cons_zero]; try exact rfl)); (focus rfl); (focus (intro w' hC; (first | subst hC | (repeat (obtain ⟨_, hC⟩ := hC))); go_simp; try with_reducible exact rfl)); simp only [Act.put, List.setIfInBounds_toArray, List.set_cons_succ, List.set_cons_zero]) | (apply Mix.grp_skip0; (focus (simp only [List.getElem?_toArray, List.getElem?_cons_succ, List.getElem?_cons_zero]; try exact rfl)); (focus rfl); simp only [Act.put, List.setIfInBounds_toArray, List.set_cons_succ, List.set_cons_zero]) | (apply Mix.grp_skip1; (focus (simp only [List.getElem?_toArray, List.getElem?_cons_succ, List.getElem?_cons_zero]; try exact rfl)); (focus rfl); simp only [Act.put, List.setIfInBounds_toArray, List.set_cons_succ, List.set_cons_zero]))
 (apply Mix.grp_eff; (focus (simp only [List.getElem?_toArray, List.getElem?_cons_succ, List.getElem?_cons_zero]; try exact rfl)); (focus rfl))
 go_simp
 try refine ⟨⟨by go_simp, by go_simp, by go_simp, by go_simp⟩, ?_⟩
 try simp only [Act.put, List.setIfInBounds_toArray, List.set_cons_succ, List.set_cons_zero]
 repeat' (first | (apply Mix.grp_bool; (focus (simp only [List.getElem?_toArray, List.getElem?_cons_succ, List.getElem?_cons_zero]; try exact rfl)); (focus rfl); (focus (intro w'; go_simp; try with_reducible exact rfl)); all_goals (intro hb; first | (cases hb; done) | skip); all_goals simp only [Act.put, List.setIfInBounds_toArray, List.set_cons_succ, List.set_cons_zero]) | (apply Mix.grp_pure; (focus (simp only [List.getElem?_toArray, List.getElem?_cons_succ, List.getElem?_cons_zero]; try exact rfl)); (focus rfl); (focus (intro w'; go_simp; try with_reducible exact rfl)); simp only [Act.put, List.setIfInBounds_toArray, List.set_cons_succ, List.set_cons_zero]) | (apply Mix.grp_read; (focus (simp only [List.getElem?_toArray, List.getElem?_cons_succ, List.getElem?_cons_zero]; try exact rfl)); (focus rfl); (focus (intro w' hC; (first | subst hC | (repeat (obtain ⟨_, hC⟩ := hC))); go_simp; try with_reducible exact rfl)); simp only [Act.put, List.setIfInBounds_toArray, List.set_cons_succ, List.set_cons_zero]) | (apply Mix.grp_skip0; (focus (simp only [List.getElem?_toArray, List.getElem?_cons_succ, List.getElem?_cons_zero]; try exact rfl)); (focus rfl); simp only [Act.put, List.setIfInBounds_toArray, List.set_cons_succ, List.set_cons_zero]) | (apply Mix.grp_skip1; (focus (simp only [List.getElem?_toArray, List.getElem?_cons_succ, List.getElem?_cons_zero]; try exact rfl)); (focus rfl); simp only [Act.put, List.setIfInBounds_toArray, List.set_cons_succ, List.set_cons_zero]))
 refine Mix.grp_nil ?_
 (apply Mix.op_last; (focus (simp only [List.getElem?_toArray, List.getElem?_cons_succ, List.getElem?_cons_zero]; try exact rfl)); (focus rfl))
 go_simp
 refine Mix.grps_nil ?_
 go_wp2_with (first
  | (go_at_call 75; refine (HM.out _).mono ?_; rintro e w' ⟨rfl, rfl⟩)
  | (go_at_call 106; refine (HR.out _).mono ?_; rintro e w' ⟨rfl, rfl⟩)
  | (go_at_call 175; refine (HB.out _).mono ?_; rintro e w' ⟨rfl, rfl⟩)
  | (go_at_call 83; refine (in_any _ _ _ _).mono ?_; rintro e w' ⟨rfl, rfl⟩)
  | (go_at_call 174; refine (HI.out ⟨_, _⟩ _).mono ?_; rintro e w' ⟨rfl, rfl⟩))
 all_goals
  go_ret
  refine ⟨?_, (by go_grown)⟩
  refine congrArg (fun b => Ending.returned (Value.bool b)) (?_ : _ = bodyB _ _)
  clear HM HR HB HI
  simp_all [bodyB, zeroRf, rf_beq]
  try (intros; omega)
set_option maxHeartbeats 2000000 in
theorem formed_other (n : Int) (p : Po) (w : World) (h1 : manyB n = true) (h2 : isRefB n p.me = true) (h3 : inB p.tick 0 100000 = true) (h4 : inB p.owner 1 40 = true) (h5 : inB p.amount 1 1000000 = true) (k1 : ¬ p.kind = 1) (k2 : ¬ p.kind = 2) (k3 : ¬ p.kind = 3) (k4 : ¬ p.kind = 4) (k5 : ¬ p.kind = 5) : Calls Tryz.prog 81 #[.int .i64 n, p.val] w fun e w' => e = .returned (.bool false) ∧ Below w.heap.size w w' := by
 have h35 : n = 3 ∨ n = 5 := by unfold manyB at h1; simpa using h1
 have hn : -9223372036854775807 ≤ n ∧ n ≤ 9223372036854775807 := by omega
 have hn0 : (n == 0) = false := by simp; omega
 have hn1 : ¬ n = 0 := by omega
 obtain ⟨re, nu, ti, ki, cs, ow, ⟨ofr, ofn⟩, ⟨byr, byn⟩, am⟩ := p
 simp only at k1 k2 k3 k4 k5 h2 h3 h4 h5
 have HM := hid (isMany_any n)
 have HR := hid (refOf_any ⟨re, nu, ti, ki, cs, ow, ⟨ofr, ofn⟩, ⟨byr, byn⟩, am⟩)
 have HB := hid (bare_any ⟨re, nu, ti, ki, cs, ow, ⟨ofr, ofn⟩, ⟨byr, byn⟩, am⟩)
 have HI := hid (isRef_any n hn)
 unfold Po.me at *
 simp only [Po.val, Po.bare, Po.cells, Rf.val, Rf.cells] at *
 go_enter Tryz.func81, Tryz.ntmps81
 go_wp2_with (first
  | (go_at_call 75; refine (HM.out _).mono ?_; rintro e w' ⟨rfl, rfl⟩)
  | (go_at_call 106; refine (HR.out _).mono ?_; rintro e w' ⟨rfl, rfl⟩)
  | (go_at_call 175; refine (HB.out _).mono ?_; rintro e w' ⟨rfl, rfl⟩)
  | (go_at_call 83; refine (in_any _ _ _ _).mono ?_; rintro e w' ⟨rfl, rfl⟩)
  | (go_at_call 174; refine (HI.out ⟨_, _⟩ _).mono ?_; rintro e w' ⟨rfl, rfl⟩))
 all_goals
  go_ret
  refine ⟨rfl, (by go_grown)⟩
theorem formed_any (n : Int) (p : Po) (w : World) : Calls Tryz.prog 81 #[.int .i64 n, p.val] w fun e w' => e = .returned (.bool (formedB n p)) ∧ Below w.heap.size w w' := by
 have bad : ∀ {q : Bool}, preB n p = false → (Calls Tryz.prog 81 #[.int .i64 n, p.val] w fun e w' => e = .returned (.bool false) ∧ Below w.heap.size w w') → Calls Tryz.prog 81 #[.int .i64 n, p.val] w fun e w' => e = .returned (.bool (formedB n p)) ∧ Below w.heap.size w w' := fun h1 h2 => by
  rw [formedB, h1, Bool.false_and]; exact h2
 cases h1 : manyB n with
 | false => exact bad (q := true) (by simp [preB, h1]) (formed_bad1 n p w h1)
 | true =>
 cases h2 : isRefB n p.me with
 | false => exact bad (q := true) (by simp [preB, h1, h2]) (formed_bad2 n p w h1 h2)
 | true =>
 cases h3 : inB p.tick 0 100000 with
 | false => exact bad (q := true) (by simp [preB, h1, h2, h3]) (formed_bad3 n p w h1 h2 h3)
 | true =>
 cases h4 : inB p.owner 1 40 with
 | false => exact bad (q := true) (by simp [preB, h1, h2, h3, h4]) (formed_bad4 n p w h1 h2 h3 h4)
 | true =>
 cases h5 : inB p.amount 1 1000000 with
 | false => exact bad (q := true) (by simp [preB, h1, h2, h3, h4, h5]) (formed_bad5 n p w h1 h2 h3 h4 h5)
 | true =>
 have e : formedB n p = bodyB n p := by simp [formedB, preB, h1, h2, h3, h4, h5]
 rw [e]
 by_cases k1 : p.kind = 1
 ·exact formed_fine n p w h1 h2 h3 h4 h5 k1
 by_cases k2 : p.kind = 2
 ·exact formed_fee n p w h1 h2 h3 h4 h5 k2
 by_cases k3 : p.kind = 3
 ·exact formed_take n p w h1 h2 h3 h4 h5 k3
 by_cases k4 : p.kind = 4
 ·exact formed_pay n p w h1 h2 h3 h4 h5 k4
 by_cases k5 : p.kind = 5
 ·exact formed_waive n p w h1 h2 h3 h4 h5 k5
 have e2 : bodyB n p = false := by simp [bodyB, k1, k2, k3, k4, k5]
 rw [e2]
 exact formed_other n p w h1 h2 h3 h4 h5 k1 k2 k3 k4 k5
end Go.Proofs.YtocabeobfbhajaaGreatDoor
end
