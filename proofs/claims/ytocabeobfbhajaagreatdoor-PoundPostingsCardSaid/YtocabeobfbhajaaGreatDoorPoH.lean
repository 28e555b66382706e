/- The reference: formed by kinds, CheckPosting. -/
import Derived.Test.YtocabeobfbhajaaGreatDoorAllE
set_option linter.unusedVariables false
set_option linter.unusedSimpArgs false
set_option linter.unusedSectionVars false
section
set_option maxRecDepth 100000
namespace Go.Proofs.YtocabeobfbhajaaGreatDoor
open Go Go.RowKit
attribute [local go_sem] if_ok Bool.and_true
set_option maxHeartbeats 2000000 in
theorem rformed_fine (n : Int) (p : Po) (w : World) (h1 : manyB n = true) (ha : inB p.reeve 0 (n - 1) = true) (hb : inB p.number 1 300 = true) (h3 : inB p.tick 0 100000 = true) (h4 : inB p.owner 1 40 = true) (h5 : inB p.amount 1 1000000 = true) (hk : p.kind = 1) : Calls Tryz.prog 82 #[.int .i64 n, p.val] w fun e w' => e = .returned (.bool (bodyB n p)) ∧ Below w.heap.size w w' := by
 have h35 : n = 3 ∨ n = 5 := by unfold manyB at h1; simpa using h1
 have hn : -9223372036854775807 ≤ n ∧ n ≤ 9223372036854775807 := by omega
 have hn0 : (n == 0) = false := by simp; omega
 have hn1 : ¬ n = 0 := by omega
 have hn2 : 3 ≤ n := by omega
 have hn3 : n ≤ 5 := by omega
 obtain ⟨re, nu, ti, ki, cs, ow, ⟨ofr, ofn⟩, ⟨byr, byn⟩, am⟩ := p
 simp only at hk ha hb h3 h4 h5
 subst hk
 have HI := hid (risRef_any n hn)
 simp only [Po.val, Po.cells, Rf.val, Rf.cells] at *
 clear h35 hn
 go_enter Tryz.func82, Tryz.ntmps82
 go_wp2_with (first
  | (go_at_call 176; refine (within_any _ _ _ _).mono ?_; rintro e w' ⟨rfl, rfl⟩)
  | (go_at_call 177; refine (HI.out ⟨_, _⟩ _).mono ?_; rintro e w' ⟨rfl, rfl⟩))
 refine Mix.wp_region_mix [([(0, 0), (1, 1)], some 2), ([(3, 0), (4, 0), (5, 1), (6, 0), (7, 0), (8, 0), (9, 1), (10, 0), (11, 0), (12, 0), (13, 0), (14, 1), (15, 1), (16, 0), (17, 0), (18, 0), (19, 0), (20, 1), (21, 1), (22, 0), (23, 0), (24, 0)], none)] (by kernel_rfl) (by kernel_rfl) (fun _ _ d _ _ h => by cases d <;> exact h) ?_
 refine Mix.grps_some (fun w' => w' = _) rfl ?_
 repeat' (first | (apply Mix.grp_bool; (focus (simp only [List.getElem?_toArray, List.getElem?_cons_succ, List.getElem?_cons_zero]; try exact rfl)); (focus rfl); (focus (intro w'; go_simp; try with_reducible exact rfl)); all_goals (intro hb; first | (cases hb; done) | skip); all_goals simp only [Act.put, List.setIfInBounds_toArray, List.set_cons_succ, List.set_cons_zero]) | (apply Mix.grp_pure; (focus (simp only [List.getElem?_toArray, List.getElem?_cons_succ, List.getElem?_cons_zero]; try exact rfl)); (focus rfl); (focus (intro w'; go_simp; try with_reducible exact rfl)); simp only [Act.put, List.setIfInBounds_toArray, List.set_cons_succ, List.set_cons_zero]) | (apply Mix.grp_read; (focus (simp only [List.getElem?_toArray, List.getElem?_cons_succ, List.getElem?_cons_zero]; try exact rfl)); (focus rfl); (focus (intro w' hC; (first | subst hC | (repeat (obtain ⟨_, hC⟩ := hC))); go_simp; try with_reducible exact rfl)); simp only [Act.put, List.setIfInBounds_toArray, List.set_cons_succ, List.set_cons_zero]) | (apply Mix.grp_skip0; (focus (simp only [List.getElem?_toArray, List.getElem?_cons_succ, List.getElem?_cons_zero]; try exact rfl)); (focus rfl); simp only [Act.put, List.setIfInBounds_toArray, List.set_cons_succ, List.set_cons_zero]) | (apply Mix.grp_skip1; (focus (simp only [List.getElem?_toArray, List.getElem?_cons_succ, List.getElem?_cons_zero]; try exact rfl)); (focus rfl); simp only [Act.put, List.setIfInBounds_toArray, List.set_cons_succ, List.set_cons_zero]))
 all_goals refine Mix.grp_nil ?_
 all_goals ((apply Mix.op_last; (focus (simp only [List.getElem?_toArray, List.getElem?_cons_succ, List.getElem?_cons_zero]; try exact rfl)); (focus rfl)); go_simp; refine (within_any _ _ _ _).mono ?_; rintro e w' ⟨rfl, rfl⟩; try simp only [Act.put, List.setIfInBounds_toArray, List.set_cons_succ, List.set_cons_zero])
 all_goals refine Mix.grps_last (fun w' => w' = _) rfl ?_
 repeat' (first | (apply Mix.grp_bool; (focus (simp only [List.getElem?_toArray, List.getElem?_cons_succ, List.getElem?_cons_zero]; try exact rfl)); (focus rfl); (focus (intro w'; go_simp; try with_reducible exact rfl)); all_goals (intro hb; first | (cases hb; done) | skip); all_goals simp only [Act.put, List.setIfInBounds_toArray, List.set_cons_succ, List.set_cons_zero]) | (apply Mix.grp_pure; (focus (simp only [List.getElem?_toArray, List.getElem?_cons_succ, List.getElem?_cons_zero]; try exact rfl)); (focus rfl); (focus (intro w'; go_simp; try with_reducible exact rfl)); simp only [Act.put, List.setIfInBounds_toArray, List.set_cons_succ, List.set_cons_zero]) | (apply Mix.grp_read; (focus (simp only [List.getElem?_toArray, List.getElem?_cons_succ, List.getElem?_cons_zero]; try exact rfl)); (focus rfl); (focus (intro w' hC; (first | subst hC | (repeat (obtain ⟨_, hC⟩ := hC))); go_simp; try with_reducible exact rfl)); simp only [Act.put, List.setIfInBounds_toArray, List.set_cons_succ, List.set_cons_zero]) | (apply Mix.grp_skip0; (focus (simp only [List.getElem?_toArray, List.getElem?_cons_succ, List.getElem?_cons_zero]; try exact rfl)); (focus rfl); simp only [Act.put, List.setIfInBounds_toArray, List.set_cons_succ, List.set_cons_zero]) | (apply Mix.grp_skip1; (focus (simp only [List.getElem?_toArray, List.getElem?_cons_succ, List.getElem?_cons_zero]; try exact rfl)); (focus rfl); simp only [Act.put, List.setIfInBounds_toArray, List.set_cons_succ, List.set_cons_zero]))
 all_goals refine Mix.grp_nil (Mix.grps_nil ?_)
 all_goals go_wp2
 all_goals
  go_ret
  refine ⟨?_, (by go_grown)⟩
  refine congrArg (fun b => Ending.returned (Value.bool b)) (?_ : _ = bodyB _ _)
  clear HI
  simp_all [bodyB, zeroRf, rf_beq]
  try first | exact Bool.and_comm _ _ | (intros; omega)
set_option maxHeartbeats 2000000 in
theorem rformed_fee (n : Int) (p : Po) (w : World) (h1 : manyB n = true) (ha : inB p.reeve 0 (n - 1) = true) (hb : inB p.number 1 300 = true) (h3 : inB p.tick 0 100000 = true) (h4 : inB p.owner 1 40 = true) (h5 : inB p.amount 1 1000000 = true) (hk : p.kind = 2) : Calls Tryz.prog 82 #[.int .i64 n, p.val] w fun e w' => e = .returned (.bool (bodyB n p)) ∧ Below w.heap.size w w' := by
 have h35 : n = 3 ∨ n = 5 := by unfold manyB at h1; simpa using h1
 have hn : -9223372036854775807 ≤ n ∧ n ≤ 9223372036854775807 := by omega
 have hn0 : (n == 0) = false := by simp; omega
 have hn1 : ¬ n = 0 := by omega
 have hn2 : 3 ≤ n := by omega
 have hn3 : n ≤ 5 := by omega
 obtain ⟨re, nu, ti, ki, cs, ow, ⟨ofr, ofn⟩, ⟨byr, byn⟩, am⟩ := p
 simp only at hk ha hb h3 h4 h5
 subst hk
 have HI := hid (risRef_any n hn)
 simp only [Po.val, Po.cells, Rf.val, Rf.cells] at *
 clear h35 hn
 go_enter Tryz.func82, Tryz.ntmps82
 go_wp2_with (first
  | (go_at_call 176; refine (within_any _ _ _ _).mono ?_; rintro e w' ⟨rfl, rfl⟩)
  | (go_at_call 177; refine (HI.out ⟨_, _⟩ _).mono ?_; rintro e w' ⟨rfl, rfl⟩))
 refine Mix.wp_region_mix [([(0, 0), (1, 1)], some 2), ([(3, 0), (4, 0), (5, 1), (6, 0), (7, 0), (8, 0), (9, 1), (10, 0), (11, 0), (12, 0), (13, 0), (14, 1), (15, 1), (16, 0), (17, 0), (18, 0), (19, 0), (20, 1), (21, 1), (22, 0), (23, 0), (24, 0)], none)] (by kernel_rfl) (by kernel_rfl) (fun _ _ d _ _ h => by cases d <;> exact h) ?_
 refine Mix.grps_some (fun w' => w' = _) rfl ?_
 repeat' (first | (apply Mix.grp_bool; (focus (simp only [List.getElem?_toArray, List.getElem?_cons_succ, List.getElem?_cons_zero]; try exact rfl)); (focus rfl); (focus (intro w'; go_simp; try with_reducible exact rfl)); all_goals (intro hb; first | (cases hb; done) | skip); all_goals simp only [Act.put, List.setIfInBounds_toArray, List.set_cons_succ, List.set_cons_zero]) | (apply Mix.grp_pure; (focus (simp only [List.getElem?_toArray, List.getElem?_cons_succ, List.getElem?_cons_zero]; try exact rfl)); (focus rfl); (focus (intro w'; go_simp; try with_reducible exact rfl)); simp only [Act.put, List.setIfInBounds_toArray, List.set_cons_succ, List.set_cons_zero]) | (apply Mix.grp_read; (focus (simp only [List.getElem?_toArray, List.getElem?_cons_succ, List.getElem?_cons_zero]; try exact rfl)); (focus rfl); (focus (intro w' hC; (first | subst hC | (repeat (obtain ⟨_, hC⟩ := hC))); go_simp; try with_reducible exact rfl)); simp only [Act.put, List.setIfInBounds_toArray, List.set_cons_succ, List.set_cons_zero]) | (apply Mix.grp_skip0; (focus (simp only [List.getElem?_toArray, List.getElem?_cons_succ, List.getElem?_cons_zero]; try exact rfl)); (focus rfl); simp only [Act.put, List.setIfInBounds_toArray, List.set_cons_succ, List.set_cons_zero]) | (apply Mix.grp_skip1; (focus (simp only [List.getElem?_toArray, List.getElem?_cons_succ, List.getElem?_cons_zero]; try exact rfl)); (focus rfl); simp only [Act.put, List.setIfInBounds_toArray, List.set_cons_succ, List.set_cons_zero]))
 all_goals refine Mix.grp_nil ?_
 all_goals ((apply Mix.op_last; (focus (simp only [List.getElem?_toArray, List.getElem?_cons_succ, List.getElem?_cons_zero]; try exact rfl)); (focus rfl)); go_simp; refine (within_any _ _ _ _).mono ?_; rintro e w' ⟨rfl, rfl⟩; try simp only [Act.put, List.setIfInBounds_toArray, List.set_cons_succ, List.set_cons_zero])
 all_goals refine Mix.grps_last (fun w' => w' = _) rfl ?_
 repeat' (first | (apply Mix.grp_bool; (focus (simp only [List.getElem?_toArray, List.getElem?_cons_succ, List.getElem?_cons_zero]; try exact rfl)); (focus rfl); (focus (intro w'; go_simp; try with_reducible exact rfl)); all_goals (intro hb; first | (cases hb; done) | skip); all_goals simp only [Act.put, List.setIfInBounds_toArray, List.set_cons_succ, List.set_cons_zero]) | (apply Mix.grp_pure; (focus (simp only [List.getElem?_toArray, List.getElem?_cons_succ, List.getElem?_cons_zero]; try exact rfl)); (focus rfl); (focus (intro w'; go_simp; try with_reducible exact rfl)); simp only [Act.put, List.setIfInBounds_toArray, List.set_cons_succ, List.set_cons_zero]) | (apply Mix.grp_read; (focus (simp only [List.getElem?_toArray, List.getElem?_cons_succ, List.getElem?_cons_zero]; try exact rfl)); (focus rfl); (focus (intro w' hC; (first | subst hC | (repeat (obtain ⟨_, hC⟩ := hC))); go_simp; try with_reducible exact rfl)); simp only [Act.put, List.setIfInBounds_toArray, List.set_cons_succ, List.set_cons_zero]) | (apply Mix.grp_skip0; (focus (simp only [List.getElem?_toArray, List.getElem?_cons_succ, List.getElem?_cons_zero]; try exact rfl)); (focus rfl); simp only [Act.put, List.setIfInBounds_toArray, List.set_cons_succ, List.set_cons_zero]) | (apply Mix.grp_skip1; (focus (simp only [List.getElem?_toArray, List.getElem?_cons_succ, List.getElem?_cons_zero]; try exact rfl)); (focus rfl); simp only [Act.put, List.setIfInBounds_toArray, List.set_cons_succ, List.set_cons_zero]))
 all_goals refine Mix.grp_nil (Mix.grps_nil ?_)
 all_goals go_wp2
 all_goals
  go_ret
  refine ⟨?_, (by go_grown)⟩
  refine congrArg (fun b => Ending.returned (Value.bool b)) (?_ : _ = bodyB _ _)
  clear HI
  simp_all [bodyB, zeroRf, rf_beq]
  try first | exact Bool.and_comm _ _ | (intros; omega)
set_option maxHeartbeats 2000000 in
theorem rformed_take (n : Int) (p : Po) (w : World) (h1 : manyB n = true) (ha : inB p.reeve 0 (n - 1) = true) (hb : inB p.number 1 300 = true) (h3 : inB p.tick 0 100000 = true) (h4 : inB p.owner 1 40 = true) (h5 : inB p.amount 1 1000000 = true) (hk : p.kind = 3) : Calls Tryz.prog 82 #[.int .i64 n, p.val] w fun e w' => e = .returned (.bool (bodyB n p)) ∧ Below w.heap.size w w' := by
 have h35 : n = 3 ∨ n = 5 := by unfold manyB at h1; simpa using h1
 have hn : -9223372036854775807 ≤ n ∧ n ≤ 9223372036854775807 := by omega
 have hn0 : (n == 0) = false := by simp; omega
 have hn1 : ¬ n = 0 := by omega
 have hn2 : 3 ≤ n := by omega
 have hn3 : n ≤ 5 := by omega
 obtain ⟨re, nu, ti, ki, cs, ow, ⟨ofr, ofn⟩, ⟨byr, byn⟩, am⟩ := p
 simp only at hk ha hb h3 h4 h5
 subst hk
 have HI := hid (risRef_any n hn)
 simp only [Po.val, Po.cells, Rf.val, Rf.cells] at *
 clear h35 hn
 go_enter Tryz.func82, Tryz.ntmps82
 go_wp2_with (first
  | (go_at_call 176; refine (within_any _ _ _ _).mono ?_; rintro e w' ⟨rfl, rfl⟩)
  | (go_at_call 177; refine (HI.out ⟨_, _⟩ _).mono ?_; rintro e w' ⟨rfl, rfl⟩))
 all_goals
  go_ret
  refine ⟨?_, (by go_grown)⟩
  refine congrArg (fun b => Ending.returned (Value.bool b)) (?_ : _ = bodyB _ _)
  clear HI
  simp_all [bodyB, zeroRf, rf_beq]
  try first | exact Bool.and_comm _ _ | (intros; omega)
set_option maxHeartbeats 2000000 in
theorem rformed_pay (n : Int) (p : Po) (w : World) (h1 : manyB n = true) (ha : inB p.reeve 0 (n - 1) = true) (hb : inB p.number 1 300 = true) (h3 : inB p.tick 0 100000 = true) (h4 : inB p.owner 1 40 = true) (h5 : inB p.amount 1 1000000 = true) (hk : p.kind = 4) : Calls Tryz.prog 82 #[.int .i64 n, p.val] w fun e w' => e = .returned (.bool (bodyB n p)) ∧ Below w.heap.size w w' := by
 have h35 : n = 3 ∨ n = 5 := by unfold manyB at h1; simpa using h1
 have hn : -9223372036854775807 ≤ n ∧ n ≤ 9223372036854775807 := by omega
 have hn0 : (n == 0) = false := by simp; omega
 have hn1 : ¬ n = 0 := by omega
 have hn2 : 3 ≤ n := by omega
 have hn3 : n ≤ 5 := by omega
 obtain ⟨re, nu, ti, ki, cs, ow, ⟨ofr, ofn⟩, ⟨byr, byn⟩, am⟩ := p
 simp only at hk ha hb h3 h4 h5
 subst hk
 have HI := hid (risRef_any n hn)
 simp only [Po.val, Po.cells, Rf.val, Rf.cells] at *
 clear h35 hn
 go_enter Tryz.func82, Tryz.ntmps82
 go_wp2_with (first
  | (go_at_call 176; refine (within_any _ _ _ _).mono ?_; rintro e w' ⟨rfl, rfl⟩)
  | (go_at_call 177; refine (HI.out ⟨_, _⟩ _).mono ?_; rintro e w' ⟨rfl, rfl⟩))
 all_goals
  go_ret
  refine ⟨?_, (by go_grown)⟩
  refine congrArg (fun b => Ending.returned (Value.bool b)) (?_ : _ = bodyB _ _)
  clear HI
  simp_all [bodyB, zeroRf, rf_beq]
  try first | exact Bool.and_comm _ _ | (intros; omega)
set_option maxHeartbeats 2000000 in
theorem rformed_waive (n : Int) (p : Po) (w : World) (h1 : manyB n = true) (ha : inB p.reeve 0 (n - 1) = true) (hb : inB p.number 1 300 = true) (h3 : inB p.tick 0 100000 = true) (h4 : inB p.owner 1 40 = true) (h5 : inB p.amount 1 1000000 = true) (hk : p.kind = 5) : Calls Tryz.prog 82 #[.int .i64 n, p.val] w fun e w' => e = .returned (.bool (bodyB n p)) ∧ Below w.heap.size w w' := by
 have h35 : n = 3 ∨ n = 5 := by unfold manyB at h1; simpa using h1
 have hn : -9223372036854775807 ≤ n ∧ n ≤ 9223372036854775807 := by omega
 have hn0 : (n == 0) = false := by simp; omega
 have hn1 : ¬ n = 0 := by omega
 have hn2 : 3 ≤ n := by omega
 have hn3 : n ≤ 5 := by omega
 obtain ⟨re, nu, ti, ki, cs, ow, ⟨ofr, ofn⟩, ⟨byr, byn⟩, am⟩ := p
 simp only at hk ha hb h3 h4 h5
 subst hk
 have HI := hid (risRef_any n hn)
 simp only [Po.val, Po.cells, Rf.val, Rf.cells] at *
 clear h35 hn
 go_enter Tryz.func82, Tryz.ntmps82
 go_wp2_with (first
  | (go_at_call 176; refine (within_any _ _ _ _).mono ?_; rintro e w' ⟨rfl, rfl⟩)
  | (go_at_call 177; refine (HI.out ⟨_, _⟩ _).mono ?_; rintro e w' ⟨rfl, rfl⟩))
 all_goals
  go_ret
  refine ⟨?_, (by go_grown)⟩
  refine congrArg (fun b => Ending.returned (Value.bool b)) (?_ : _ = bodyB _ _)
  clear HI
  simp_all [bodyB, zeroRf, rf_beq]
  try first | exact Bool.and_comm _ _ | (intros; omega)
set_option maxHeartbeats 2000000 in
theorem rformed_other (n : Int) (p : Po) (w : World) (h1 : manyB n = true) (ha : inB p.reeve 0 (n - 1) = true) (hb : inB p.number 1 300 = true) (h3 : inB p.tick 0 100000 = true) (h4 : inB p.owner 1 40 = true) (h5 : inB p.amount 1 1000000 = true) (k1 : ¬ p.kind = 1) (k2 : ¬ p.kind = 2) (k3 : ¬ p.kind = 3) (k4 : ¬ p.kind = 4) (k5 : ¬ p.kind = 5) : Calls Tryz.prog 82 #[.int .i64 n, p.val] w fun e w' => e = .returned (.bool false) ∧ Below w.heap.size w w' := by
 have h35 : n = 3 ∨ n = 5 := by unfold manyB at h1; simpa using h1
 have hn : -9223372036854775807 ≤ n ∧ n ≤ 9223372036854775807 := by omega
 have hn0 : (n == 0) = false := by simp; omega
 have hn1 : ¬ n = 0 := by omega
 have hn2 : 3 ≤ n := by omega
 have hn3 : n ≤ 5 := by omega
 obtain ⟨re, nu, ti, ki, cs, ow, ⟨ofr, ofn⟩, ⟨byr, byn⟩, am⟩ := p
 simp only at k1 k2 k3 k4 k5 ha hb h3 h4 h5
 have HI := hid (risRef_any n hn)
 simp only [Po.val, Po.cells, Rf.val, Rf.cells] at *
 clear h35 hn
 go_enter Tryz.func82, Tryz.ntmps82
 go_wp2_with (first
  | (go_at_call 176; refine (within_any _ _ _ _).mono ?_; rintro e w' ⟨rfl, rfl⟩)
  | (go_at_call 177; refine (HI.out ⟨_, _⟩ _).mono ?_; rintro e w' ⟨rfl, rfl⟩))
 all_goals
  go_ret
  refine ⟨rfl, (by go_grown)⟩
theorem rformed_any (n : Int) (p : Po) (w : World) (h1 : manyB n = true) : Calls Tryz.prog 82 #[.int .i64 n, p.val] w fun e w' => e = .returned (.bool (formedB n p)) ∧ Below w.heap.size w w' := by
 have bad : preB n p = false → (Calls Tryz.prog 82 #[.int .i64 n, p.val] w fun e w' => e = .returned (.bool false) ∧ Below w.heap.size w w') → Calls Tryz.prog 82 #[.int .i64 n, p.val] w fun e w' => e = .returned (.bool (formedB n p)) ∧ Below w.heap.size w w' := fun h1 h2 => by
  rw [formedB, h1, Bool.false_and]; exact h2
 cases ha : inB p.reeve 0 (n - 1) with
 | false => exact bad (by simp [preB, isRefB, Po.me, h1, ha]) (rformed_bad1 n p w h1 ha)
 | true =>
 cases hb : inB p.number 1 300 with
 | false => exact bad (by simp [preB, isRefB, Po.me, h1, ha, hb]) (rformed_bad2 n p w h1 ha hb)
 | true =>
 cases h3 : inB p.tick 0 100000 with
 | false => exact bad (by simp [preB, h1, h3]) (rformed_bad3 n p w h1 ha hb h3)
 | true =>
 cases h4 : inB p.owner 1 40 with
 | false => exact bad (by simp [preB, h1, h3, h4]) (rformed_bad4 n p w h1 ha hb h3 h4)
 | true =>
 cases h5 : inB p.amount 1 1000000 with
 | false => exact bad (by simp [preB, h1, h3, h4, h5]) (rformed_bad5 n p w h1 ha hb h3 h4 h5)
 | true =>
 have e : formedB n p = bodyB n p := by simp [formedB, preB, isRefB, Po.me, h1, ha, hb, h3, h4, h5]
 rw [e]
 by_cases k1 : p.kind = 1
 ·exact rformed_fine n p w h1 ha hb h3 h4 h5 k1
 by_cases k2 : p.kind = 2
 ·exact rformed_fee n p w h1 ha hb h3 h4 h5 k2
 by_cases k3 : p.kind = 3
 ·exact rformed_take n p w h1 ha hb h3 h4 h5 k3
 by_cases k4 : p.kind = 4
 ·exact rformed_pay n p w h1 ha hb h3 h4 h5 k4
 by_cases k5 : p.kind = 5
 ·exact rformed_waive n p w h1 ha hb h3 h4 h5 k5
 have e2 : bodyB n p = false := by simp [bodyB, k1, k2, k3, k4, k5]
 rw [e2]
 exact rformed_other n p w h1 ha hb h3 h4 h5 k1 k2 k3 k4 k5
end Go.Proofs.YtocabeobfbhajaaGreatDoor
end
