/- The walk of a step of PoundDisk: Flush, Stop, Crash. -/
import Derived.Test.YtpgagihkicedeaaStepA
set_option linter.unusedSimpArgs false
set_option linter.unusedVariables false
namespace Go.Proofs.Ytpgagihkicedeaa
open Go Go.RowKit

theorem flush_two (D : Dk) : D.flush.1.las.length = D.las.length ∧ D.flush.1.pend.length ≤ D.pend.length + 1 := by
  unfold Dk.flush
  split
  · exact ⟨rfl, Nat.le_succ _⟩
  · split
    · unfold Dk.power
      split
      · simp
      · split <;> simp
    · unfold Dk.power
      split
      · simp [length_putAll]
      · split <;> simp [length_putAll]
theorem stop_two (D : Dk) (n : Int) : (D.stop n).1.las.length = D.las.length ∧ (D.stop n).1.pend.length ≤ D.pend.length + 1 := by
  unfold Dk.stop
  split
  · simp
  · split <;> simp
theorem crash_two (D : Dk) (keep : List Int) : (D.crash keep).las.length = D.las.length ∧ (D.crash keep).pend.length ≤ D.pend.length + 1 := by
  simp [Dk.crash, length_tearAll]

set_option maxHeartbeats 2000000 in
theorem step_flush {w : World} {d : DLoc} {r : RLoc} {D : Dk} (h : Two w d r D) (kd at_ n : Int) (hk : 0 ≤ kd ∧ kd ≤ 255) (bv kv : Value) (kk : kd % 5 = 2) :
    Calls Try.prog 14 #[.pointer (some ⟨d.b, 0, none⟩), .pointer (some ⟨r.b, 0, none⟩), .agg #[.int .u8 kd, .int .i64 at_, bv, .int .i64 n, kv]] w (StepPost d r D w) := by
  have hk1 : 0 ≤ kd := hk.1
  have hk2 : kd ≤ 255 := hk.2
  have b0 : ((kd % 5 : Int) == 0) = false := by simp; omega
  have b1 : ((kd % 5 : Int) == 1) = false := by simp; omega
  have b2 : ((kd % 5 : Int) == 2) = true := by simp; omega
  have HK := hid kk
  clear hk kk
  have lt1 := h.hd.lt
  have lt2 := h.hr.mem.lt
  go_enter Try.func14, Try.ntmps14
  go_wp2_with fail
  generalize hW : w.alloc (Obj.cells #[Value.int .u8 kd, Value.int .i64 at_, bv, Value.int .i64 n, kv] 43) = w1
  refine Mix.wp_region_mix [([(0, 0), (2, 0)], some 1), ([], some 3), ([(4, 0), (5, 0), (6, 0), (8, 0), (9, 0), (10, 0), (11, 1), (7, 2), (12, 0), (13, 0), (14, 0)], none)] (by kernel_rfl) (by kernel_rfl) (fun _ _ d _ _ h => by cases d <;> exact h) ?_
  generalize hW' : w1.drew = w2
  have c1 : Chg (fun _ => False) w w2 := by rw [← hW', ← hW]; exact ((Chg.refl _ w).alloc _).drew
  clear hW' hW
  have hd2 := h.hd.chg c1 (fun _ _ => id)
  have hr2 := h.hr.chg c1 (fun _ _ => id)
  have sz := c1.size
  have nd : ¬ d.F w.heap.size := fun hx => by have := lt1 _ hx; omega
  refine Mix.grps_some (fun w' => True) trivial ?_
  iterate 2 (first | (apply Mix.grp_pure; (focus (simp only [List.getElem?_toArray, List.getElem?_cons_succ, List.getElem?_cons_zero]; try exact rfl)); (focus rfl); (focus (intro w'; go_simp; try exact rfl)); simp only [Act.put, List.setIfInBounds_toArray, List.set_cons_succ, List.set_cons_zero]) | (apply Mix.grp_read; (focus (simp only [List.getElem?_toArray, List.getElem?_cons_succ, List.getElem?_cons_zero]; try exact rfl)); (focus rfl); (focus (intro w' hC; (repeat (obtain ⟨_, hC⟩ := hC)); go_simp; try exact rfl)); simp only [Act.put, List.setIfInBounds_toArray, List.set_cons_succ, List.set_cons_zero]))
  refine Mix.grp_nil ?_
  refine Mix.op_last (by rfl) (by rfl) ?_
  go_simp
  refine (flush_any hd2).mono ?_
  rintro e w3 ⟨rfl, d', hb', hd', hc', hf'⟩
  have P1 := hid (show DiskPost d D.flush.1 (.int .i64 D.flush.2) w2 (.returned (.int .i64 D.flush.2)) w3 from ⟨rfl, d', hb', hd', hc', hf'⟩)
  have hr3 := hr2.chg hc' (fun k h1 h2 => h.apart k h2 h1)
  refine Mix.grps_some (fun _ => True) trivial ?_
  refine Mix.grp_nil ?_
  refine Mix.op_last (by rfl) (by rfl) ?_
  go_simp
  refine (rflush_any hr3).mono ?_
  rintro e w4 ⟨rfl, r', hrb', hr', hrc', hrf'⟩
  have P2 := hid (show RefPost r D.flush.1 (.int .i64 D.flush.2) w3 (.returned (.int .i64 D.flush.2)) w4 from ⟨rfl, r', hrb', hr', hrc', hrf'⟩)
  have G := two_post h c1 P1.out P2.out (flush_two D).1 (flush_two D).2
  have G := hid G
  have hd4 : DiskAt w4 d' D.flush.1 := hd'.chg hrc' (fun k h1 h2 => by
    rcases hf' k h1 with h4 | h4
    · exact h.apart k h4 h2
    · have := lt2 k h2; have := hr2.mem.lt k h2; omega)
  have m4 := hr'.mem.cells.2.2.2.1
  rw [hrb'] at m4
  have nr : ∀ k, r.F k → k < w.heap.size := lt2
  clear P1 P2 hc' hf' hrc' hrf' hd2 hr2 hr3
  generalize D.flush.1 = D' at *
  generalize D.flush.2 = v at *
  refine Mix.grps_last (fun w' => w'.cell? ⟨r.b, 3, none⟩ = some (.bool D'.down)) m4 ?_
  iterate 7 (first | (apply Mix.grp_pure; (focus (simp only [List.getElem?_toArray, List.getElem?_cons_succ, List.getElem?_cons_zero]; try exact rfl)); (focus rfl); (focus (intro w'; go_simp; try exact rfl)); simp only [Act.put, List.setIfInBounds_toArray, List.set_cons_succ, List.set_cons_zero]) | (apply Mix.grp_read; (focus (simp only [List.getElem?_toArray, List.getElem?_cons_succ, List.getElem?_cons_zero]; try exact rfl)); (focus rfl); (focus (intro w' hC; (repeat (obtain ⟨_, hC⟩ := hC)); go_simp; try exact rfl)); simp only [Act.put, List.setIfInBounds_toArray, List.set_cons_succ, List.set_cons_zero]))
  refine Mix.grp_eff (by rfl) (by rfl) ?_
  go_simp
  have HD := down_any hd4
  rw [hb'] at HD
  refine HD.mono ?_
  rintro e w5 ⟨rfl, rfl⟩
  refine ⟨m4, ?_⟩
  iterate 3 (first | (apply Mix.grp_pure; (focus (simp only [List.getElem?_toArray, List.getElem?_cons_succ, List.getElem?_cons_zero]; try exact rfl)); (focus rfl); (focus (intro w'; go_simp; try exact rfl)); simp only [Act.put, List.setIfInBounds_toArray, List.set_cons_succ, List.set_cons_zero]) | (apply Mix.grp_read; (focus (simp only [List.getElem?_toArray, List.getElem?_cons_succ, List.getElem?_cons_zero]; try exact rfl)); (focus rfl); (focus (intro w' hC; (repeat (obtain ⟨_, hC⟩ := hC)); go_simp; try exact rfl)); simp only [Act.put, List.setIfInBounds_toArray, List.set_cons_succ, List.set_cons_zero]))
  refine Mix.grp_nil (Mix.grps_nil ?_)
  go_wp2
  refine bodyPost_ret (results_tmp rfl _ _ _) rfl ?_
  exact G.out

set_option maxHeartbeats 2000000 in
theorem step_stop {w : World} {d : DLoc} {r : RLoc} {D : Dk} (h : Two w d r D) (kd at_ n : Int) (hk : 0 ≤ kd ∧ kd ≤ 255) (hn : n ≤ 9223372036854775807) (bv kv : Value) (kk : kd % 5 = 3) :
    Calls Try.prog 14 #[.pointer (some ⟨d.b, 0, none⟩), .pointer (some ⟨r.b, 0, none⟩), .agg #[.int .u8 kd, .int .i64 at_, bv, .int .i64 n, kv]] w (StepPost d r D w) := by
  have hk1 : 0 ≤ kd := hk.1
  have hk2 : kd ≤ 255 := hk.2
  have b0 : ((kd % 5 : Int) == 0) = false := by simp; omega
  have b1 : ((kd % 5 : Int) == 1) = false := by simp; omega
  have b2 : ((kd % 5 : Int) == 2) = false := by simp; omega
  have b3 : ((kd % 5 : Int) == 3) = true := by simp; omega
  have HK := hid kk
  clear hk kk
  have lt1 := h.hd.lt
  have lt2 := h.hr.mem.lt
  go_enter Try.func14, Try.ntmps14
  go_wp2_with fail
  generalize hW : w.alloc (Obj.cells #[Value.int .u8 kd, Value.int .i64 at_, bv, Value.int .i64 n, kv] 43) = w1
  refine Mix.wp_region_mix [([(0, 0), (1, 0), (2, 1), (4, 0), (5, 0), (6, 1), (3, 2)], some 7), ([(8, 0), (9, 0), (10, 0), (12, 0), (13, 0), (14, 0), (15, 1), (11, 2), (16, 0), (17, 0), (18, 0)], none)] (by kernel_rfl) (by kernel_rfl) (fun _ _ d _ _ h => by cases d <;> exact h) ?_
  generalize hW' : w1.drew = w2
  have c1 : Chg (fun _ => False) w w2 := by rw [← hW', ← hW]; exact ((Chg.refl _ w).alloc _).drew
  have x3 : w2.cell? ⟨w.heap.size, 3, none⟩ = some (.int .i64 n) := by rw [← hW', ← hW]; simp
  clear hW' hW
  have hd2 := h.hd.chg c1 (fun _ _ => id)
  have hr2 := h.hr.chg c1 (fun _ _ => id)
  have sz := c1.size
  have nd : ¬ d.F w.heap.size := fun hx => by have := lt1 _ hx; omega
  refine Mix.grps_some (fun w' => w'.cell? ⟨w.heap.size, 3, none⟩ = some (.int .i64 n)) x3 ?_
  iterate 6 (first | (apply Mix.grp_pure; (focus (simp only [List.getElem?_toArray, List.getElem?_cons_succ, List.getElem?_cons_zero]; try exact rfl)); (focus rfl); (focus (intro w'; go_simp; try exact rfl)); simp only [Act.put, List.setIfInBounds_toArray, List.set_cons_succ, List.set_cons_zero]) | (apply Mix.grp_read; (focus (simp only [List.getElem?_toArray, List.getElem?_cons_succ, List.getElem?_cons_zero]; try exact rfl)); (focus rfl); (focus (intro w' hC; (repeat (obtain ⟨_, hC⟩ := hC)); go_simp; try exact rfl)); simp only [Act.put, List.setIfInBounds_toArray, List.set_cons_succ, List.set_cons_zero]))
  refine Mix.grp_eff (by rfl) (by rfl) ?_
  go_simp
  refine (stop_any hd2 n hn).mono ?_
  rintro e w3 ⟨rfl, d', hb', hd', hc', hf'⟩
  have P1 := hid (show DiskPost d (D.stop n).1 (.int .i64 (D.stop n).2) w2 (.returned (.int .i64 (D.stop n).2)) w3 from ⟨rfl, d', hb', hd', hc', hf'⟩)
  have hr3 := hr2.chg hc' (fun k h1 h2 => h.apart k h2 h1)
  refine ⟨hc'.cell x3 nd, ?_⟩
  refine Mix.grp_nil ?_
  refine Mix.op_last (by rfl) (by rfl) ?_
  go_simp
  refine (rstop_any hr3 n hn).mono ?_
  rintro e w4 ⟨rfl, r', hrb', hr', hrc', hrf'⟩
  have P2 := hid (show RefPost r (D.stop n).1 (.int .i64 (D.stop n).2) w3 (.returned (.int .i64 (D.stop n).2)) w4 from ⟨rfl, r', hrb', hr', hrc', hrf'⟩)
  have G := two_post h c1 P1.out P2.out (stop_two D n).1 (stop_two D n).2
  have G := hid G
  have hd4 : DiskAt w4 d' (D.stop n).1 := hd'.chg hrc' (fun k h1 h2 => by
    rcases hf' k h1 with h4 | h4
    · exact h.apart k h4 h2
    · have := lt2 k h2; have := hr2.mem.lt k h2; omega)
  have m4 := hr'.mem.cells.2.2.2.1
  rw [hrb'] at m4
  have nr : ∀ k, r.F k → k < w.heap.size := lt2
  clear P1 P2 hc' hf' hrc' hrf' hd2 hr2 hr3
  generalize (D.stop n).1 = D' at *
  generalize (D.stop n).2 = v at *
  refine Mix.grps_last (fun w' => w'.cell? ⟨r.b, 3, none⟩ = some (.bool D'.down)) m4 ?_
  iterate 7 (first | (apply Mix.grp_pure; (focus (simp only [List.getElem?_toArray, List.getElem?_cons_succ, List.getElem?_cons_zero]; try exact rfl)); (focus rfl); (focus (intro w'; go_simp; try exact rfl)); simp only [Act.put, List.setIfInBounds_toArray, List.set_cons_succ, List.set_cons_zero]) | (apply Mix.grp_read; (focus (simp only [List.getElem?_toArray, List.getElem?_cons_succ, List.getElem?_cons_zero]; try exact rfl)); (focus rfl); (focus (intro w' hC; (repeat (obtain ⟨_, hC⟩ := hC)); go_simp; try exact rfl)); simp only [Act.put, List.setIfInBounds_toArray, List.set_cons_succ, List.set_cons_zero]))
  refine Mix.grp_eff (by rfl) (by rfl) ?_
  go_simp
  have HD := down_any hd4
  rw [hb'] at HD
  refine HD.mono ?_
  rintro e w5 ⟨rfl, rfl⟩
  refine ⟨m4, ?_⟩
  iterate 3 (first | (apply Mix.grp_pure; (focus (simp only [List.getElem?_toArray, List.getElem?_cons_succ, List.getElem?_cons_zero]; try exact rfl)); (focus rfl); (focus (intro w'; go_simp; try exact rfl)); simp only [Act.put, List.setIfInBounds_toArray, List.set_cons_succ, List.set_cons_zero]) | (apply Mix.grp_read; (focus (simp only [List.getElem?_toArray, List.getElem?_cons_succ, List.getElem?_cons_zero]; try exact rfl)); (focus rfl); (focus (intro w' hC; (repeat (obtain ⟨_, hC⟩ := hC)); go_simp; try exact rfl)); simp only [Act.put, List.setIfInBounds_toArray, List.set_cons_succ, List.set_cons_zero]))
  refine Mix.grp_nil (Mix.grps_nil ?_)
  go_wp2
  refine bodyPost_ret (results_tmp rfl _ _ _) rfl ?_
  exact G.out

set_option maxHeartbeats 2000000 in
theorem step_crash {w : World} {d : DLoc} {r : RLoc} {D : Dk} (h : Two w d r D) (kd at_ n : Int) (hk : 0 ≤ kd ∧ kd ≤ 255) (keep : List Int) (ka : Option Addr) (kcap : Nat) (hka : IntsAt w ka keep) (hkm : keep.length ≤ maxLen)
    (hkF : keep ≠ [] → ∀ x, ka = some x → ¬ d.F x.block ∧ ¬ r.F x.block) (hkr : ∀ n ∈ keep, -9223372036854775808 ≤ n ∧ n ≤ 9223372036854775807) (bv : Value) (kk : kd % 5 = 4) :
    Calls Try.prog 14 #[.pointer (some ⟨d.b, 0, none⟩), .pointer (some ⟨r.b, 0, none⟩), .agg #[.int .u8 kd, .int .i64 at_, bv, .int .i64 n, .slice ka keep.length kcap]] w (StepPost d r D w) := by
  have hk1 : 0 ≤ kd := hk.1
  have hk2 : kd ≤ 255 := hk.2
  have b0 : ((kd % 5 : Int) == 0) = false := by simp; omega
  have b1 : ((kd % 5 : Int) == 1) = false := by simp; omega
  have b2 : ((kd % 5 : Int) == 2) = false := by simp; omega
  have b3 : ((kd % 5 : Int) == 3) = false := by simp; omega
  have HK := hid kk
  clear hk kk
  have lt1 := h.hd.lt
  have lt2 := h.hr.mem.lt
  go_enter Try.func14, Try.ntmps14
  go_wp2_with fail
  generalize hW : w.alloc (Obj.cells #[Value.int .u8 kd, Value.int .i64 at_, bv, Value.int .i64 n, .slice ka keep.length kcap] 43) = w2
  have c1 : Chg (fun _ => False) w w2 := by rw [← hW]; exact ((Chg.refl _ w).alloc _)
  have x4 : w2.cell? ⟨w.heap.size, 4, none⟩ = some (.slice ka keep.length kcap) := by rw [← hW]; simp
  clear hW
  have hd2 := h.hd.chg c1 (fun _ _ => id)
  have hr2 := h.hr.chg c1 (fun _ _ => id)
  have sz := c1.size
  have nd : ¬ d.F w.heap.size := fun hx => by have := lt1 _ hx; omega
  have hka2 := hka.chg c1 (fun _ _ _ => id)
  refine (crash_any hd2 keep ka kcap hka2 hkm (fun h0 x hx => (hkF h0 x hx).1) hkr).mono ?_
  rintro e w3 ⟨rfl, d', hb', hd', hc', hf'⟩
  have P1 := hid (show DiskPost d (D.crash keep) (.tuple #[]) w2 (.returned (.tuple #[])) w3 from ⟨rfl, d', hb', hd', hc', hf'⟩)
  have hr3 := hr2.chg hc' (fun k h1 h2 => h.apart k h2 h1)
  have x4' := hc'.cell x4 nd
  have hka3 := hka2.chg hc' (fun h0 x hx => (hkF h0 x hx).1)
  clear hd2 hr2 x4 nd
  go_wp2_with fail
  refine (rcrash_any hr3 keep ka kcap hka3 hkm (fun h0 x hx => (hkF h0 x hx).2) hkr).mono ?_
  rintro e w4 ⟨rfl, r', hrb', hr', hrc', hrf'⟩
  have P2 := hid (show RefPost r (D.crash keep) (.tuple #[]) w3 (.returned (.tuple #[])) w4 from ⟨rfl, r', hrb', hr', hrc', hrf'⟩)
  have G := two_post h c1 P1.out P2.out (crash_two D keep).1 (crash_two D keep).2
  have G := hid G
  have hr2' := h.hr.chg c1 (fun _ _ => id)
  have hd4 : DiskAt w4 d' (D.crash keep) := hd'.chg hrc' (fun k h1 h2 => by
    rcases hf' k h1 with h4 | h4
    · exact h.apart k h4 h2
    · have := lt2 k h2; have := hr2'.mem.lt k h2; omega)
  have m4 := hr'.mem.cells.2.2.2.1
  rw [hrb'] at m4
  clear P1 P2 hc' hf' hrc' hrf' hr3 hr2' hka2 hka3 x4'
  generalize D.crash keep = D' at *
  go_wp2_with fail
  refine Mix.wp_region_mix [([(0, 0), (2, 0), (3, 0), (4, 0), (5, 1), (1, 2), (6, 0), (7, 0)], none)] (by kernel_rfl) (by kernel_rfl) (fun _ _ d _ _ h => by cases d <;> exact h) ?_
  generalize hW' : w4.drew = w5
  have hd5 : DiskAt w5 d' D' := by rw [← hW']; exact hd4.drew
  have m5 : w5.cell? ⟨r.b, 3, none⟩ = some (.bool D'.down) := by rw [← hW']; exact m4
  have G5 : StepPost d r D w (.returned (.bool true)) w5 := by
    rw [← hW']
    obtain ⟨_, d2, r2, D2, a1, a2, a3, a4, a5, a6, a7, a8⟩ := G.out
    exact ⟨rfl, d2, r2, D2, a1, a2, ⟨a3.hd.drew, a3.hr.stay (fun _ _ => rfl), a3.apart⟩, a4, a5, a6.drew, a7, a8⟩
  have G5 := hid G5
  clear hW' G
  refine Mix.grps_last (fun w' => w'.cell? ⟨r.b, 3, none⟩ = some (.bool D'.down)) m5 ?_
  iterate 5 (first | (apply Mix.grp_pure; (focus (simp only [List.getElem?_toArray, List.getElem?_cons_succ, List.getElem?_cons_zero]; try exact rfl)); (focus rfl); (focus (intro w'; go_simp; try exact rfl)); simp only [Act.put, List.setIfInBounds_toArray, List.set_cons_succ, List.set_cons_zero]) | (apply Mix.grp_read; (focus (simp only [List.getElem?_toArray, List.getElem?_cons_succ, List.getElem?_cons_zero]; try exact rfl)); (focus rfl); (focus (intro w' hC; (repeat (obtain ⟨_, hC⟩ := hC)); go_simp; try exact rfl)); simp only [Act.put, List.setIfInBounds_toArray, List.set_cons_succ, List.set_cons_zero]))
  refine Mix.grp_eff (by rfl) (by rfl) ?_
  go_simp
  have HD := down_any hd5
  rw [hb'] at HD
  refine HD.mono ?_
  rintro e w6 ⟨rfl, rfl⟩
  refine ⟨m5, ?_⟩
  iterate 2 (first | (apply Mix.grp_pure; (focus (simp only [List.getElem?_toArray, List.getElem?_cons_succ, List.getElem?_cons_zero]; try exact rfl)); (focus rfl); (focus (intro w'; go_simp; try exact rfl)); simp only [Act.put, List.setIfInBounds_toArray, List.set_cons_succ, List.set_cons_zero]) | (apply Mix.grp_read; (focus (simp only [List.getElem?_toArray, List.getElem?_cons_succ, List.getElem?_cons_zero]; try exact rfl)); (focus rfl); (focus (intro w' hC; (repeat (obtain ⟨_, hC⟩ := hC)); go_simp; try exact rfl)); simp only [Act.put, List.setIfInBounds_toArray, List.set_cons_succ, List.set_cons_zero]))
  refine Mix.grp_nil (Mix.grps_nil ?_)
  go_wp2
  refine bodyPost_ret (results_tmp rfl _ _ _) rfl ?_
  exact G5.out
end Go.Proofs.Ytpgagihkicedeaa
