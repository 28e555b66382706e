/- The walk of a step of PoundDisk: Read. -/
import Derived.Test.YtpgagihkicedeaaStepB
set_option linter.unusedSimpArgs false
set_option linter.unusedVariables false
namespace Go.Proofs.Ytpgagihkicedeaa
open Go Go.RowKit

theorem rread_err {w : World} {r : RLoc} {D : Dk} (h : RefAt w r D) (at_ : Int) (hp : D.place at_ ≠ 0) :
    Calls Try.prog 20 #[.pointer (some ⟨r.b, 0, none⟩), .int .i64 at_] w fun e w' => e = .returned (.tuple #[sv [], .int .i64 (D.place at_)]) ∧ w = w' := by
  obtain ⟨c0, c1, c2, c3, cf⟩ := h.mem.cells
  obtain ⟨g, cap, hv, hgl, hgb, hgc, hgf, hgcell⟩ := dv_form h.mem (by have := h.ok.len; have := h.ok.lo; omega)
  rw [hv] at c0
  have hlen := h.ok.len
  clear cf hv hgf hgcell
  by_cases hd : D.down = true
  · have e : Hid (D.place at_ = 90) := by simp [Hid, Dk.place, hd]
    rw [hd] at c3
    clear hd hlen hp
    unfold sv
    go_enter Try.func20, Try.ntmps20
    go_wp2_with fail
    go_ret2
    rw [e.out]
    exact ⟨rfl, rfl⟩
  have hd' : D.down = false := by simpa using hd
  have hin : at_ < 0 ∨ (D.now.length : Int) ≤ at_ := by
    simp only [Dk.place, hd', Bool.false_eq_true, if_false] at hp
    by_cases hx : at_ < 0 ∨ (D.now.length : Int) ≤ at_
    · exact hx
    · simp [hx] at hp
  have e : Hid (D.place at_ = 1) := by simp [Hid, Dk.place, hd', hin]
  have hin' : at_ < 0 ∨ (D.las.length : Int) ≤ at_ := by omega
  rw [hd'] at c3
  clear hd hd' hin hlen hp
  unfold sv
  by_cases h0 : at_ < 0
  · go_enter Try.func20, Try.ntmps20
    go_wp2_with fail
    go_ret2
    rw [e.out]
    exact ⟨rfl, rfl⟩
  · have h1 : (D.las.length : Int) ≤ at_ := by omega
    clear hin'
    go_enter Try.func20, Try.ntmps20
    go_wp2_with fail
    go_ret2
    rw [e.out]
    exact ⟨rfl, rfl⟩

/-- What a Read of both disks yields. -/
def RowStr (w : World) (v : Value) (s : List UInt8) : Prop := (convert 22 9 v).run Try.prog w = .ok (sv s) w
theorem read_both {w : World} {d : DLoc} {D : Dk} (h : DiskAt w d D) (at_ : Int) : ∃ s : List UInt8,
    Calls Try.prog 10 #[.pointer (some ⟨d.b, 0, none⟩), .int .i64 at_] w (fun e w' => ∃ v, e = .returned (.tuple #[v, .int .i64 (D.place at_)]) ∧ Below w.heap.size w w' ∧ ∀ w'', Chg (fun _ => False) w' w'' → RowStr w'' v s) ∧
    ∀ w' r, RefAt w' r D → Calls Try.prog 20 #[.pointer (some ⟨r.b, 0, none⟩), .int .i64 at_] w' (fun e w'' => e = .returned (.tuple #[sv s, .int .i64 (D.place at_)]) ∧ w' = w'') := by
  by_cases hp : D.place at_ = 0
  · have hin : D.down = false ∧ ¬ (at_ < 0 ∨ (D.now.length : Int) ≤ at_) := by
      unfold Dk.place at hp
      split at hp
      · cases hp
      · split at hp
        · cases hp
        · exact ⟨by simpa using ‹¬ D.down = true›, by assumption⟩
    obtain ⟨i, rfl⟩ := Int.eq_ofNat_of_zero_le (show 0 ≤ at_ by omega)
    have hi : i < D.now.length := by omega
    refine ⟨D.now.getD i [], ?_, fun w' r hr => ?_⟩
    · rw [hp]
      refine (read_ok h i hi hp).mono ?_
      rintro e w' ⟨v, rfl, hv, hb⟩
      refine ⟨v, rfl, hb, fun w'' hc => ?_⟩
      have h64 : (D.now.getD i []).length = 64 := h.ok.now64 _ (by rw [getD_lt hi]; exact List.getElem_mem hi)
      have hv' : ∃ g cap, v = .slice (some ⟨g, 0, none⟩) 64 cap := by
        obtain ⟨_, ⟨_, h0⟩ | ⟨g, cap, _, h1, _⟩⟩ := hv
        · cases h0
        · exact ⟨g, cap, h1⟩
      obtain ⟨g, cap, rfl⟩ := hv'
      have hb' : BytesAt w' (some ⟨g, 0, none⟩) (D.now.getD i []) := fun j c hj => ⟨_, rfl, hv.cells rfl j c hj⟩
      have := conv_bytes (cap := cap) (hb'.chg hc (fun _ _ _ => id))
      rw [h64] at this
      exact this
    · rw [hp]
      exact rread_ok hr i hi hin.1
  · refine ⟨[], ?_, fun w' r hr => rread_err hr at_ hp⟩
    refine (read_err h at_ hp).mono ?_
    rintro e w' ⟨rfl, rfl⟩
    refine ⟨_, rfl, Below.refl _ _, fun w'' _ => ?_⟩
    exact conv_bytes (s := []) (a := none) (cap := 0) (BytesAt.nil _ _)

theorem read_post {w w1 w2 : World} {d : DLoc} {r : RLoc} {D : Dk} (h : Two w d r D) (c1 : Chg (fun _ => False) w w1) (hb : Below w1.heap.size w1 w2) : Two w2 d r D ∧ Chg (fun _ => False) w w2 := by
  have c2 : Chg (fun _ => False) w w2 := c1.trans (Chg.of_below (F := fun _ => False) hb) (fun _ _ h => h)
  exact ⟨⟨h.hd.chg c2 (fun _ _ => id), h.hr.chg c2 (fun _ _ => id), h.apart⟩, c2⟩

set_option maxHeartbeats 2000000 in
theorem step_read {w : World} {d : DLoc} {r : RLoc} {D : Dk} (h : Two w d r D) (kd at_ n : Int) (hk : 0 ≤ kd ∧ kd ≤ 255) (bv kv : Value) (kk : kd % 5 = 0) :
    Calls Try.prog 14 #[.pointer (some ⟨d.b, 0, none⟩), .pointer (some ⟨r.b, 0, none⟩), .agg #[.int .u8 kd, .int .i64 at_, bv, .int .i64 n, kv]] w (StepPost d r D w) := by
  have hk1 : 0 ≤ kd := hk.1
  have hk2 : kd ≤ 255 := hk.2
  have b0 : ((kd % 5 : Int) == 0) = true := by simp; omega
  have HK := hid kk
  clear hk kk
  have lt1 := h.hd.lt
  have lt2 := h.hr.mem.lt
  go_enter Try.func14, Try.ntmps14
  go_wp2_with fail
  generalize hW : w.alloc (Obj.cells #[Value.int .u8 kd, Value.int .i64 at_, bv, Value.int .i64 n, kv] 43) = w1
  have c1 : Chg (fun _ => False) w w1 := by rw [← hW]; exact ((Chg.refl _ w).alloc _)
  have x1 : w1.cell? ⟨w.heap.size, 1, none⟩ = some (.int .i64 at_) := by rw [← hW]; simp
  clear hW
  obtain ⟨s, R1, R2⟩ := read_both (h.hd.chg c1 (fun _ _ => id)) at_
  have R2 := hid R2
  refine R1.mono ?_
  rintro e w2 ⟨v, rfl, hb2, hrow⟩
  obtain ⟨T2, c2⟩ := read_post h c1 hb2
  have x2 : w2.cell? ⟨w.heap.size, 1, none⟩ = some (.int .i64 at_) := (Chg.of_below (F := fun _ => False) hb2).cell x1 id
  have hrow := hid hrow
  clear R1 hb2 x1
  go_wp2_with fail
  refine (R2.out w2 r T2.hr).mono ?_
  rintro e w3 ⟨rfl, rfl⟩
  generalize hpl : D.place at_ = pl
  clear R2 hpl
  go_wp2_with fail
  refine Mix.wp_region_mix [([(0, 0), (1, 0), (2, 0), (3, 0), (4, 0), (5, 1), (6, 0), (7, 0), (8, 0), (9, 0), (10, 0), (12, 0), (13, 0), (14, 0), (15, 1), (11, 2), (16, 0), (17, 0), (18, 0)], none)] (by kernel_rfl) (by kernel_rfl) (fun _ _ d _ _ h => by cases d <;> exact h) ?_
  generalize hW' : w2.drew = w4
  have c4 : Chg (fun _ => False) w2 w4 := by rw [← hW']; exact (Chg.refl _ w2).drew
  have c5 : Chg (fun _ => False) w w4 := c2.trans c4 (fun _ _ => id)
  have y1 : (convert 22 9 v).run Try.prog w4 = .ok (sv s) w4 := hrow.out w4 c4
  have T4 : Two w4 d r D := ⟨h.hd.chg c5 (fun _ _ => id), h.hr.chg c5 (fun _ _ => id), h.apart⟩
  have m4 := T4.hr.mem.cells.2.2.2.1
  have G : StepPost d r D w (.returned (.bool true)) w4 := ⟨rfl, d, r, D, rfl, rfl, T4, rfl, Nat.le_succ _, c5.mono (fun _ _ h => h.elim), fun _ h => .inl h, fun _ h => .inl h⟩
  have G := hid G
  clear hrow c4 hW' x2
  refine Mix.grps_last (fun w' => w'.cell? ⟨r.b, 3, none⟩ = some (.bool D.down) ∧ (convert 22 9 v).run Try.prog w' = .ok (sv s) w') ⟨m4, y1⟩ ?_
  iterate 15 (first | (apply Mix.grp_pure; (focus (simp only [List.getElem?_toArray, List.getElem?_cons_succ, List.getElem?_cons_zero]; try exact rfl)); (focus rfl); (focus (intro w'; go_simp; try exact rfl)); simp only [Act.put, List.setIfInBounds_toArray, List.set_cons_succ, List.set_cons_zero]) | (apply Mix.grp_read; (focus (simp only [List.getElem?_toArray, List.getElem?_cons_succ, List.getElem?_cons_zero]; try exact rfl)); (focus rfl); (focus (intro w' hC; (repeat (obtain ⟨_, hC⟩ := hC)); go_simp; try exact rfl)); simp only [Act.put, List.setIfInBounds_toArray, List.set_cons_succ, List.set_cons_zero]))
  refine Mix.grp_eff (by rfl) (by rfl) ?_
  go_simp
  refine (down_any T4.hd).mono ?_
  rintro e w5 ⟨rfl, rfl⟩
  refine ⟨⟨m4, y1⟩, ?_⟩
  iterate 3 (first | (apply Mix.grp_pure; (focus (simp only [List.getElem?_toArray, List.getElem?_cons_succ, List.getElem?_cons_zero]; try exact rfl)); (focus rfl); (focus (intro w'; go_simp; try exact rfl)); simp only [Act.put, List.setIfInBounds_toArray, List.set_cons_succ, List.set_cons_zero]) | (apply Mix.grp_read; (focus (simp only [List.getElem?_toArray, List.getElem?_cons_succ, List.getElem?_cons_zero]; try exact rfl)); (focus rfl); (focus (intro w' hC; (repeat (obtain ⟨_, hC⟩ := hC)); go_simp; try exact rfl)); simp only [Act.put, List.setIfInBounds_toArray, List.set_cons_succ, List.set_cons_zero]))
  refine Mix.grp_nil (Mix.grps_nil ?_)
  go_wp2
  refine bodyPost_ret (results_tmp rfl _ _ _) rfl ?_
  exact G.out
end Go.Proofs.Ytpgagihkicedeaa
