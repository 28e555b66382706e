/- The walk of a step of PoundDisk. -/
import Derived.Test.YtpgagihkicedeaaRefE
import Derived.Test.YtpgagihkicedeaaMix
import Derived.Laws.BytesArg
set_option linter.unusedSimpArgs false
set_option linter.unusedVariables false
namespace Go.Proofs.Ytpgagihkicedeaa
open Go Go.RowKit

/-- The two disks of the statement: they hold the same, apart from one another. -/
structure Two (w : World) (d : DLoc) (r : RLoc) (D : Dk) : Prop where
  hd : DiskAt w d D
  hr : RefAt w r D
  apart : ∀ k, d.F k → ¬ r.F k
/-- What a step does: it returns true, both disks go on alike. -/
def StepPost (d : DLoc) (r : RLoc) (D : Dk) (w : World) (e : Ending) (w' : World) : Prop :=
  e = .returned (.bool true) ∧ ∃ d' r' D', d'.b = d.b ∧ r'.b = r.b ∧ Two w' d' r' D' ∧ D'.las.length = D.las.length ∧ D'.pend.length ≤ D.pend.length + 1 ∧ Chg (fun k => d.F k ∨ r.F k) w w' ∧ (∀ k, d'.F k → d.F k ∨ w.heap.size ≤ k) ∧ ∀ k, r'.F k → r.F k ∨ w.heap.size ≤ k

/-- Both disks behind operations that give the same disk. -/
theorem two_post {w w1 w2 w3 : World} {d : DLoc} {r : RLoc} {D D' : Dk} {v u : Value} {e1 e2 : Ending} (h : Two w d r D) (c1 : Chg (fun _ => False) w w1) (p1 : DiskPost d D' v w1 e1 w2) (p2 : RefPost r D' u w2 e2 w3)
    (hl : D'.las.length = D.las.length) (hp : D'.pend.length ≤ D.pend.length + 1) : StepPost d r D w (.returned (.bool true)) w3 := by
  obtain ⟨_, d', hb, hd', hc, hf⟩ := p1
  obtain ⟨_, r', hrb, hr', hrc, hrf⟩ := p2
  have s1 := c1.size
  have s2 := hc.size
  have s3 := hrc.size
  have ap : ∀ k, d'.F k → ¬ r'.F k := fun k h1 h2 => by
    have k2 := hd'.lt k h1
    rcases hrf k h2 with h3 | h3
    · rcases hf k h1 with h4 | h4
      · exact h.apart k h4 h3
      · have := h.hr.mem.lt k h3; omega
    · omega
  have ap2 : ∀ k, d'.F k → ¬ r.F k := fun k h1 h3 => by
    rcases hf k h1 with h4 | h4
    · exact h.apart k h4 h3
    · have := h.hr.mem.lt k h3; omega
  refine ⟨rfl, d', r', D', hb, hrb, ⟨hd'.chg hrc ap2, hr', ap⟩, hl, hp, ?_, fun k hk => (hf k hk).imp id (fun h => by omega), fun k hk => (hrf k hk).imp id (fun h => by omega)⟩
  exact ((c1.mono (fun _ _ h => h.elim)).trans hc (fun _ _ h => .inl h)).trans hrc (fun _ _ h => .inr h)
theorem RefAt.post {w w' : World} {d : DLoc} {r : RLoc} {D D' : Dk} {v : Value} {e : Ending} (h : RefAt w r D) (p : DiskPost d D' v w e w') (ap : ∀ k, d.F k → ¬ r.F k) : RefAt w' r D := by
  obtain ⟨_, _, _, _, hc, _⟩ := p
  exact h.chg hc (fun k h1 h2 => ap k h2 h1)

theorem write_two (D : Dk) (at_ : Int) (s : List UInt8) : (D.write at_ s).1.las.length = D.las.length ∧ (D.write at_ s).1.pend.length ≤ D.pend.length + 1 := by
  unfold Dk.write
  split
  · exact ⟨rfl, Nat.le_succ _⟩
  · split
    · exact ⟨rfl, Nat.le_succ _⟩
    · unfold Dk.power
      split
      · simp
      · split <;> simp [Dk.put]

theorem Chg.cell {F : Nat → Prop} {w w' : World} (h : Chg F w w') {p : Addr} {v : Value} (hx : w.cell? p = some v) (hF : ¬ F p.block) : w'.cell? p = some v := by
  rw [World.cell?_of_block (h.block _ (block_lt_of_cell hx) hF)]; exact hx

theorem conv_bytes {w : World} {a : Option Addr} {s : List UInt8} {cap : Nat} (h : BytesAt w a s) : (convert 22 9 (.slice a s.length cap)).run Try.prog w = .ok (sv s) w := by
  cases a with
  | none =>
    have hs : s = [] := by
      cases s with
      | nil => rfl
      | cons b s => obtain ⟨x, hx, _⟩ := h 0 (bcell b) rfl; cases hx
    subst hs
    exact run_convert_bytes_nil w 22 5 Try.underlying22 Try.underlying5 0 cap 9 Try.underlying9
  | some x =>
    exact run_convert_bytes_back w 22 9 5 x cap s Try.underlying22 Try.underlying5 Try.underlying9 (fun j hj => by
      obtain ⟨y, hy, hv⟩ := h j (bcell s[j]) (by rw [bcells_get, List.getElem?_eq_getElem hj]; rfl)
      cases hy; exact hv)

set_option maxHeartbeats 2000000 in
theorem step_write {w : World} {d : DLoc} {r : RLoc} {D : Dk} (h : Two w d r D) (kd at_ n : Int) (hk : 0 ≤ kd ∧ kd ≤ 255) (a : Option Addr) (s : List UInt8) (cap : Nat) (ha : BytesAt w a s) (hm : s.length ≤ maxLen) (haF : s ≠ [] → ∀ x, a = some x → ¬ d.F x.block) (kv : Value)
    (hf : D.pend.length < 1000000000) (hkk : kd % 5 = 1) :
    Calls Try.prog 14 #[.pointer (some ⟨d.b, 0, none⟩), .pointer (some ⟨r.b, 0, none⟩), .agg #[.int .u8 kd, .int .i64 at_, .slice a s.length cap, .int .i64 n, kv]] w (StepPost d r D w) := by
  have hk1 : 0 ≤ kd := hk.1
  have hk2 : kd ≤ 255 := hk.2
  have b0 : ((kd % 5 : Int) == 0) = false := by simp; omega
  have b1 : ((kd % 5 : Int) == 1) = true := by simp; omega
  have HK := hid hkk
  clear hk hkk
  go_enter Try.func14, Try.ntmps14
  go_wp2_with fail
  generalize hW : w.alloc (Obj.cells #[Value.int .u8 kd, Value.int .i64 at_, Value.slice a s.length cap, Value.int .i64 n, kv] 43) = w1
  refine Mix.wp_region_mix [([(0, 0), (1, 0), (2, 1), (3, 0), (4, 1), (6, 0), (7, 0), (8, 1), (9, 0), (10, 1), (11, 1), (5, 2)], some 12), ([(13, 0), (14, 0), (15, 0), (17, 0), (18, 0), (19, 0), (20, 1), (16, 2), (21, 0), (22, 0), (23, 0)], none)] (by kernel_rfl) (by kernel_rfl) (fun _ _ d _ _ h => by cases d <;> exact h) ?_
  generalize hW' : w1.drew = w2
  have c1 : Chg (fun _ => False) w w2 := by rw [← hW', ← hW]; exact ((Chg.refl _ w).alloc _).drew
  have x1 : w2.cell? ⟨w.heap.size, 1, none⟩ = some (.int .i64 at_) := by rw [← hW', ← hW]; simp
  have x2 : w2.cell? ⟨w.heap.size, 2, none⟩ = some (.slice a s.length cap) := by rw [← hW', ← hW]; simp
  clear hW' hW
  refine Mix.grps_some (fun w' => w'.cell? ⟨w.heap.size, 1, none⟩ = some (.int .i64 at_) ∧ w'.cell? ⟨w.heap.size, 2, none⟩ = some (.slice a s.length cap) ∧ (convert 22 9 (.slice a s.length cap)).run Try.prog w' = .ok (sv s) w') ⟨x1, x2, conv_bytes (ha.chg c1 (fun _ _ _ => id))⟩ ?_
  iterate 11 (first | (apply Mix.grp_pure; (focus (simp only [List.getElem?_toArray, List.getElem?_cons_succ, List.getElem?_cons_zero]; try exact rfl)); (focus rfl); (focus (intro w'; go_simp; try exact rfl)); simp only [Act.put, List.setIfInBounds_toArray, List.set_cons_succ, List.set_cons_zero]) | (apply Mix.grp_read; (focus (simp only [List.getElem?_toArray, List.getElem?_cons_succ, List.getElem?_cons_zero]; try exact rfl)); (focus rfl); (focus (intro w' hC; (repeat (obtain ⟨_, hC⟩ := hC)); go_simp; try exact rfl)); simp only [Act.put, List.setIfInBounds_toArray, List.set_cons_succ, List.set_cons_zero]))
  refine Mix.grp_eff (by rfl) (by rfl) ?_
  go_simp
  have hd2 := h.hd.chg c1 (fun _ _ => id)
  have hr2 := h.hr.chg c1 (fun _ _ => id)
  have sz := c1.size
  have lt1 := h.hd.lt
  have lt2 := h.hr.mem.lt
  refine (write_any hd2 at_ s a cap (ha.chg c1 (fun _ _ _ => id)) hm haF hf).mono ?_
  rintro e w3 ⟨rfl, d', hb', hd', hc', hf'⟩
  have P1 : DiskPost d (D.write at_ s).1 (.int .i64 (D.write at_ s).2) w2 (.returned (.int .i64 (D.write at_ s).2)) w3 := ⟨rfl, d', hb', hd', hc', hf'⟩
  have P1 := hid P1
  have hr3 := hr2.chg hc' (fun k h1 h2 => h.apart k h2 h1)
  have nd : ¬ d.F w.heap.size := fun hx => by have := lt1 _ hx; omega
  refine ⟨⟨hc'.cell x1 nd, hc'.cell x2 nd, conv_bytes ((ha.chg c1 (fun _ _ _ => id)).chg hc' haF)⟩, ?_⟩
  refine Mix.grp_nil ?_
  refine Mix.op_last (by rfl) (by rfl) ?_
  go_simp
  refine (rwrite_any hr3 at_ s hm hf).mono ?_
  rintro e w4 ⟨rfl, r', hrb', hr', hrc', hrf'⟩
  have P2 : RefPost r (D.write at_ s).1 (.int .i64 (D.write at_ s).2) w3 (.returned (.int .i64 (D.write at_ s).2)) w4 := ⟨rfl, r', hrb', hr', hrc', hrf'⟩
  have P2 := hid P2
  have G := two_post h c1 P1.out P2.out (write_two D at_ s).1 (write_two D at_ s).2
  have G := hid G
  have hd4 : DiskAt w4 d' (D.write at_ s).1 := hd'.chg hrc' (fun k h1 h2 => by
    rcases hf' k h1 with h4 | h4
    · exact h.apart k h4 h2
    · have := lt2 k h2; have := hr2.mem.lt k h2; omega)
  have m4 := hr'.mem.cells.2.2.2.1
  rw [hrb'] at m4
  have nr : ∀ k, r.F k → k < w.heap.size := lt2
  clear P1 P2 hc' hf' hrc' hrf' hd2 hr2 hr3
  generalize (D.write at_ s).1 = D' at *
  generalize (D.write at_ s).2 = v at *
  refine Mix.grps_last (fun w' => w'.cell? ⟨r.b, 3, none⟩ = some (.bool D'.down)) m4 ?_
  iterate 7 (first | (apply Mix.grp_pure; (focus (simp only [List.getElem?_toArray, List.getElem?_cons_succ, List.getElem?_cons_zero]; try exact rfl)); (focus rfl); (focus (intro w'; go_simp; try exact rfl)); simp only [Act.put, List.setIfInBounds_toArray, List.set_cons_succ, List.set_cons_zero]) | (apply Mix.grp_read; (focus (simp only [List.getElem?_toArray, List.getElem?_cons_succ, List.getElem?_cons_zero]; try exact rfl)); (focus rfl); (focus (intro w' hC; (repeat (obtain ⟨_, hC⟩ := hC)); go_simp; try exact rfl)); simp only [Act.put, List.setIfInBounds_toArray, List.set_cons_succ, List.set_cons_zero]))
  refine Mix.grp_eff (by rfl) (by rfl) ?_
  go_simp
  have HD := down_any hd4
  rw [hb'] at HD
  refine HD.mono ?_
  rintro e w5 ⟨rfl, rfl⟩
  refine ⟨m4, ?_⟩
  iterate 3 (first | (apply Mix.grp_pure; (focus (simp only [List.getElem?_toArray, List.getElem?_cons_succ, List.getElem?_cons_zero]; try exact rfl)); (focus rfl); (focus (intro w'; go_simp; try exact rfl)); simp only [Act.put, List.setIfInBounds_toArray, List.set_cons_succ, List.set_cons_zero]) | (apply Mix.grp_read; (focus (simp only [List.getElem?_toArray, List.getElem?_cons_succ, List.getElem?_cons_zero]; try exact rfl)); (focus rfl); (focus (intro w' hC; (repeat (obtain ⟨_, hC⟩ := hC)); go_simp; try exact rfl)); simp only [Act.put, List.setIfInBounds_toArray, List.set_cons_succ, List.set_cons_zero]))
  refine Mix.grp_nil (Mix.grps_nil ?_)
  clear P1 P2
  go_wp2
  refine bodyPost_ret (results_tmp rfl _ _ _) rfl ?_
  exact G.out
end Go.Proofs.Ytpgagihkicedeaa
