/- A new disk of the reference. -/
import Derived.Test.YtpgagihkicedeaaRefE
set_option linter.unusedSimpArgs false
set_option linter.unusedVariables false
namespace Go.Proofs.Ytpgagihkicedeaa
open Go Go.RowKit

theorem pad_nil : pad [] = zsec := by simp [pad, zsec]
/-- The disk of the reference while it is made: k sectors. -/
def NewAt (W : World) (k : Nat) (wr : World) : Prop :=
  ∃ dv, RefMem wr ⟨W.heap.size, dv, .slice none 0 0⟩ (List.replicate k zsec) [] (-1) false ∧ Below W.heap.size W wr ∧ ∀ g, dv.ownBlock = some g → W.heap.size ≤ g
theorem newAt_zero (W : World) : NewAt W 0 (W.alloc (.cells #[.slice none 0 0, .slice none 0 0, .int .i64 (-1), .bool false] 47)) := by
  refine ⟨.slice none 0 0, ⟨heap_alloc_new _ _, World.ownsRow_nil _ _ _ _, World.ownsRow_nil _ _ _ _, by simp [Value.ownBlock], by simp [Value.ownBlock], by simp [Value.ownBlock]⟩, (Below.refl _ _).alloc (Nat.le_refl _) _, by simp [Value.ownBlock]⟩
theorem NewAt.grow {W wr w3 : World} {k gg cap : Nat} {dv : Value} {ob : Obj} (hm : RefMem wr ⟨W.heap.size, dv, .slice none 0 0⟩ (List.replicate k zsec) [] (-1) false) (hb : Below W.heap.size W wr) (hd : ∀ g, dv.ownBlock = some g → W.heap.size ≤ g)
    (hgrow : (wr.alloc ob).drew.grownBy w3 dv.ownBlock) (hat : dv.ownBlock = some gg ∨ gg = wr.heap.size + 1)
    (hown : w3.ownsRow 0 9 1 (.slice (some ⟨gg, 0, none⟩) (k + 1) cap) (k + 1) ((List.replicate k zsec).map sv ++ [sv zsec])) :
    NewAt W (k + 1) (w3.setCell ⟨W.heap.size, 0, none⟩ (.slice (some ⟨gg, 0, none⟩) (k + 1) cap)) := by
  have lb : W.heap.size < wr.heap.size := hm.lt _ (.inl rfl)
  have old : ∀ j, j < wr.heap.size → dv.ownBlock ≠ some j → w3.heap[j]? = wr.heap[j]? := fun j hj hne =>
    (hgrow.block j (by show j < (World.alloc wr ob).heap.size; simp; omega) (Ne.symm hne)).trans (Below.heap_alloc _ _ _ hj)
  have gb : gg ≠ W.heap.size := fun e => by subst e; rcases hat with h | h; exact hm.ndb h; omega
  have hb3 := (old _ lb hm.ndb).trans hm.hb
  have c3 : Below W.heap.size W w3 := by
    have := ((Chg.of_below (F := fun k => W.heap.size ≤ k) hb).alloc ob).drew.grown hgrow (fun k hk _ => hd k hk)
    exact this.belowB (fun _ h => h) (Nat.le_refl _)
  refine ⟨.slice (some ⟨gg, 0, none⟩) (k + 1) cap, ⟨?_, ?_, World.ownsRow_nil _ _ _ _, ?_, by simp [Value.ownBlock], by simp [Value.ownBlock]⟩, c3.setCell (Nat.le_refl _) _, ?_⟩
  · rw [heap_setCell_lit hb3]; simp
  · rw [List.length_replicate, List.replicate_succ', List.map_append]
    refine ownsRow_stay hown fun j hj => ?_
    simp only [Value.ownBlock, Option.some.injEq] at hj
    rw [heap_setCell_get, if_neg (fun e => gb (by rw [hj, e]))]
  · simp [Value.ownBlock]; exact gb
  · intro g hg
    simp only [Value.ownBlock, Option.some.injEq] at hg
    subst hg
    rcases hat with h | h
    · exact hd _ h
    · omega

/-- What a new disk of the reference is. -/
def RNewPost (n : Nat) (w : World) (e : Ending) (w' : World) : Prop :=
  ∃ r : RLoc, e = .returned (.tuple #[.pointer (some ⟨r.b, 0, none⟩), .int .i64 0]) ∧ RefAt w' r (Dk.new n) ∧ Below w.heap.size w w' ∧ ∀ k, r.F k → w.heap.size ≤ k
theorem NewAt.close {W wr : World} {n : Nat} (h1 : 64 ≤ n) (h2 : n ≤ 65536) (h : NewAt W n wr) : RNewPost n W (.returned (.tuple #[.pointer (some ⟨W.heap.size, 0, none⟩), .int .i64 0])) wr := by
  obtain ⟨dv, hm, hb, hd⟩ := h
  refine ⟨⟨W.heap.size, dv, .slice none 0 0⟩, rfl, ⟨Dk.new_ok n h1 h2, by simp [Dk.new, putAll], hm⟩, hb, ?_⟩
  intro k hk
  rcases hk with h | h | h
  · exact Nat.le_of_eq h.symm
  · exact hd k h
  · simp [Value.ownBlock] at h

set_option maxHeartbeats 1000000 in
theorem rnew_yes (n : Nat) (w : World) (h1 : 64 ≤ n) (h2 : n ≤ 65536) : Calls Try.prog 19 #[.int .i64 n] w (RNewPost n w) := by
  have i1 : (64 : Int) ≤ (n : Int) := by omega
  have i2 : (n : Int) ≤ 65536 := by omega
  have HP := hid (fun w => padded_any [] w (by simp [maxLen]))
  obtain ⟨i0, hi0', hz0, hz1, hz2⟩ := info_parts infoString
  unfold sv at HP
  rw [pad_nil] at HP
  go_enter Try.func19, Try.ntmps19
  go_wp2_with fail
  go_loopw [5] (fun c wr => ∃ k : Nat, k ≤ n ∧ c = .int .i64 k ∧ NewAt w k wr) (fun c _ => n - (intOf c).toNat)
  case atStart => exact ⟨0, Nat.zero_le _, rfl, newAt_zero w⟩
  case round =>
    obtain ⟨k, hk, rfl, hn⟩ := hrel
    by_cases hlt : k < n
    · have hk1 : ((k : Nat) : Int) < (n : Int) := by omega
      have hk0 : (0 : Int) ≤ (k : Int) := by omega
      obtain ⟨dv, hm, hb, hd⟩ := hn
      obtain ⟨d0, d1, d2, d3, df⟩ := hm.cells
      have f0 := df 0
      have own1 := hm.hd
      rw [List.length_replicate] at own1
      have ndb := hm.ndb
      have lb : w.heap.size < wr.heap.size := hm.lt _ (.inl rfl)
      clear df d1 d2 d3
      go_wp2_with fail
      go_region_law (first
        | (go_simp; go_at_call 26; refine (HP.out _).mono ?_; rintro e w' ⟨rfl, rfl⟩)
        | (refine step_append_lies _ (by rfl) _ _ _ (by rfl) 0 9 i0 _ 1 16 Try.underlying44 hi0' hz0 hz1 hz2 (by simp [Value.cells]) (by omega) dv _ _ (by rfl) ((own1.alloc _).drew)
            ⟨wr.heap.size, 0, none⟩ 1 1 [.string ⟨zsec.toArray⟩] (by rfl) (by rfl) (World.news_of_block (cs := #[.string ⟨zsec.toArray⟩]) (t := 9) (fr := (0, 0)) (heap_alloc_new wr _)) (by simp [Value.oneCell'])
            (by omega) (by unfold maxLen; omega) (by omega) (by simp) (wr.heap.size + 1) (by simp) ?_; intro gg cap4 w4 hown4 hgrow hat hlt4
           have m0 : w4.heap[w.heap.size]? = wr.heap[w.heap.size]? := (hgrow.block w.heap.size (by show w.heap.size < (World.alloc wr _).heap.size; simp; omega) (Ne.symm ndb)).trans (Below.heap_alloc _ _ _ lb)
           have x1 : w4.cell? ⟨w.heap.size, 0, none⟩ = some dv := by rw [cell_of_same m0]; exact d0
           have x2 : w4.frozen? ⟨w.heap.size, 0, none⟩ = false := by rw [frozen_of_same m0]; exact f0
           clear m0))
      all_goals
        have HG := hid (NewAt.grow hm hb hd hgrow hat hown4)
        go_wp2
        go_roundw
        case rel => exact ⟨k + 1, by omega, by go_num, HG.out⟩
        case measure => simp [intOf]; omega
    · have hkn : k = n := by omega
      subst hkn
      have HM := hid hn
      clear hn
      go_wp2
      go_ret2
      exact HM.out.close h1 h2
end Go.Proofs.Ytpgagihkicedeaa
