/- Contracts of (*couchantref09.Disk).Write and Stop. -/
import Derived.Test.YtpgagihkicedeaaRefA
import Derived.Deep.RegionLaw
set_option linter.unusedSimpArgs false
set_option linter.unusedVariables false
namespace Go.Proofs.Ytpgagihkicedeaa
open Go Go.RowKit

theorem infoPut : (Try.prog.info? 66).map (fun i => (i.zero, i.size, i.bytes)) = some (some (.agg #[.int .i64 0, .string ⟨#[]⟩]), 2, 24) := by kernel_rfl
theorem infoString : (Try.prog.info? 9).map (fun i => (i.zero, i.size, i.bytes)) = some (some (.string ⟨#[]⟩), 1, 16) := by kernel_rfl

theorem putAll_put {D : Dk} (h : D.now = putAll D.las D.pend) (i : Nat) (s : List UInt8) : (D.put i s).now = putAll (D.put i s).las (D.put i s).pend := by
  simp only [Dk.put]; rw [putAll_snoc, h]
theorem put_ok {D : Dk} (ok : D.Ok) {i : Nat} {s : List UInt8} (hi : i < D.now.length) (hs : s.length ≤ 64) (hf : D.pend.length < 1000000000) : (D.put i s).Ok := by
  refine ⟨by simpa [Dk.put] using ok.len, by simpa [Dk.put] using ok.lo, by simpa [Dk.put] using ok.hi, ok.las64, ?_, ?_, by simp [Dk.put]; omega, ok.fuse1, ok.fuse2⟩
  · intro x hx
    rcases List.mem_or_eq_of_mem_set hx with h' | h'
    · exact ok.now64 x h'
    · rw [h', length_pad hs]
  · intro p hp
    rcases List.mem_append.1 hp with h' | h'
    · simpa [Dk.put] using ok.pend64 p h'
    · simp at h'; subst h'; simpa [Dk.put, length_pad hs] using hi

/-- The reference's disk behind a write. -/
theorem RefAt.rwrite_close {w w1 w3 : World} {r : RLoc} {D1 : Dk} {i : Nat} {s : List UInt8} {ob : Obj} {gg cap : Nat} (h1 : RefAt w1 r D1) (hc1 : Chg r.F w w1) (hgrow : (w1.alloc ob).drew.grownBy w3 r.pv.ownBlock)
    (hat : r.pv.ownBlock = some gg ∨ gg = w1.heap.size + 1) (hown : w3.ownsRow 0 66 2 (.slice (some ⟨gg, 0, none⟩) (D1.pend.length + 1) cap) (D1.pend.length + 1) (rrows D1.pend ++ rrow (i, pad s)))
    (i1 : i < D1.now.length) (hs : s.length ≤ 64) (hf : D1.pend.length < 1000000000) :
    RefPost r (D1.put i s) (.int .i64 0) w (.returned (.int .i64 0)) (w3.setCell ⟨r.b, 1, none⟩ (.slice (some ⟨gg, 0, none⟩) (D1.pend.length + 1) cap)) := by
  have m := h1.mem
  have old : ∀ k, k < w1.heap.size → r.pv.ownBlock ≠ some k → w3.heap[k]? = w1.heap[k]? := fun k hk hne =>
    (hgrow.block k (by show k < (World.alloc w1 ob).heap.size; simp; omega) (Ne.symm hne)).trans (Below.heap_alloc _ _ _ hk)
  have c3 : Chg r.F w1 w3 := ((Chg.refl r.F w1).alloc ob).drew.grown hgrow (fun k hk _ => .inr (.inr hk))
  have call : Chg r.F w w3 := hc1.trans c3 (fun _ _ h => h)
  have lb : r.b < w1.heap.size := m.lt _ (.inl rfl)
  have gb : gg ≠ r.b := fun e => by subst e; rcases hat with h | h; exact m.npb h; omega
  have gd : r.dv.ownBlock ≠ some gg := fun e => by
    rcases hat with h | h
    · exact m.ndp gg e h
    · have := (m.hd.lt gg e).2; omega
  have hb3 := (old _ lb m.npb).trans m.hb
  have one := Chg.one w3 r.b 1 (.slice (some ⟨gg, 0, none⟩) (D1.pend.length + 1) cap)
  refine ⟨rfl, ⟨r.b, r.dv, .slice (some ⟨gg, 0, none⟩) (D1.pend.length + 1) cap⟩, rfl, ⟨put_ok h1.ok i1 hs hf, putAll_put h1.inv i s, ?_, ?_, ?_, m.ndb, ?_, ?_⟩, call.setCell (p := ⟨r.b, 1, none⟩) (fun _ => .inl rfl) _, ?_⟩
  · rw [heap_setCell_lit hb3]; simp [Dk.put]
  · refine ownsRow_stay m.hd fun k hk => ?_
    have hkl := (m.hd.lt k hk).2
    rw [heap_setCell_get, if_neg (fun e => m.ndb (by rw [hk, e]))]
    exact old k hkl (m.ndp k hk)
  · have e : rrows (D1.put i s).pend = rrows D1.pend ++ rrow (i, pad s) := by simp [Dk.put, rrows]
    have e2 : (D1.put i s).pend.length = D1.pend.length + 1 := by simp [Dk.put]
    rw [e, e2]
    refine ownsRow_stay hown fun k hk => ?_
    simp only [Value.ownBlock, Option.some.injEq] at hk
    rw [heap_setCell_get, if_neg (fun e => gb (by rw [hk, e]))]
  · simp [Value.ownBlock]; exact gb
  · intro k hk
    simp only [Value.ownBlock, ne_eq, Option.some.injEq]
    intro e; exact gd (by rw [hk, e])
  · intro k hk
    rcases hk with h | h | h
    · exact .inl (.inl h)
    · exact .inl (.inr (.inl h))
    · simp only [Value.ownBlock, Option.some.injEq] at h
      subst h
      rcases hat with h | h
      · exact .inl (.inr (.inr h))
      · right; have := hc1.size; omega

theorem dv_form {w : World} {r : RLoc} {las : List (List UInt8)} {pend : List (Nat × List UInt8)} {fuse : Int} {down : Bool} (h : RefMem w r las pend fuse down) (hl : 0 < las.length) :
    ∃ g cap, r.dv = .slice (some ⟨g, 0, none⟩) las.length cap ∧ g < w.heap.size ∧ g ≠ r.b ∧ las.length ≤ cap ∧ (∀ j, w.frozen? ⟨g, j, none⟩ = false) ∧ ∀ j, j < las.length → w.cell? ⟨g, j, none⟩ = some (sv (las.getD j [])) := by
  rcases h.hd.2 with ⟨_, h3⟩ | ⟨g, cap, cur, hv, _, hg, h4, h5, h6, h7⟩
  · omega
  · refine ⟨g, cap, hv, lt_of_block hg, fun e => h.ndb (by rw [hv, e]; rfl), h4, fun j => by simp [World.frozen?, hg], fun j hj => ?_⟩
    have hg' : w.heap[g]? = some (.cells cur.toList.toArray 9 (0, 0)) := by rw [Array.toArray_toList]; exact hg
    rw [cell_of_list hg']
    have : (cur.toList.take (las.length * 1))[j]? = (las.map sv)[j]? := by rw [h7]
    rw [List.getElem?_take, if_pos (by omega)] at this
    rw [this, List.getElem?_map, getD_lt hj, List.getElem?_eq_getElem hj]; rfl

set_option maxHeartbeats 1000000 in
theorem rwrite_ok {w : World} {r : RLoc} {D : Dk} (h : RefAt w r D) (i : Nat) (hi : i < D.now.length) (s : List UInt8) (hs : s.length ≤ 64) (hdn : D.down = false) (hpw : D.power.2 = true) (hf : D.pend.length < 1000000000) :
    Calls Try.prog 21 #[.pointer (some ⟨r.b, 0, none⟩), .int .i64 i, sv s] w (RefPost r (D.power.1.put i s) (.int .i64 0) w) := by
  have H2 := hid (rcall_any h)
  have HQ := hid hpw
  have e1 : D.power.1.now = D.now := by unfold Dk.power; split; rfl; split <;> rfl
  have e2 : D.power.1.pend = D.pend := by unfold Dk.power; split; rfl; split <;> rfl
  have E1 := hid e1
  have E2 := hid e2
  clear hpw e1 e2
  have h3 : ((s.length : Nat) : Int) ≤ 64 := by omega
  obtain ⟨c0, c1, c2, c3, cf⟩ := h.mem.cells
  rw [hdn] at c3
  obtain ⟨g, cap, hv, hgl, hgb, hgc, hgf, hgcell⟩ := dv_form h.mem (by have := h.ok.len; have := h.ok.lo; omega)
  rw [hv] at c0
  have hlen := h.ok.len
  have hi0 : (0 : Int) ≤ (i : Int) := by omega
  have hi1 : ((i : Nat) : Int) < (D.las.length : Int) := by omega
  have HP := hid (fun w => padded_any s w (by unfold maxLen; omega))
  clear cf hv hdn hgf hgcell hlen
  obtain ⟨i0, hi0', hz0, hz1, hz2⟩ := info_parts infoPut
  unfold sv at HP ⊢
  go_enter Try.func21, Try.ntmps21
  go_wp2_with fail
  refine H2.out.mono ?_
  rintro e w1 ⟨rfl, h1, hc1⟩
  rw [HQ.out]
  have m1 := h1.mem
  generalize D.power.1 = D1 at *
  obtain ⟨d0, d1, d2, d3, df⟩ := m1.cells
  have f1 := df 1
  have own1 := m1.hp
  have npb := m1.npb
  have lb : r.b < w1.heap.size := m1.lt _ (.inl rfl)
  have hf1 : D1.pend.length < 1000000000 := by rw [E2.out]; exact hf
  clear df d0 d2 d3 c0 c1 c2 c3
  go_wp2_with fail
  go_region_law (first
    | (refine step_append_lies _ (by rfl) _ _ _ (by rfl) 0 66 i0 _ 2 24 Try.underlying45 hi0' hz0 hz1 hz2 (by simp [Value.cells]) (by omega) r.pv _ _ (by rfl) ((own1.alloc _).drew)
        ⟨w1.heap.size, 0, none⟩ 1 1 [.int .i64 i, .string ⟨(pad s).toArray⟩] (by rfl) (by rfl) (World.news_of_block (cs := #[.int .i64 i, .string ⟨(pad s).toArray⟩]) (t := 66) (fr := (0, 0)) (heap_alloc_new w1 _)) (by simp [Value.oneCell'])
        (by omega) (by unfold maxLen; omega) (by omega) (by simp) (w1.heap.size + 1) (by simp) ?_; intro gg cap4 w4 hown4 hgrow hat hlt
       have m0 : w4.heap[r.b]? = w1.heap[r.b]? := (hgrow.block r.b (by show r.b < (World.alloc w1 _).heap.size; simp; omega) (Ne.symm npb)).trans (Below.heap_alloc _ _ _ lb)
       have x1 : w4.cell? ⟨r.b, 1, none⟩ = some r.pv := by rw [cell_of_same m0]; exact d1
       have x2 : w4.frozen? ⟨r.b, 1, none⟩ = false := by rw [frozen_of_same m0]; exact f1
       clear m0)
    | (go_simp; go_at_call 26; refine (HP.out _).mono ?_; rintro e w' ⟨rfl, rfl⟩))
  all_goals
    go_wp2
    go_ret
    exact h1.rwrite_close hc1 hgrow hat hown4 (by rw [E1.out]; exact hi) hs hf1
end Go.Proofs.Ytpgagihkicedeaa
