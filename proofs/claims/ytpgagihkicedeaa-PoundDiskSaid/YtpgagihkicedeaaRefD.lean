/- The contract of (*couchantref09.Disk).Flush. -/
import Derived.Test.YtpgagihkicedeaaRefC
import Derived.StillTailTactics
set_option linter.unusedSimpArgs false
set_option linter.unusedVariables false
namespace Go.Proofs.Ytpgagihkicedeaa
open Go Go.RowKit

/-- A durable sector of the reference's disk is written. -/
theorem RefMem.rput {w : World} {r : RLoc} {las : List (List UInt8)} {pend : List (Nat × List UInt8)} {fuse : Int} {down : Bool} (h : RefMem w r las pend fuse down) {g cap : Nat} (hv : r.dv = .slice (some ⟨g, 0, none⟩) las.length cap) (i : Nat) (s : List UInt8) :
    RefMem (w.setCell ⟨g, i, none⟩ (sv s)) r (las.set i s) pend fuse down ∧ Chg r.F w (w.setCell ⟨g, i, none⟩ (sv s)) := by
  have hg : r.dv.ownBlock = some g := by rw [hv]; rfl
  have hc := Chg.one w g i (sv s)
  refine ⟨⟨?_, ?_, ownsRow_stay h.hp fun k hk => ?_, h.ndb, h.npb, h.ndp⟩, hc.mono (fun _ _ e => .inr (.inl (by rw [hg, e])))⟩
  · rw [hc.block _ (lt_of_block h.hb) (fun e => h.ndb (by rw [hg, ← e]))]; exact h.hb
  · have hd := h.hd
    rw [hv] at hd ⊢
    have := hd.stored i (sv s)
    rw [List.length_set, List.map_set]
    exact this.1
  · exact hc.block k (h.hp.lt k hk).2 (fun e => h.ndp g hg (by rw [hk, e]))
theorem RefMem.drew {w : World} {r : RLoc} {las : List (List UInt8)} {pend : List (Nat × List UInt8)} {fuse : Int} {down : Bool} (h : RefMem w r las pend fuse down) : RefMem w.drew r las pend fuse down := h.stay fun _ _ => rfl

/-- The reference's disk behind Flush. -/
theorem RefMem.rflush_close {w w1 wr : World} {r : RLoc} {D1 : Dk} (h1 : RefAt w1 r D1) (hc1 : Chg r.F w w1) (hm : RefMem wr r (putAll D1.las D1.pend) D1.pend D1.fuse D1.down) (hc : Chg r.F w1 wr) :
    RefPost r { D1 with las := putAll D1.las D1.pend, pend := [] } (.int .i64 0) w (.returned (.int .i64 0)) (wr.setCell ⟨r.b, 1, none⟩ (.slice none 0 0)) := by
  have ok := h1.ok
  have one := Chg.one wr r.b 1 (.slice none 0 0)
  refine ⟨rfl, ⟨r.b, r.dv, .slice none 0 0⟩, rfl, ⟨⟨?_, ok.lo, ok.hi, ?_, ok.now64, ?_, ?_, ok.fuse1, ok.fuse2⟩, ?_, ?_, ?_, World.ownsRow_nil _ _ _ _, hm.ndb, by simp [Value.ownBlock], fun k _ => by simp [Value.ownBlock]⟩,
    (hc1.trans hc (fun _ _ h => h)).setCell (p := ⟨r.b, 1, none⟩) (fun _ => .inl rfl) _, ?_⟩
  · simpa [length_putAll] using ok.len
  · exact all64_putAll ok.las64 (fun p hp => (ok.pend64 p hp).2)
  · intro p hp; simp at hp
  · simp
  · rw [h1.inv]; rfl
  · rw [heap_setCell_lit hm.hb]; simp
  · exact ownsRow_stay hm.hd fun k hk => one.block k (hm.hd.lt k hk).2 (fun e => hm.ndb (by rw [hk, e]))
  · intro k hk
    rcases hk with h | h | h
    · exact .inl (.inl h)
    · exact .inl (.inr (.inl h))
    · simp [Value.ownBlock] at h

set_option maxHeartbeats 1000000 in
theorem rflush_ok {w : World} {r : RLoc} {D : Dk} (h : RefAt w r D) (hdn : D.down = false) (hpw : D.power.2 = true) :
    Calls Try.prog 22 #[.pointer (some ⟨r.b, 0, none⟩)] w (RefPost r { D.power.1 with las := putAll D.power.1.las D.power.1.pend, pend := [] } (.int .i64 0) w) := by
  have H2 := hid (rcall_any h)
  have HQ := hid hpw
  obtain ⟨c0, c1, c2, c3, cf⟩ := h.mem.cells
  rw [hdn] at c3
  have h0 := h
  clear hpw hdn cf
  go_enter Try.func22, Try.ntmps22
  go_wp2_with fail
  refine H2.out.mono ?_
  rintro e w1 ⟨rfl, h1, hc1⟩
  rw [HQ.out]
  generalize D.power.1 = D1 at *
  have few := h1.ok.few
  clear c0 c1 c2 c3
  go_wp2_with fail
  go_loopw [3] (fun c wr => ∃ k : Nat, k ≤ D1.pend.length ∧ c = .int .i64 k ∧ RefMem wr r (putAll D1.las (D1.pend.take k)) D1.pend D1.fuse D1.down ∧ Chg r.F w1 wr) (fun c _ => D1.pend.length - (intOf c).toNat)
  case atStart => exact ⟨0, Nat.zero_le _, rfl, by simpa [putAll] using h1.mem, Chg.refl _ _⟩
  case round =>
    obtain ⟨k, hk, rfl, hm, hc⟩ := hrel
    obtain ⟨d0, d1, d2, d3, df⟩ := hm.cells
    have f1 := df 1
    by_cases hlt : k < D1.pend.length
    · have hall : (putAll D1.las (D1.pend.take k)).length = D1.las.length := length_putAll _ _
      obtain ⟨g, cap, hv, hgl, hgb, hgc, hgf, hgcell⟩ := dv_form hm (by rw [hall, h1.ok.len]; have := h1.ok.lo; omega)
      rcases rpending hm with ⟨hp1, hp2⟩ | ⟨g2, cap2, hp1, hgl2, hgb2, hgd2, hp2⟩
      · rw [hp2] at hlt; simp at hlt
      · obtain ⟨y1, y2⟩ := hp2 k hlt
        obtain ⟨q1, q2⟩ := h1.ok.pend64 _ (List.getElem_mem hlt)
        rw [getD_lt hlt] at y1 y2
        have hi1 : ((D1.pend[k].1 : Nat) : Int) < (D1.las.length : Int) := by rw [h1.ok.len]; omega
        have hi0 : (0 : Int) ≤ (D1.pend[k].1 : Int) := by omega
        have hk1 : ((k : Nat) : Int) < (D1.pend.length : Int) := by omega
        have hk0 : (0 : Int) ≤ (k : Int) := by omega
        have hgx := hgcell D1.pend[k].1 (by rw [hall, h1.ok.len]; exact q1)
        have hgy := hgf D1.pend[k].1
        rw [hv] at d0
        rw [hp1] at d1
        rw [hall] at d0
        have hstep := (hm.drew.rput hv D1.pend[k].1 D1.pend[k].2)
        have e : D1.pend.take (k + 1) = D1.pend.take k ++ [D1.pend[k]] := List.take_succ_eq_append_getElem hlt
        have hfin : RefMem (wr.drew.setCell ⟨g, D1.pend[k].1, none⟩ (sv D1.pend[k].2)) r (putAll D1.las (D1.pend.take (k + 1))) D1.pend D1.fuse D1.down ∧ Chg r.F w1 (wr.drew.setCell ⟨g, D1.pend[k].1, none⟩ (sv D1.pend[k].2)) := by
          refine ⟨by rw [e, putAll_snoc]; exact hstep.1, ?_⟩
          exact hc.drew.trans hstep.2 (fun _ _ h => h)
        have HF := hid hfin
        clear hfin hstep e hp1 hp2 hv hgcell hgf df hall q1 q2
        unfold sv at y2 hgx HF
        go_wp2_with fail
        go_still_tail 21, (by kernel_rfl)
        change wpList _ _ _ _ _ wr.drew
        go_wp2
        go_roundw
        case rel => exact ⟨k + 1, by omega, by go_num, HF.out.1, HF.out.2⟩
        case measure => simp [intOf]; omega
    · have hkn : k = D1.pend.length := by omega
      rw [hkn, List.take_length] at hm
      have HM := hid hm
      have hkk : (D1.pend.length : Int) ≤ (k : Int) := by omega
      obtain ⟨a, n, hpv⟩ : ∃ a n, r.pv = .slice a D1.pend.length n := by
        rcases rpending hm with ⟨hp1, hp2⟩ | ⟨g2, cap2, hp1, hgl2, hgb2, hgd2, hp2⟩
        · exact ⟨none, 0, by rw [hp1, hp2]; rfl⟩
        · exact ⟨_, _, hp1⟩
      rw [hpv] at d1
      clear hkn df hpv
      go_wp2
      go_ret
      exact HM.out.rflush_close h1 hc1 hc

theorem rflush_any {w : World} {r : RLoc} {D : Dk} (h : RefAt w r D) :
    Calls Try.prog 22 #[.pointer (some ⟨r.b, 0, none⟩)] w (RefPost r D.flush.1 (.int .i64 D.flush.2) w) := by
  obtain ⟨c0, c1, c2, c3, cf⟩ := h.mem.cells
  cases hd : D.down
  · by_cases hq : D.power.2 = true
    · have e : D.flush = ({ D.power.1 with las := putAll D.power.1.las D.power.1.pend, pend := [] }, 0) := by simp [Dk.flush, hd, hq]
      rw [e]
      exact rflush_ok h hd hq
    · have hq' : D.power.2 = false := by simpa using hq
      have e : Hid (D.flush = (D.power.1, 90)) := by simp [Hid, Dk.flush, hd, hq']
      have H2 := hid (rcall_any h)
      have HQ := hid hq'
      rw [hd] at c3
      clear hd hq hq' cf
      go_enter Try.func22, Try.ntmps22
      go_wp2_with fail
      refine H2.out.mono ?_
      rintro e w1 ⟨rfl, hd1, hc1⟩
      rw [HQ.out]
      go_wp2_with fail
      go_ret
      rw [e.out]
      exact RefPost.same hd1 hc1 rfl
  · have e : Hid (D.flush = (D, 90)) := by simp [Hid, Dk.flush, hd]
    rw [hd] at c3
    clear hd cf
    go_enter Try.func22, Try.ntmps22
    go_wp2_with fail
    go_ret
    rw [e.out]
    exact RefPost.same h (Chg.refl _ _) rfl
end Go.Proofs.Ytpgagihkicedeaa
