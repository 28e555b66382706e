/- The contract of (*couchantref09.Disk).Crash. -/
import Derived.Test.YtpgagihkicedeaaRefD
set_option linter.unusedSimpArgs false
set_option linter.unusedVariables false
namespace Go.Proofs.Ytpgagihkicedeaa
open Go Go.RowKit

theorem mk_extract (l : List UInt8) (a b : Nat) : (⟨l.toArray⟩ : ByteArray).extract a b = ⟨((l.drop a).take (b - a)).toArray⟩ := by
  apply ByteArray.ext
  rw [ByteArray.data_extract]
  simp [List.extract_toArray, List.extract_eq_take_drop]
theorem str_tear {new old : List UInt8} {n : Nat} (h1 : new.length = 64) (h2 : old.length = 64) (hn : n ≤ 64) :
    ((⟨new.toArray⟩ : ByteArray).extract 0 n ++ (⟨old.toArray⟩ : ByteArray).extract n old.length) = ⟨(tear n new old).toArray⟩ := by
  rw [mk_extract, mk_extract, mk_append, tear, List.drop_zero, Nat.sub_zero, show (old.drop n).take (old.length - n) = old.drop n from List.take_of_length_le (by simp)]

/-- The reference's disk behind Crash. -/
theorem RefMem.rcrash_close {w wr : World} {r : RLoc} {D : Dk} {keep : List Int} (hm : RefMem wr r (tearAll keep 0 D.pend D.las) D.pend D.fuse D.down) (h : RefAt w r D) (hc : Chg r.F w wr) :
    RefPost r (D.crash keep) (.tuple #[]) w (.returned (.tuple #[])) (((wr.setCell ⟨r.b, 1, none⟩ (.slice none 0 0)).setCell ⟨r.b, 2, none⟩ (.int .i64 (-1))).setCell ⟨r.b, 3, none⟩ (.bool false)) := by
  have ok := h.ok
  have hall := all64_tearAll keep D.pend 0 D.las ok.las64 (fun q hq => by rw [ok.len]; exact ok.pend64 q hq)
  have hlen : (tearAll keep 0 D.pend D.las).length = D.now.length := by rw [length_tearAll, ok.len]
  refine ⟨rfl, ⟨r.b, r.dv, .slice none 0 0⟩, rfl, ⟨⟨rfl, ?_, ?_, hall, hall, fun p hp => by simp [Dk.crash] at hp, by simp [Dk.crash], by simp [Dk.crash], by simp [Dk.crash]⟩, rfl, ?_, ?_, World.ownsRow_nil _ _ _ _, hm.ndb, by simp [Value.ownBlock], fun k _ => by simp [Value.ownBlock]⟩,
    ((hc.setCell (p := ⟨r.b, 1, none⟩) (fun _ => .inl rfl) _).setCell (p := ⟨r.b, 2, none⟩) (fun _ => .inl rfl) _).setCell (p := ⟨r.b, 3, none⟩) (fun _ => .inl rfl) _, ?_⟩
  · show 64 ≤ (tearAll keep 0 D.pend D.las).length
    rw [hlen]; exact ok.lo
  · show (tearAll keep 0 D.pend D.las).length ≤ 65536
    rw [hlen]; exact ok.hi
  · rw [heap_setCell_lit (heap_setCell_lit (heap_setCell_lit hm.hb 1 (.slice none 0 0)) 2 (.int .i64 (-1))) 3 (.bool false)]
    simp [Dk.crash]
  · refine ownsRow_stay hm.hd fun k hk => ?_
    have : ¬ k = r.b := fun e => hm.ndb (by rw [hk, e])
    rw [heap_setCell_get, if_neg this, heap_setCell_get, if_neg this, heap_setCell_get, if_neg this]
  · intro k hk
    rcases hk with h | h | h
    · exact .inl (.inl h)
    · exact .inl (.inr (.inl h))
    · simp [Value.ownBlock] at h

set_option maxHeartbeats 1000000 in
theorem rcrash_any {w : World} {r : RLoc} {D : Dk} (h : RefAt w r D) (keep : List Int) (ka : Option Addr) (kcap : Nat) (hka : IntsAt w ka keep) (hkm : keep.length ≤ maxLen) (hkF : keep ≠ [] → ∀ x, ka = some x → ¬ r.F x.block)
    (hkr : ∀ n ∈ keep, -9223372036854775808 ≤ n ∧ n ≤ 9223372036854775807) :
    Calls Try.prog 25 #[.pointer (some ⟨r.b, 0, none⟩), .slice ka keep.length kcap] w (RefPost r (D.crash keep) (.tuple #[]) w) := by
  unfold maxLen at hkm
  have few := h.ok.few
  go_enter Try.func25, Try.ntmps25
  go_wp2_with fail
  go_loopw [4] (fun c wr => ∃ k : Nat, k ≤ D.pend.length ∧ c = .int .i64 k ∧ RefMem wr r (tearAll keep 0 (D.pend.take k) D.las) D.pend D.fuse D.down ∧ Chg r.F w wr) (fun c _ => D.pend.length - (intOf c).toNat)
  case atStart => exact ⟨0, Nat.zero_le _, rfl, by simpa [tearAll] using h.mem, Chg.refl _ _⟩
  case round =>
    obtain ⟨k, hk, rfl, hm, hc⟩ := hrel
    obtain ⟨d0, d1, d2, d3, df⟩ := hm.cells
    have f1 := df 1
    have f2 := df 2
    have f3 := df 3
    by_cases hlt : k < D.pend.length
    · have hall : (tearAll keep 0 (D.pend.take k) D.las).length = D.las.length := length_tearAll _ _ _ _
      have h64 := all64_tearAll keep (D.pend.take k) 0 D.las h.ok.las64 (fun q hq => by rw [h.ok.len]; exact h.ok.pend64 q (List.mem_of_mem_take hq))
      obtain ⟨g, cap, hv, hgl, hgb, hgc, hgf, hgcell⟩ := dv_form hm (by rw [hall, h.ok.len]; have := h.ok.lo; omega)
      rcases rpending hm with ⟨hp1, hp2⟩ | ⟨g2, cap2, hp1, hgl2, hgb2, hgd2, hp2⟩
      · rw [hp2] at hlt; simp at hlt
      · obtain ⟨y1, y2⟩ := hp2 k hlt
        obtain ⟨q1, q2⟩ := h.ok.pend64 _ (List.getElem_mem hlt)
        rw [getD_lt hlt] at y1 y2
        have hi1 : ((D.pend[k].1 : Nat) : Int) < (D.las.length : Int) := by rw [h.ok.len]; omega
        have hi0 : (0 : Int) ≤ (D.pend[k].1 : Int) := by omega
        have hk1 : ((k : Nat) : Int) < (D.pend.length : Int) := by omega
        have hk0 : (0 : Int) ≤ (k : Int) := by omega
        have hix : D.pend[k].1 < (tearAll keep 0 (D.pend.take k) D.las).length := by rw [hall, h.ok.len]; exact q1
        have hgx := hgcell D.pend[k].1 hix
        have hgy := hgf D.pend[k].1
        have hold : ((tearAll keep 0 (D.pend.take k) D.las).getD D.pend[k].1 []).length = 64 := by rw [getD_lt hix]; exact h64 _ (List.getElem_mem hix)
        generalize hos : (tearAll keep 0 (D.pend.take k) D.las).getD D.pend[k].1 [] = old at *
        rw [hv] at d0
        rw [hp1] at d1
        rw [hall] at d0
        have hcw : Hid (∀ (hkl : k < keep.length), ∃ x, ka = some x ∧ wr.cell? (x.add k) = some (.int .i64 keep[k])) := by
          intro hkl
          obtain ⟨x, rfl, hcell⟩ := (hka.chg hc hkF) k keep[k] (List.getElem?_eq_getElem hkl)
          exact ⟨x, rfl, hcell⟩
        have hka0 := hid hka
        have hkF0 := hid hkF
        have hkr0 := hid hkr
        have HOS := hid hos
        have hp2H := hid hp2
        have hvH := hid hv
        have hgcH := hid hgcell
        have hgfH := hid hgf
        have dfH := hid df
        have hp1H := hid hp1
        have q2H := hid q2
        have hallH := hid hall
        have holdH := hid hold
        clear hka hkF hkr hos hp2 hv hgcell hgf df hp1 q2 hall h64 hold
        go_upto_if 19 with fail
        go_cut [5] (fun s5 wx => s5 = .int .i64 ((kept keep k : Nat) : Int) ∧ wx = wr)
        case first =>
          by_cases hkl : k < keep.length
          · obtain ⟨x, rfl, hcell⟩ := hcw.out hkl
            have hkk : ((k : Nat) : Int) < (keep.length : Int) := by omega
            go_wp2_with fail
            all_goals go_meet
            all_goals exact ⟨by simp only [kept, getD_lt hkl, Value.int.injEq, true_and]; omega, rfl⟩
          · have hkk : ¬ ((k : Nat) : Int) < (keep.length : Int) := by omega
            go_wp2_with fail
            go_meet
            exact ⟨by simp [kept, List.getElem?_eq_none (Nat.le_of_not_lt hkl)]; decide, rfl⟩
        case rest =>
          obtain ⟨rfl, rfl⟩ := hcut
          have hn64 : kept keep k ≤ 64 := kept_le _ _
          generalize hnn : kept keep k = n at *
          have HN := hid hnn
          clear hnn
          have hn1 : ((n : Nat) : Int) ≤ 64 := by omega
          have hn0 : (0 : Int) ≤ (n : Int) := by omega
          unfold sv at y2 hgx
          have hl1 : ((n : Nat) : Int) ≤ ((D.pend[k].2).length : Int) := by rw [q2H.out]; omega
          have hl2 : ((n : Nat) : Int) ≤ (old.length : Int) := by rw [holdH.out]; omega
          have lb := lt_of_block hm.hb
          go_wp2_with fail
          generalize hW : wc.alloc (Obj.cells #[Value.int .i64 (D.pend[k].1 : Int), Value.string ⟨D.pend[k].2.toArray⟩] 66) = w6
          have z0 : w6.cell? ⟨r.b, 0, none⟩ = some (.slice (some ⟨g, 0, none⟩) D.las.length cap) := by rw [← hW, World.cell?_alloc_lt _ _ _ lb]; exact d0
          have z1 : w6.cell? ⟨wc.heap.size, 0, none⟩ = some (.int .i64 (D.pend[k].1 : Int)) := by rw [← hW]; simp
          have z2 : w6.cell? ⟨wc.heap.size, 1, none⟩ = some (.string ⟨D.pend[k].2.toArray⟩) := by rw [← hW]; simp
          have z3 : w6.cell? ⟨g, D.pend[k].1, none⟩ = some (.string ⟨old.toArray⟩) := by rw [← hW, World.cell?_alloc_lt _ _ _ hgl]; exact hgx
          have z4 : w6.frozen? ⟨g, D.pend[k].1, none⟩ = false := by rw [← hW, World.frozen?_alloc_past _ _ _ hgl]; exact hgy
          have c6 : Chg (fun _ => False) wc w6 := by rw [← hW]; exact (Chg.refl _ wc).alloc _
          have HW := hid hW
          have hcc : ¬ 9223372036854775807 < min n D.pend[k].2.length + (old.length - n) := by have := q2H.out; have := holdH.out; omega
          clear hW d0 d1 hgx hgy y1 y2
          go_still_tail 22, (by kernel_rfl)
          change wpList _ _ _ _ _ w6.drew
          go_wp2
          rw [str_tear q2H.out holdH.out hn64]
          have m6 : RefMem w6 r (tearAll keep 0 (D.pend.take k) D.las) D.pend D.fuse D.down := hm.stay fun j hj => c6.block j (hm.lt j hj) id
          have hcw6 : Chg r.F w w6 := hc.trans c6 (fun _ _ h => h.elim)
          obtain ⟨s1, s2⟩ := m6.rput hvH.out D.pend[k].1 (tear n D.pend[k].2 old)
          have e : D.pend.take (k + 1) = D.pend.take k ++ [D.pend[k]] := List.take_succ_eq_append_getElem hlt
          have hz : 0 + (D.pend.take k).length = k := by simp; omega
          refine ⟨⟨k + 1, by omega, by go_num, ?_, (hcw6.trans s2 (fun _ _ h => h)).drew⟩, by simp [intOf]; omega⟩
          rw [e, tearAll_snoc, hz, HN.out, HOS.out]
          exact s1.drew
    · have hkn : k = D.pend.length := by omega
      rw [hkn, List.take_length] at hm
      have HM := hid hm
      have hkk : (D.pend.length : Int) ≤ (k : Int) := by omega
      obtain ⟨a, n, hpv⟩ : ∃ a n, r.pv = .slice a D.pend.length n := by
        rcases rpending hm with ⟨hp1, hp2⟩ | ⟨g2, cap2, hp1, hgl2, hgb2, hgd2, hp2⟩
        · exact ⟨none, 0, by rw [hp1, hp2]; rfl⟩
        · exact ⟨_, _, hp1⟩
      rw [hpv] at d1
      clear hkn df hpv d0
      go_wp2
      go_end0
      exact HM.out.rcrash_close h hc
end Go.Proofs.Ytpgagihkicedeaa
