/- The walk of the statement PoundTorn. -/
import Derived.Test.YtpgagihkicedeaaTornA
set_option linter.unusedSimpArgs false
set_option linter.unusedVariables false
namespace Go.Proofs.Ytpgagihkicedeaa
open Go Go.RowKit

set_option maxRecDepth 100000 in
set_option maxHeartbeats 1000000 in
theorem torn_long (w : World) (sector k : Int) (a1 a2 : Option Addr) (l1 c1 l2 c2 : Nat) (hm1 : l1 ≤ maxLen) (hm2 : l2 ≤ maxLen) (h : 64 < l1 ∨ 64 < l2) :
    Calls Try.prog 3 #[.int .i64 sector, .slice a1 l1 c1, .slice a2 l2 c2, .int .i64 k] w fun e w' => e = .returned (.bool true) ∧ Below w.heap.size w w' := by
  unfold maxLen at hm1 hm2
  have HD := hid disks_any
  by_cases h1 : 64 < l1
  · have h1' : (64 : Int) < (l1 : Int) := by omega
    go_enter Try.func3, Try.ntmps3
    go_wp2_with (go_at_call 5; refine (HD.out _).mono ?_; rintro e w' ⟨rfl, hb⟩)
    go_ret
    exact ⟨rfl, hb⟩
  · have h1' : (l1 : Int) ≤ 64 := by omega
    have h2' : (64 : Int) < (l2 : Int) := by omega
    go_enter Try.func3, Try.ntmps3
    go_wp2_with (go_at_call 5; refine (HD.out _).mono ?_; rintro e w' ⟨rfl, hb⟩)
    go_ret
    exact ⟨rfl, hb⟩

theorem torn_at (sector : Int) : ∃ i : Nat, i < 64 ∧ wrap64 ((IntKind.u64.wrap sector).tmod 64) = (i : Int) := by
  have h0 : 0 ≤ IntKind.u64.wrap sector := by rw [IntKind.wrap_u64]; omega
  rw [Int.tmod_eq_emod_of_nonneg h0]
  refine ⟨(IntKind.u64.wrap sector % 64).toNat, by omega, ?_⟩
  rw [IntWalk.wrap64_in _ (by omega)]
  omega

set_option maxRecDepth 100000 in
set_option maxHeartbeats 1000000 in
theorem torn_short (w : World) (sector k : Int) (a1 a2 : Option Addr) (old new : List UInt8) (c1 c2 : Nat) (ha1 : BytesAt w a1 old) (ha2 : BytesAt w a2 new) (ho : old.length ≤ 64) (hn : new.length ≤ 64)
    (hs : -9223372036854775808 ≤ sector ∧ sector ≤ 9223372036854775807) (hk : -9223372036854775808 ≤ k ∧ k ≤ 9223372036854775807) :
    Calls Try.prog 3 #[.int .i64 sector, .slice a1 old.length c1, .slice a2 new.length c2, .int .i64 k] w fun e w' => e = .returned (.bool true) ∧ Below w.heap.size w w' := by
  have hx1 : old ≠ [] → ∀ x, a1 = some x → x.block < w.heap.size := fun hne x hx => by obtain ⟨y, hy, hl⟩ := ha1.lt hne; rw [hx] at hy; cases hy; exact hl
  have hx2 : new ≠ [] → ∀ x, a2 = some x → x.block < w.heap.size := fun hne x hx => by obtain ⟨y, hy, hl⟩ := ha2.lt hne; rw [hx] at hy; cases hy; exact hl
  have HD := hid disks_any
  have N2 := fun w => newDisk_yes 64 w (by omega) (by omega)
  have h1' : ((old.length : Nat) : Int) ≤ 64 := by omega
  have h2' : ((new.length : Nat) : Int) ≤ 64 := by omega
  obtain ⟨hs1, hs2⟩ := hs
  obtain ⟨i, hi, hX⟩ := torn_at sector
  have HX := hid hX
  clear hX
  go_enter Try.func3, Try.ntmps3
  go_wp2_with fail
  rw [HX.out]
  refine (N2 _).mono ?_
  rintro e w1 ⟨⟨b, bl, bn, pv⟩, rfl, hd1, hb1, hf1⟩
  have F1 := hid hf1
  clear hf1
  have s1 := hb1.size
  go_wp2_with fail
  refine (torn_write_any hd1 i old a1 c1 (ha1.below hb1 hx1) ho (fun hne x hx hk => by have := F1.out _ hk; have := hx1 hne x hx; omega) (by simp [Dk.new]) (torn_w1 i hi old ho)).mono ?_
  intro e w2 hp2
  obtain ⟨rfl, bl2, bn2, pv2, hd2, F2, hb2⟩ := hp2.parts w.heap.size F1.out s1
  clear hp2
  have s2 := hb2.size
  go_wp2_with fail
  refine (torn_flush hd2 (torn_f i old)).mono ?_
  intro e w3 hp3
  obtain ⟨rfl, bl3, bn3, pv3, hd3, F3, hb3⟩ := hp3.parts w.heap.size F2.out (by omega)
  clear hp3
  have s3 := hb3.size
  have hb13 := (hb1.trans hb2).trans hb3
  go_wp2_with fail
  refine (torn_write_any hd3 i new a2 c2 (ha2.below hb13 hx2) hn (fun hne x hx hk => by have := F3.out _ hk; have := hx2 hne x hx; omega) (by simp [torn2, torn1]) (torn_w2 i hi old new hn)).mono ?_
  intro e w4 hp4
  obtain ⟨rfl, bl4, bn4, pv4, hd4, F4, hb4⟩ := hp4.parts w.heap.size F3.out (by omega)
  clear hp4
  have s4 := hb4.size
  go_wp2_with fail
  refine (torn_crash (hd4.alloc _) k ⟨w4.heap.size, 0, none⟩ 1 (by simp) hk (fun hk => by have := hd4.lt _ hk; simp at this)).mono ?_
  intro e w5 hp5
  obtain ⟨rfl, bl5, bn5, pv5, hd5, F5, hb5⟩ := hp5.parts w.heap.size F4.out (by simp; omega)
  clear hp5
  have s5 := hb5.size
  simp only [World.size_alloc] at s5
  have hb15 := ((hb13.trans hb4).alloc (by omega) (.cells #[.int .i64 k] 3)).trans hb5
  go_wp2_with fail
  refine (read_ok hd5 i (by show i < (torn4 i old new k).now.length; rw [torn_len]; omega) (torn_place i hi _ _ k)).mono ?_
  rintro e w6 ⟨v, rfl, hown, hb6⟩
  obtain ⟨g, cap, rfl, hcap, hcap2, hcell⟩ := torn_form hown (torn_read i hi _ _ k) ho hn
  have hd6 : DiskAt w6 ⟨b, bl5, bn5, pv5⟩ (torn4 i old new k) := hd5.stay fun j hj => hb6.block j (hd5.lt j hj)
  have hb16 := hb15.trans (hb6.mono (by omega))
  have HC := hid hcell
  clear hcell
  have HW := hid (down_any hd6)
  go_wp2_with (go_at_call 11; refine HW.out.mono ?_; rintro e w' ⟨rfl, rfl⟩)
  have B1 := hid (ha1.below hb16 hx1)
  have B2 := hid (ha2.below hb16 hx2)
  have h64 : (64 : Int) ≤ (cap : Int) := by omega
  clear ha1 ha2 hx1 hx2
  go_loop [17] (fun s => ∃ j : Nat, j ≤ 64 ∧ s = .int .i64 j) (fun s => 64 - (intOf s).toNat)
  case atStart => exact ⟨0, by omega, rfl⟩
  case round =>
    obtain ⟨j, hj, rfl⟩ := hrel
    by_cases hlt : j < 64
    · have hc := HC.out j hlt
      have hj0 : (0 : Int) ≤ (j : Int) := by omega
      have hj1 : (j : Int) < 64 := by omega
      by_cases hjk : (j : Int) < k
      · by_cases hjn : j < new.length
        · obtain ⟨x, rfl, hx⟩ := B2.out j (bcell new[j]) (by rw [bcells_get, List.getElem?_eq_getElem hjn]; rfl)
          have hw : want old new k j = new[j] := by rw [want, if_pos hjk, getD_lt hjn]
          rw [hw] at hc
          unfold bcell at hc hx
          have hjn' : (j : Int) < (new.length : Int) := by omega
          clear hw
          go_wp2
          go_round
          case rel => exact ⟨j + 1, by omega, by go_num⟩
          case measure => simp [intOf]; omega
        · have hw : want old new k j = 0 := by rw [want, if_pos hjk]; simp [List.getD, List.getElem?_eq_none (Nat.le_of_not_lt hjn)]
          rw [hw] at hc
          have hc' : w6.cell? ⟨g, j, none⟩ = some (.int .u8 0) := hc
          have hjn' : (new.length : Int) ≤ (j : Int) := by omega
          clear hw hc
          go_wp2
          go_round
          case rel => exact ⟨j + 1, by omega, by go_num⟩
          case measure => simp [intOf]; omega
      · have hjk' : k ≤ (j : Int) := by omega
        by_cases hjn : j < old.length
        · obtain ⟨x, rfl, hx⟩ := B1.out j (bcell old[j]) (by rw [bcells_get, List.getElem?_eq_getElem hjn]; rfl)
          have hw : want old new k j = old[j] := by rw [want, if_neg hjk, getD_lt hjn]
          rw [hw] at hc
          unfold bcell at hc hx
          have hjn' : (j : Int) < (old.length : Int) := by omega
          clear hw hjk
          go_wp2
          go_round
          case rel => exact ⟨j + 1, by omega, by go_num⟩
          case measure => simp [intOf]; omega
        · have hw : want old new k j = 0 := by rw [want, if_neg hjk]; simp [List.getD, List.getElem?_eq_none (Nat.le_of_not_lt hjn)]
          rw [hw] at hc
          have hc' : w6.cell? ⟨g, j, none⟩ = some (.int .u8 0) := hc
          have hjn' : (old.length : Int) ≤ (j : Int) := by omega
          clear hw hc hjk
          go_wp2
          go_round
          case rel => exact ⟨j + 1, by omega, by go_num⟩
          case measure => simp [intOf]; omega
    · have hj2 : (64 : Int) ≤ (j : Int) := by omega
      go_wp2_with (go_at_call 5; refine (HD.out _).mono ?_; rintro e w' ⟨rfl, hb⟩)
      go_ret
      exact ⟨rfl, hb16.trans (hb.mono (by have := hb16.size; omega))⟩
end Go.Proofs.Ytpgagihkicedeaa
