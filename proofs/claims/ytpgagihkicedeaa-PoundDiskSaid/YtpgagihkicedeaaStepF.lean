/- The walk of PoundDisk. -/
import Derived.Test.YtpgagihkicedeaaStepE
import Derived.Test.YtpgagihkicedeaaTornB
set_option linter.unusedSimpArgs false
set_option linter.unusedVariables false
namespace Go.Proofs.Ytpgagihkicedeaa
open Go Go.RowKit

/-- Between two steps. -/
def Going (w : World) (db rb n m : Nat) (wr : World) : Prop :=
  ∃ d r D, d.b = db ∧ r.b = rb ∧ Two wr d r D ∧ D.las.length = n ∧ D.pend.length ≤ m ∧ Below w.heap.size w wr ∧ (∀ k, d.F k → w.heap.size ≤ k) ∧ ∀ k, r.F k → w.heap.size ≤ k
theorem Going.go {w wr w2 : World} {d : DLoc} {r : RLoc} {D : Dk} {m : Nat} {e : Ending} (h : Two wr d r D) (hp : D.pend.length ≤ m) (hb : Below w.heap.size w wr) (hd : ∀ k, d.F k → w.heap.size ≤ k) (hr : ∀ k, r.F k → w.heap.size ≤ k) (p : StepPost d r D wr e w2) :
    e = .returned (.bool true) ∧ Going w d.b r.b D.las.length (m + 1) w2 := by
  obtain ⟨he, d', r', D', h1, h2, h3, h4, h5, h6, h7, h8⟩ := p
  have sz := hb.size
  refine ⟨he, d', r', D', h1, h2, h3, h4, by omega, ?_, fun k hk => ?_, fun k hk => ?_⟩
  · exact hb.trans (h6.belowB (fun k hk => hk.elim (hd k) (hr k)) sz)
  · rcases h7 k hk with h | h
    · exact hd k h
    · omega
  · rcases h8 k hk with h | h
    · exact hr k h
    · omega

/-- The operation of the last loop. -/
def readAt (i : Nat) : OpIn := { kd := 0, at_ := i, n := 0, a := none, s := [], cap := 0, ka := none, keep := [], kcap := 0 }
theorem readAt_ok (w : World) (B i : Nat) : OpOk w B (readAt i) where
  kd := by simp [readAt]
  n := by simp [readAt]
  ha := BytesAt.nil _ _
  hm := by simp [readAt]
  aB := fun h => absurd rfl h
  hka := fun j n h => by simp [readAt] at h
  hkm := by simp [readAt]
  kB := fun h => absurd rfl h
  kr := fun n h => by simp [readAt] at h

set_option maxHeartbeats 1000000 in
theorem disk_big {w : World} {sa : Option Addr} {os : List OpIn} (h : ScriptAt w w.heap.size sa os) (cap : Nat) (hm : os.length ≤ maxLen) (sectors : Int) (hs : smallS os = false) :
    Calls Try.prog 4 #[.int .i64 sectors, .slice sa os.length cap] w fun e w' => e = .returned (.bool true) ∧ Below w.heap.size w w' := by
  have HD := hid disks_any
  have HS := hid (small_any h cap hm)
  have Hs := hid hs
  unfold maxLen at hm
  clear hs h
  go_enter Try.func4, Try.ntmps4
  go_wp2_with fail
  refine HS.out.mono ?_
  rintro e w' ⟨rfl, rfl⟩
  rw [Hs.out]
  go_wp2_with (go_at_call 5; refine (HD.out _).mono ?_; rintro e w' ⟨rfl, hb⟩)
  go_ret
  exact ⟨rfl, hb⟩

set_option maxHeartbeats 1000000 in
theorem disk_out {w : World} {sa : Option Addr} {os : List OpIn} (h : ScriptAt w w.heap.size sa os) (cap : Nat) (hm : os.length ≤ maxLen) (sectors : Int) (hs : smallS os = true) (ho : sectors < 64 ∨ 65536 < sectors) :
    Calls Try.prog 4 #[.int .i64 sectors, .slice sa os.length cap] w fun e w' => e = .returned (.bool true) ∧ Below w.heap.size w w' := by
  have HD := hid disks_any
  have HS := hid (small_any h cap hm)
  have HN := hid (fun w => newDisk_no sectors w ho)
  have Hs := hid hs
  unfold maxLen at hm
  clear hs h
  by_cases h1 : sectors < 64
  · go_enter Try.func4, Try.ntmps4
    go_wp2_with fail
    refine HS.out.mono ?_
    rintro e w' ⟨rfl, rfl⟩
    rw [Hs.out]
    go_wp2_with fail
    refine (HN.out _).mono ?_
    rintro e w' ⟨rfl, rfl⟩
    go_wp2_with fail
    refine (HD.out _).mono ?_
    rintro e w' ⟨rfl, hb⟩
    go_wp2
    go_ret
    exact ⟨rfl, hb⟩
  · have h2 : (64 : Int) ≤ sectors := by omega
    have h3 : (65536 : Int) < sectors := by omega
    clear h1
    go_enter Try.func4, Try.ntmps4
    go_wp2_with fail
    refine HS.out.mono ?_
    rintro e w' ⟨rfl, rfl⟩
    rw [Hs.out]
    go_wp2_with fail
    refine (HN.out _).mono ?_
    rintro e w' ⟨rfl, rfl⟩
    go_wp2_with fail
    refine (HD.out _).mono ?_
    rintro e w' ⟨rfl, hb⟩
    go_wp2
    go_ret
    exact ⟨rfl, hb⟩

theorem readStep {w wr : World} {d : DLoc} {r : RLoc} {D : Dk} (h : Two wr d r D) (hd : ∀ k, d.F k → w.heap.size ≤ k) (hr : ∀ k, r.F k → w.heap.size ≤ k) (hf : D.pend.length < 1000000000) (i : Nat) :
    Calls Try.prog 14 #[.pointer (some ⟨d.b, 0, none⟩), .pointer (some ⟨r.b, 0, none⟩), .agg #[.int .u8 0, .int .i64 i, .slice none 0 0, .int .i64 0, .slice none 0 0]] wr (StepPost d r D wr) := by
  have e : (#[.int .u8 0, .int .i64 i, .slice none 0 0, .int .i64 0, .slice none 0 0] : Array Value) = (readAt i).vals.toArray := by simp [readAt, OpIn.vals]
  rw [e]
  exact step_any h (readAt_ok wr w.heap.size i) hd hr hf

set_option maxHeartbeats 2000000 in
theorem disk_in {w : World} {sa : Option Addr} {os : List OpIn} (h : ScriptAt w w.heap.size sa os) (cap : Nat) (hm : os.length ≤ maxLen) (sectors : Nat) (hs : smallS os = true) (h1 : 64 ≤ sectors) (h2 : sectors ≤ 65536) :
    Calls Try.prog 4 #[.int .i64 sectors, .slice sa os.length cap] w fun e w' => e = .returned (.bool true) ∧ Below w.heap.size w w' := by
  have HD := hid disks_any
  have HS := hid (small_any h cap hm)
  have HN := hid (fun w => newDisk_yes sectors w h1 h2)
  have HK := hid (fun w => disk_any sectors w (by omega))
  have Hs := hid hs
  have hl : os.length ≤ 200 := by
    simp only [smallS, Bool.and_eq_true, decide_eq_true_eq] at hs
    exact hs.1
  have i1 : (64 : Int) ≤ (sectors : Int) := by omega
  have i2 : (sectors : Int) ≤ 65536 := by omega
  have hl' : (os.length : Int) ≤ 200 := by omega
  clear hs
  go_enter Try.func4, Try.ntmps4
  go_wp2_with fail
  refine HS.out.mono ?_
  rintro e w' ⟨rfl, rfl⟩
  rw [Hs.out]
  go_wp2_with fail
  refine (HN.out _).mono ?_
  rintro e w1 ⟨d0, rfl, _, hb1, _⟩
  go_wp2_with fail
  refine (HK.out w1).mono ?_
  rintro e w2 ⟨d1, r1, n, rfl, hT, n1, n2, hb2, hd1, hr1⟩
  have sz1 := hb1.size
  have G0 : Going w d1.b r1.b n 0 w2 := ⟨d1, r1, Dk.new n, rfl, rfl, hT, by simp [Dk.new], by simp [Dk.new], hb1.trans (hb2.mono sz1), fun k hk => by have := hd1 k hk; omega, fun k hk => by have := hr1 k hk; omega⟩
  generalize d1.b = db at *
  generalize r1.b = rb at *
  clear hT hb1 hb2 hd1 hr1
  have G0 := hid G0
  go_wp2_with fail
  go_loopw [9] (fun c wr => ∃ k : Nat, k ≤ os.length ∧ c = .int .i64 k ∧ Going w db rb n k wr) (fun c _ => os.length - (intOf c).toNat)
  case atStart => exact ⟨0, Nat.zero_le _, rfl, G0.out⟩
  case round =>
    obtain ⟨k, hk, rfl, hG⟩ := hrel
    by_cases hlt : k < os.length
    · obtain ⟨d, r, D, rfl, rfl, hT, hn, hp, hb, hd, hr⟩ := hG
      obtain ⟨b, f, hsa, hbb, hok, y0, y1, y2, y3, y4⟩ := (h.chg (Chg.of_below (F := fun k => w.heap.size ≤ k) hb) (fun _ hk => hk)).cells hlt
      have hk1 : ((k : Nat) : Int) < (os.length : Int) := by omega
      have hk0 : (0 : Int) ≤ (k : Int) := by omega
      have HT := hid (step_any hT hok hd hr (by omega))
      have HG := hid (fun (e : Ending) (w2 : World) (p : StepPost d r D wr e w2) => Going.go hT hp hb hd hr p)
      clear hT hp hd hr hok
      rw [hsa]
      go_wp2_with fail
      refine HT.out.mono ?_
      rintro e w3 p
      obtain ⟨rfl, hG3⟩ := HG.out e w3 p
      rw [hn] at hG3
      have HG3 := hid hG3
      clear hG3 p HG HT y0 y1 y2 y3 y4
      go_wp2
      go_roundw
      case rel => exact ⟨k + 1, by omega, by go_num, HG3.out⟩
      case measure => simp [intOf]; omega
    · have hkn : k = os.length := by omega
      subst hkn
      have HG := hid hG
      clear hG
      go_wp2_with fail
      have a2 := n2
      go_loopw [10] (fun c wr => ∃ i : Nat, i ≤ n ∧ c = .int .i64 i ∧ Going w db rb n (os.length + i) wr) (fun c _ => n - (intOf c).toNat)
      case atStart => exact ⟨0, Nat.zero_le _, rfl, HG.out⟩
      case round =>
        obtain ⟨i, hi, rfl, hG⟩ := hrel
        obtain ⟨d, r, D, rfl, rfl, hT, hn, hp, hb, hd, hr⟩ := hG
        obtain ⟨g, cap2, hv, _⟩ := dv_form hT.hr.mem (by omega)
        have c0 := hT.hr.mem.cells.1
        rw [hv, hn] at c0
        clear hv
        by_cases hlt : i < n
        · have hi1 : ((i : Nat) : Int) < (n : Int) := by omega
          have hi0 : (0 : Int) ≤ (i : Int) := by omega
          have HT := hid (readStep hT hd hr (by omega) i)
          have HG2 := hid (fun (e : Ending) (w2 : World) (p : StepPost d r D _ e w2) => Going.go hT hp hb hd hr p)
          clear hT hp hd hr hb
          go_wp2_with fail
          refine HT.out.mono ?_
          rintro e w3 p
          obtain ⟨rfl, hG3⟩ := HG2.out e w3 p
          rw [hn] at hG3
          have HG3 := hid hG3
          clear hG3 p HG2 HT c0
          go_wp2
          go_roundw
          case rel => exact ⟨i + 1, by omega, by go_num, HG3.out⟩
          case measure => simp [intOf]; omega
        · have hin : (n : Int) ≤ (i : Int) := by omega
          have HB := hid hb
          have sz := hb.size
          clear hT hp hd hr hb
          go_wp2_with fail
          refine (HD.out _).mono ?_
          rintro e w4 ⟨rfl, hb4⟩
          have HB4 := hid (HB.out.trans (hb4.mono sz))
          clear hb4 c0
          go_wp2
          go_ret
          exact ⟨rfl, HB4.out⟩

theorem disk_all {w : World} {sa : Option Addr} {os : List OpIn} (h : ScriptAt w w.heap.size sa os) (cap : Nat) (hm : os.length ≤ maxLen) (sectors : Int) :
    Calls Try.prog 4 #[.int .i64 sectors, .slice sa os.length cap] w fun e w' => e = .returned (.bool true) ∧ Below w.heap.size w w' := by
  cases hs : smallS os with
  | false => exact disk_big h cap hm sectors hs
  | true =>
    by_cases ho : sectors < 64 ∨ 65536 < sectors
    · exact disk_out h cap hm sectors hs ho
    · obtain ⟨n, rfl⟩ := Int.eq_ofNat_of_zero_le (show 0 ≤ sectors by omega)
      exact disk_in h cap hm n hs (by omega) (by omega)
end Go.Proofs.Ytpgagihkicedeaa
