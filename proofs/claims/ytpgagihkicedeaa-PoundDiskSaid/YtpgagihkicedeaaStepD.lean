/- The two disks made; the script. -/
import Derived.Test.YtpgagihkicedeaaStepC
import Derived.Test.YtpgagihkicedeaaRefF
import Derived.OwnWalk
set_option linter.unusedSimpArgs false
set_option linter.unusedVariables false
namespace Go.Proofs.Ytpgagihkicedeaa
open Go Go.RowKit

/-- Both disks, made. -/
def TwoNew (w : World) (e : Ending) (w' : World) : Prop :=
  ∃ (d : DLoc) (r : RLoc) (n : Nat), e = .returned (.tuple #[.pointer (some ⟨d.b, 0, none⟩), .pointer (some ⟨r.b, 0, none⟩), .bool true]) ∧ Two w' d r (Dk.new n) ∧ 64 ≤ n ∧ n ≤ 128 ∧ Below w.heap.size w w' ∧
    (∀ k, d.F k → w.heap.size ≤ k) ∧ ∀ k, r.F k → w.heap.size ≤ k
set_option maxHeartbeats 1000000 in
theorem disk_any (sectors : Int) (w : World) (hs : -9223372036854775808 ≤ sectors ∧ sectors ≤ 9223372036854775807) : Calls Try.prog 13 #[.int .i64 sectors] w (TwoNew w) := by
  obtain ⟨s1, s2⟩ := hs
  go_enter Try.func13, Try.ntmps13
  go_wp2_with fail
  obtain ⟨n, hn, h1, h2⟩ : ∃ n : Nat, wrap64 (64 + wrap64 ((IntKind.u64.wrap sectors).tmod 65)) = (n : Int) ∧ 64 ≤ n ∧ n ≤ 128 := by
    have q1 : 0 ≤ (IntKind.u64.wrap sectors).tmod 65 ∧ (IntKind.u64.wrap sectors).tmod 65 < 65 := by
      have q0 : 0 ≤ IntKind.u64.wrap sectors := by rw [IntKind.wrap_u64]; omega
      generalize IntKind.u64.wrap sectors = z at q0
      rw [Int.tmod_eq_emod_of_nonneg q0]
      omega
    generalize (IntKind.u64.wrap sectors).tmod 65 = z at *
    have e1 : wrap64 z = z := by unfold wrap64; omega
    rw [e1]
    have e2 : wrap64 (64 + z) = 64 + z := by unfold wrap64; omega
    rw [e2]
    exact ⟨(64 + z).toNat, by omega, by omega, by omega⟩
  rw [hn]
  generalize wrap64 ((IntKind.u64.wrap sectors).tmod 65) = z1
  refine (newDisk_yes n w h1 (by omega)).mono ?_
  rintro e w1 ⟨d, rfl, hd, hb, hF⟩
  go_wp2_with fail
  refine (rnew_yes n w1 h1 (by omega)).mono ?_
  rintro e w2 ⟨r, rfl, hr, hb2, hF2⟩
  have lt1 := hd.lt
  have sz := hb.size
  have G : TwoNew w (.returned (.tuple #[.pointer (some ⟨d.b, 0, none⟩), .pointer (some ⟨r.b, 0, none⟩), .bool true])) w2 :=
    ⟨d, r, n, rfl, ⟨hd.chg (Chg.of_below (F := fun _ => False) hb2) (fun _ _ => id), hr, fun k h3 h4 => by have := lt1 k h3; have := hF2 k h4; omega⟩, h1, h2, hb.trans (hb2.mono (by omega)), hF, fun k hk => by have := hF2 k hk; omega⟩
  have G := hid G
  go_wp2
  go_ret3
  exact G.out
end Go.Proofs.Ytpgagihkicedeaa
