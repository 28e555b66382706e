/- Contracts of NewDisk and (*Disk).Write of package pound. -/
import Derived.Test.YtpgagihkicedeaaDiskA
import Derived.Deep.RegionHeld3
namespace Go.Proofs.Ytpgagihkicedeaa
open Go Go.RowKit

def zero64 : Array Value := Array.replicate 64 (.int .u8 0)
theorem infoSector : (Try.prog.info? 55).map (fun i => (i.zero, i.size, i.bytes)) = some (some (.agg zero64), 64, 64) := by unfold zero64; kernel_rfl
theorem sizeSector : (Try.prog.info? 55).map (·.size) = some 64 := by kernel_rfl
def zeroChange : Array Value := #[.int .i64 0] ++ Array.replicate 64 (.int .u8 0)
theorem infoChange : (Try.prog.info? 57).map (fun i => (i.zero, i.size, i.bytes)) = some (some (.agg zeroChange), 65, 72) := by unfold zeroChange; kernel_rfl
theorem infoByte : (Try.prog.info? 5).map (·.size) = some 1 := by kernel_rfl

def zsec : List UInt8 := List.replicate 64 0
theorem length_zsec : zsec.length = 64 := by simp [zsec]
/-- A new disk. -/
def Dk.new (n : Nat) : Dk := { las := List.replicate n zsec, now := List.replicate n zsec, pend := [], down := false, fuse := -1 }
theorem Dk.new_ok (n : Nat) (h1 : 64 ≤ n) (h2 : n ≤ 65536) : (Dk.new n).Ok where
  len := by simp [Dk.new]
  lo := by simpa [Dk.new] using h1
  hi := by simpa [Dk.new] using h2
  las64 := fun s hs => by rw [(List.mem_replicate.1 hs).2, length_zsec]
  now64 := fun s hs => by rw [(List.mem_replicate.1 hs).2, length_zsec]
  pend64 := fun p hp => by simp [Dk.new] at hp
  few := by simp [Dk.new]
  fuse1 := by simp [Dk.new]
  fuse2 := by simp [Dk.new]

/-- The cells of n new sectors. -/
def zrow (n : Nat) : Array Value := (secs (List.replicate n zsec)).flatten.toArray
theorem madeCells_secs (n : Nat) : madeCells (Value.agg zero64).cells (n * 64) = zrow n := by
  have hl : (secs (List.replicate n zsec)).flatten = List.replicate (n * 64) (.int .u8 0) := by
    have e : bcells zsec = List.replicate 64 (.int .u8 0) := by simp only [bcells, zsec, List.map_replicate]; rfl
    rw [secs, List.map_replicate, e, List.flatten_replicate_replicate]
  unfold madeCells zrow Value.cells zero64
  rw [hl]
  apply Array.ext
  · simp
  · intro i h1 h2
    simp
    rw [getElem!_pos _ _ (by simp; omega)]
    simp
theorem makeSectors (n : Nat) (hn : n ≤ 65536) (w : World) : (Instr.makeSlice 49 (.int .i64 n) (.int .i64 n)).run Try.prog w = .ok (.slice (some ⟨w.heap.size, 0, none⟩) n n) (w.alloc (.cells (zrow n) 55)) := by
  obtain ⟨i0, hi, hz0, hz1, hz2⟩ := info_parts infoSector
  have := run_make (P := Try.prog) w 49 55 i0 _ Try.underlying49 hi hz0 .i64 .i64 n n (by omega) (by omega) (by rw [hz2]; omega) (by omega)
  rw [this, hz1, Int.toNat_natCast, madeCells_secs]

theorem newDisk_at {n : Nat} (h1 : 64 ≤ n) (h2 : n ≤ 65536) (w : World) (x y : Nat) (hx : x = w.heap.size ∧ y = w.heap.size + 1 ∨ x = w.heap.size + 1 ∧ y = w.heap.size) :
    DiskAt (((w.alloc (.cells (zrow n) 55)).alloc (.cells (zrow n) 55)).alloc (.cells #[.slice (some ⟨x, 0, none⟩) n n, .slice (some ⟨y, 0, none⟩) n n, .slice none 0 0, .bool false, .int .i64 (-1)] 52)).drew
      ⟨w.heap.size + 1 + 1, x, y, .slice none 0 0⟩ (Dk.new n) where
  ok := Dk.new_ok n h1 h2
  hb := by
    show (World.alloc _ _).heap[_]? = _
    rw [heap_alloc_get, if_pos (by simp)]
    simp [dcells, Dk.new]
  hl := by
    show (World.alloc _ _).heap[_]? = _
    rw [heap_alloc_get, heap_alloc_get, heap_alloc_get]
    rcases hx with ⟨rfl, rfl⟩ | ⟨rfl, rfl⟩ <;> simp [Dk.new, zrow] <;> omega
  hn := by
    show (World.alloc _ _).heap[_]? = _
    rw [heap_alloc_get, heap_alloc_get, heap_alloc_get]
    rcases hx with ⟨rfl, rfl⟩ | ⟨rfl, rfl⟩ <;> simp [Dk.new, zrow] <;> omega
  hp := World.ownsRow_nil _ _ _ _
  nbl := by simp; omega
  nbn := by simp; omega
  nln := by simp; omega
  npb := by simp [Value.ownBlock]
  npl := by simp [Value.ownBlock]
  npn := by simp [Value.ownBlock]

/-- What NewDisk returns where the number of sectors is right. -/
def NewDiskPost (n : Nat) (w : World) (e : Ending) (w' : World) : Prop :=
  ∃ d : DLoc, e = .returned (.tuple #[.pointer (some ⟨d.b, 0, none⟩), .int .i64 0]) ∧ DiskAt w' d (Dk.new n) ∧ Below w.heap.size w w' ∧ ∀ k, d.F k → w.heap.size ≤ k

set_option maxHeartbeats 400000 in
theorem newDisk_yes (n : Nat) (w : World) (h1 : 64 ≤ n) (h2 : n ≤ 65536) : Calls Try.prog 6 #[.int .i64 n] w (NewDiskPost n w) := by
  have hm := makeSectors n h2
  go_enter Try.func6, Try.ntmps6
  go_wp2
  go_region
  all_goals go_wp2
  all_goals
    go_ret2
    refine ⟨⟨_, _, _, _⟩, rfl, newDisk_at h1 h2 w _ _ (by omega), ((((Below.refl _ _).alloc (Nat.le_refl _) _).alloc (by simp) _).alloc (by simp; omega) _).drew, ?_⟩
    intro k hk
    rcases hk with rfl | rfl | rfl | hk
    · simp; omega
    · simp
    · simp
    · simp [Value.ownBlock] at hk

set_option maxHeartbeats 400000 in
theorem newDisk_no (n : Int) (w : World) (h : n < 64 ∨ 65536 < n) : Calls Try.prog 6 #[.int .i64 n] w fun e w' => e = .returned (.tuple #[.pointer none, .int .i64 1]) ∧ w = w' := by
  by_cases h1 : n < 64
  · go_enter Try.func6, Try.ntmps6
    go_wp2
    go_ret2
    exact ⟨rfl, rfl⟩
  · have h2 : 65536 < n := by omega
    go_enter Try.func6, Try.ntmps6
    go_wp2
    go_ret2
    exact ⟨rfl, rfl⟩
end Go.Proofs.Ytpgagihkicedeaa
