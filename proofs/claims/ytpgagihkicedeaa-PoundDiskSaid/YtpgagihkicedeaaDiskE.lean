/- Contracts of slices.Clone at bytes and of (*Disk).Read of package pound. -/
import Derived.Test.YtpgagihkicedeaaDiskD
import Derived.Lib.SliceRun
set_option linter.unusedSimpArgs false
set_option linter.unusedVariables false
namespace Go.Proofs.Ytpgagihkicedeaa
open Go Go.RowKit

theorem infoByte3 : (Try.prog.info? 5).map (fun i => (i.zero, i.size, i.bytes)) = some (some (.int .u8 0), 1, 1) := by kernel_rfl

/-- A new slice with the bytes s. -/
def ClonePost (s : List UInt8) (w : World) (e : Ending) (w' : World) : Prop :=
  ∃ v, e = .returned v ∧ w'.ownsRow w.heap.size 5 1 v s.length (bcells s) ∧ Below w.heap.size w w'

set_option maxHeartbeats 400000 in
theorem clone_any (s : List UInt8) (x : Addr) (cap : Nat) (w : World) (ha : BytesAt w (some x) s) (hm : s.length ≤ 140737488355328) (h0 : 0 < s.length) :
    Calls Try.prog 18 #[.slice (some x) s.length cap] w (ClonePost s w) := by
  obtain ⟨i0, hi, hz0, hz1, hz2⟩ := info_parts infoByte3
  have hx : x.block < w.heap.size := by
    obtain ⟨y, hy, hl⟩ := ha.lt (by intro e; rw [e] at h0; simp at h0)
    cases hy; exact hl
  have hnews : Hid (∀ j u, (bcells s)[j]? = some u → (w.alloc (.cells #[] 5)).cell? (x.add j) = some u) := by
    intro j u hj
    obtain ⟨y, hy, hv⟩ := ha j u hj
    cases hy
    rw [World.cell?_alloc_lt _ _ _ (by unfold Addr.add; split <;> simpa using hx)]
    exact hv
  have hown : (w.alloc (.cells #[] 5)).ownsRow w.heap.size 5 1 (.slice (some ⟨w.heap.size, 0, none⟩) 0 0) 0 [] := World.ownsRow_made w #[] 0 (Nat.le_refl _) (by simp [maxLen]) (by simp)
  have hone := bcells_one s
  have hlen := hid (length_bcells s)
  have he := fun (w : World) (a : Option Addr) (n c : Nat) => Lib.run_eql_slice_nil (P := Try.prog) w 22 5 a n c 0 0 Try.underlying22
  clear ha
  go_enter Try.func18, Try.ntmps18
  go_wp2_with (at_builtin; refine wpList_append_own _ rfl _ _ 22 rfl w.heap.size 5 i0 (.int .u8 0) 1 1 Try.underlying22 hi hz0 hz1 hz2 rfl (by decide) _ _ _ rfl hown x s.length cap (bcells s) rfl ?c1 ?c2 ?c3 ?c4 ?c5 ?c6 ?_)
  case c1 => rw [hlen.out]; omega
  case c2 => exact hnews.out
  case c3 => exact hone
  case c4 => unfold maxLen; omega
  case c5 => omega
  case c6 => simp
  intro v' w1 hown1 hgrow _
  go_wp2
  go_ret
  refine ⟨v', rfl, ?_, ?_⟩
  · simpa using hown1
  · exact ((Below.refl _ _).alloc (Nat.le_refl _) _).grown hgrow (by simp) (fun k hk => by simp [Value.ownBlock] at hk; omega)

/-- What Read returns of a sector that is there. -/
def ReadPost (D : Dk) (i : Nat) (w : World) (e : Ending) (w' : World) : Prop :=
  ∃ v, e = .returned (.tuple #[v, .int .i64 0]) ∧ w'.ownsRow w.heap.size 5 1 v 64 (bcells (D.now.getD i [])) ∧ Below w.heap.size w w'

set_option maxHeartbeats 400000 in
theorem read_ok {w : World} {d : DLoc} {D : Dk} (h : DiskAt w d D) (i : Nat) (hi : i < D.now.length) (hp : D.place i = 0) :
    Calls Try.prog 10 #[.pointer (some ⟨d.b, 0, none⟩), .int .i64 i] w (ReadPost D i w) := by
  have H1 := hid (place_any h i)
  have HP := hid hp
  have h64 : (D.now.getD i []).length = 64 := h.ok.now64 _ (by rw [getD_lt hi]; exact List.getElem_mem hi)
  have e64 := hid h64
  have hr : BytesAt w (some ⟨d.bn, i * 64, none⟩) (D.now.getD i []) := fun j c hc => by
    refine ⟨_, rfl, ?_⟩
    rw [Addr.add_mid]
    refine range_of_rows h.hn (AllLen_secs h.ok.now64) i (by rw [length_secs]; exact hi) j c ?_
    rw [← hc, getD_lt hi]; simp [secs]
  have HR := hid hr
  obtain ⟨c0, c1, c2, c3, c4, cf⟩ := h.cells
  have hi1 : ((i : Nat) : Int) < (D.now.length : Int) := by omega
  have hi0 : (0 : Int) ≤ (i : Int) := by omega
  have HC := hid (fun cap => clone_any (D.now.getD i []) ⟨d.bn, i * 64, none⟩ cap w hr (by omega) (by omega))
  clear hr hp h64 cf c0 c2 c3 c4
  go_enter Try.func10, Try.ntmps10
  go_wp2_with (first | (go_at_call 15; refine H1.out.mono ?_; rintro e w' ⟨rfl, rfl⟩; rw [HP.out]) | (go_at_call 18; have HC2 := HC.out 64; rw [e64.out] at HC2; refine HC2.mono ?_; rintro e w1 ⟨v, rfl, hv1, hv2⟩))
  go_ret2
  exact ⟨v, rfl, by rw [e64.out] at hv1; exact hv1, hv2⟩

set_option maxHeartbeats 400000 in
theorem read_err {w : World} {d : DLoc} {D : Dk} (h : DiskAt w d D) (at_ : Int) (hp : D.place at_ ≠ 0) :
    Calls Try.prog 10 #[.pointer (some ⟨d.b, 0, none⟩), .int .i64 at_] w fun e w' => e = .returned (.tuple #[.slice none 0 0, .int .i64 (D.place at_)]) ∧ w = w' := by
  have H1 := hid (place_any h at_)
  have hb : ((D.place at_) != 0) = true := by simpa using hp
  clear hp
  go_enter Try.func10, Try.ntmps10
  go_wp2_with (go_at_call 15; refine H1.out.mono ?_; rintro e w' ⟨rfl, rfl⟩)
  go_ret2
  exact ⟨rfl, rfl⟩
end Go.Proofs.Ytpgagihkicedeaa
