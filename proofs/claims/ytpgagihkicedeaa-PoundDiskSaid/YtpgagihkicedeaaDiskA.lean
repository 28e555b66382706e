/- The disk of package pound in memory, and the contracts of its methods that only read it: state, place, Down; and power. -/
import Derived.Test.YtpgagihkicedeaaRows
import Derived.Test.YtpgagihkicedeaaLib
import Derived.Deep.QuietTactic
import Derived.BigQuiet
import Derived.BigRegion
import Derived.ChangeAlike
namespace Go.Proofs.Ytpgagihkicedeaa
open Go Go.RowKit

/-- A disk, as plain data. -/
structure Dk where
  las : List (List UInt8)
  now : List (List UInt8)
  pend : List (Nat × List UInt8)
  down : Bool
  fuse : Int

/-- Where a disk lies. -/
structure DLoc where
  b : Nat
  bl : Nat
  bn : Nat
  pv : Value

def DLoc.F (d : DLoc) : Nat → Prop := fun k => k = d.b ∨ k = d.bl ∨ k = d.bn ∨ d.pv.ownBlock = some k

def secs (l : List (List UInt8)) : List (List Value) := l.map bcells
def prow (p : Nat × List UInt8) : List Value := .int .i64 (p.1 : Int) :: bcells p.2
def prows (l : List (Nat × List UInt8)) : List (List Value) := l.map prow
def dcells (d : DLoc) (n : Nat) (down : Bool) (fuse : Int) : Array Value := #[.slice (some ⟨d.bl, 0, none⟩) n n, .slice (some ⟨d.bn, 0, none⟩) n n, d.pv, .bool down, .int .i64 fuse]

/-- A well-formed disk. -/
structure Dk.Ok (D : Dk) : Prop where
  len : D.las.length = D.now.length
  lo : 64 ≤ D.now.length
  hi : D.now.length ≤ 65536
  las64 : ∀ s ∈ D.las, s.length = 64
  now64 : ∀ s ∈ D.now, s.length = 64
  pend64 : ∀ p ∈ D.pend, p.1 < D.now.length ∧ p.2.length = 64
  few : D.pend.length ≤ 1000000000
  fuse1 : -1 ≤ D.fuse
  fuse2 : D.fuse ≤ 9223372036854775807

/-- The disk D lies at d. -/
structure DiskAt (w : World) (d : DLoc) (D : Dk) : Prop where
  ok : D.Ok
  hb : w.heap[d.b]? = some (.cells (dcells d D.now.length D.down D.fuse) 52 (0, 0))
  hl : w.heap[d.bl]? = some (.cells (secs D.las).flatten.toArray 55 (0, 0))
  hn : w.heap[d.bn]? = some (.cells (secs D.now).flatten.toArray 55 (0, 0))
  hp : w.ownsRow 0 57 65 d.pv D.pend.length (prows D.pend).flatten
  nbl : d.b ≠ d.bl
  nbn : d.b ≠ d.bn
  nln : d.bl ≠ d.bn
  npb : d.pv.ownBlock ≠ some d.b
  npl : d.pv.ownBlock ≠ some d.bl
  npn : d.pv.ownBlock ≠ some d.bn

theorem AllLen_secs {l : List (List UInt8)} (h : ∀ s ∈ l, s.length = 64) : AllLen 64 (secs l) := fun r hr => by
  obtain ⟨s, hs, rfl⟩ := List.mem_map.1 hr; rw [length_bcells, h s hs]
theorem AllLen_prows {l : List (Nat × List UInt8)} (h : ∀ p ∈ l, p.2.length = 64) : AllLen 65 (prows l) := fun r hr => by
  obtain ⟨s, hs, rfl⟩ := List.mem_map.1 hr; simp [prow, length_bcells, h s hs]
theorem length_secs (l : List (List UInt8)) : (secs l).length = l.length := by simp [secs]
theorem length_prows (l : List (Nat × List UInt8)) : (prows l).length = l.length := by simp [prows]

theorem DiskAt.lt {w : World} {d : DLoc} {D : Dk} (h : DiskAt w d D) : ∀ k, d.F k → k < w.heap.size := fun k hk => by
  rcases hk with rfl | rfl | rfl | hk
  · exact lt_of_block h.hb
  · exact lt_of_block h.hl
  · exact lt_of_block h.hn
  · exact (h.hp.lt k hk).2

/-- A disk stays where its blocks stay. -/
theorem DiskAt.stay {w w' : World} {d : DLoc} {D : Dk} (h : DiskAt w d D) (hs : ∀ k, d.F k → w'.heap[k]? = w.heap[k]?) : DiskAt w' d D where
  ok := h.ok
  hb := (hs _ (.inl rfl)).trans h.hb
  hl := (hs _ (.inr (.inl rfl))).trans h.hl
  hn := (hs _ (.inr (.inr (.inl rfl)))).trans h.hn
  hp := by
    obtain ⟨h1, h2⟩ := h.hp
    refine ⟨h1, ?_⟩
    rcases h2 with h2 | ⟨g, cap, cur, hv, hg, hh, r⟩
    · exact .inl h2
    · exact .inr ⟨g, cap, cur, hv, hg, (hs g (.inr (.inr (.inr (by rw [hv]; rfl))))).trans hh, r⟩
  nbl := h.nbl
  nbn := h.nbn
  nln := h.nln
  npb := h.npb
  npl := h.npl
  npn := h.npn

theorem DiskAt.chg {w w' : World} {d : DLoc} {D : Dk} {F : Nat → Prop} (h : DiskAt w d D) (hc : Chg F w w') (hF : ∀ k, d.F k → ¬ F k) : DiskAt w' d D :=
  h.stay fun k hk => hc.block k (h.lt k hk) (hF k hk)
theorem DiskAt.drew {w : World} {d : DLoc} {D : Dk} (h : DiskAt w d D) : DiskAt w.drew d D := h.stay fun _ _ => rfl

theorem DiskAt.cells {w : World} {d : DLoc} {D : Dk} (h : DiskAt w d D) :
    w.cell? ⟨d.b, 0, none⟩ = some (.slice (some ⟨d.bl, 0, none⟩) D.now.length D.now.length) ∧ w.cell? ⟨d.b, 1, none⟩ = some (.slice (some ⟨d.bn, 0, none⟩) D.now.length D.now.length) ∧
    w.cell? ⟨d.b, 2, none⟩ = some d.pv ∧ w.cell? ⟨d.b, 3, none⟩ = some (.bool D.down) ∧ w.cell? ⟨d.b, 4, none⟩ = some (.int .i64 D.fuse) ∧ ∀ j, w.frozen? ⟨d.b, j, none⟩ = false := by
  have hb := h.hb
  unfold dcells at hb
  refine ⟨?_, ?_, ?_, ?_, ?_, fun j => ?_⟩ <;> simp [World.cell?, World.frozen?, hb]

set_option maxHeartbeats 400000 in
theorem state_any {w : World} {d : DLoc} {D : Dk} (h : DiskAt w d D) :
    Calls Try.prog 17 #[.pointer (some ⟨d.b, 0, none⟩)] w fun e w' => e = .returned (.int .i64 (if D.down then 90 else 0)) ∧ w = w' := by
  obtain ⟨c0, c1, c2, c3, c4, _⟩ := h.cells
  cases hd : D.down
  all_goals
    rw [hd] at c3
    clear hd
    go_enter Try.func17, Try.ntmps17
    go_wp2
    go_ret
    exact ⟨rfl, rfl⟩

set_option maxHeartbeats 400000 in
theorem down_any {w : World} {d : DLoc} {D : Dk} (h : DiskAt w d D) :
    Calls Try.prog 11 #[.pointer (some ⟨d.b, 0, none⟩)] w fun e w' => e = .returned (.bool D.down) ∧ w = w' := by
  obtain ⟨c0, c1, c2, c3, c4, _⟩ := h.cells
  cases hd : D.down
  all_goals
    rw [hd] at c3
    clear hd
    go_enter Try.func11, Try.ntmps11
    go_wp2
    go_ret
    exact ⟨rfl, rfl⟩

/-- The error of a place. -/
def Dk.place (D : Dk) (at_ : Int) : Int := if D.down then 90 else if at_ < 0 ∨ (D.now.length : Int) ≤ at_ then 1 else 0

set_option maxHeartbeats 400000 in
theorem place_any {w : World} {d : DLoc} {D : Dk} (h : DiskAt w d D) (at_ : Int) :
    Calls Try.prog 15 #[.pointer (some ⟨d.b, 0, none⟩), .int .i64 at_] w fun e w' => e = .returned (.int .i64 (D.place at_)) ∧ w = w' := by
  obtain ⟨c0, c1, c2, c3, c4, _⟩ := h.cells
  have hs := state_any h
  cases hd : D.down
  · have hD : Hid (D.place at_ = if at_ < 0 ∨ (D.now.length : Int) ≤ at_ then 1 else 0) := by simp [Hid, Dk.place, hd]
    rw [hd] at hs c3
    simp only [Bool.false_eq_true, ↓reduceIte] at hs
    clear hd
    have hS := hid hs
    clear hs
    by_cases h1 : at_ < 0
    · go_enter Try.func15, Try.ntmps15
      go_wp2_with (go_at_call 17; refine hS.out.mono ?_; rintro e w' ⟨rfl, rfl⟩)
      go_ret
      exact ⟨by rw [hD.out, if_pos (.inl h1)]; rfl, rfl⟩
    · by_cases h2 : (D.now.length : Int) ≤ at_
      · go_enter Try.func15, Try.ntmps15
        go_wp2_with (go_at_call 17; refine hS.out.mono ?_; rintro e w' ⟨rfl, rfl⟩)
        go_ret
        exact ⟨by rw [hD.out, if_pos (.inr h2)]; rfl, rfl⟩
      · go_enter Try.func15, Try.ntmps15
        go_wp2_with (go_at_call 17; refine hS.out.mono ?_; rintro e w' ⟨rfl, rfl⟩)
        go_ret
        exact ⟨by rw [hD.out, if_neg (by omega)]; rfl, rfl⟩
  · have hD : Hid (D.place at_ = 90) := by simp [Hid, Dk.place, hd]
    rw [hd] at hs c3
    simp only [↓reduceIte] at hs
    clear hd
    have hS := hid hs
    clear hs
    go_enter Try.func15, Try.ntmps15
    go_wp2_with (go_at_call 17; refine hS.out.mono ?_; rintro e w' ⟨rfl, rfl⟩)
    go_ret
    exact ⟨by rw [hD.out]; rfl, rfl⟩

/-- One call more of Write or Flush: it fails where nothing is left. -/
def Dk.power (D : Dk) : Dk × Bool := if D.fuse = 0 then ({ D with down := true }, false) else if 0 < D.fuse then ({ D with fuse := D.fuse - 1 }, true) else (D, true)

set_option maxHeartbeats 400000 in
theorem power_any {w : World} {d : DLoc} {D : Dk} (h : DiskAt w d D) :
    Calls Try.prog 16 #[.pointer (some ⟨d.b, 0, none⟩)] w fun e w' => e = .returned (.bool D.power.2) ∧ DiskAt w' d D.power.1 ∧ Chg d.F w w' := by
  obtain ⟨c0, c1, c2, c3, c4, cf⟩ := h.cells
  have hb := h.hb
  have f3 := cf 3
  have f4 := cf 4
  clear cf
  have hok := h.ok
  have q1 := hok.fuse1
  have q2 := hok.fuse2
  have key : ∀ (i : Nat) (v : Value) (D' : Dk), D'.las = D.las → D'.now = D.now → D'.pend = D.pend → -1 ≤ D'.fuse → D'.fuse ≤ 9223372036854775807 →
      (dcells d D.now.length D.down D.fuse).setIfInBounds i v = dcells d D.now.length D'.down D'.fuse → DiskAt (w.setCell ⟨d.b, i, none⟩ v) d D' ∧ Chg d.F w (w.setCell ⟨d.b, i, none⟩ v) := by
    intro i v D' e1 e2 e3 e4 e5 e6
    have hc : Chg (fun k => k = d.b) w (w.setCell ⟨d.b, i, none⟩ v) := Chg.one _ _ _ _
    have other : ∀ k o, w.heap[k]? = some o → d.b ≠ k → (w.setCell ⟨d.b, i, none⟩ v).heap[k]? = some o := fun k o hk hne => (hc.block k (lt_of_block hk) (fun e => hne e.symm)).trans hk
    refine ⟨⟨⟨by rw [e1, e2]; exact hok.len, by rw [e2]; exact hok.lo, by rw [e2]; exact hok.hi, by rw [e1]; exact hok.las64, by rw [e2]; exact hok.now64, by rw [e3, e2]; exact hok.pend64, by rw [e3]; exact hok.few, e4, e5⟩, ?_, ?_, ?_, ?_, h.nbl, h.nbn, h.nln, h.npb, h.npl, h.npn⟩, hc.mono (fun _ _ e => .inl e)⟩
    · rw [heap_setCell_lit hb, e2, e6]
    · rw [e1]; exact other _ _ h.hl h.nbl
    · rw [e2]; exact other _ _ h.hn h.nbn
    · rw [e3]
      exact h.hp.kept (row := some d.b) ⟨rfl, rfl, rfl, by simp [World.setCell], fun k hk hne => Below.heap_setCell _ _ _ _ (fun e => hne (by rw [e]))⟩ (.inr h.npb)
  have hK := hid key
  clear key
  clear hb hok
  by_cases h0 : D.fuse = 0
  · have hP : Hid (D.power = ({ D with down := true }, false)) := by simp [Hid, Dk.power, h0]
    rw [h0] at c4
    have h0' := hid h0
    clear h0
    go_enter Try.func16, Try.ntmps16
    go_wp2
    go_ret
    refine ⟨by rw [hP.out]; rfl, ?_⟩
    rw [hP.out]
    exact hK.out 3 _ _ rfl rfl rfl q1 q2 (by simp [dcells])
  · by_cases h1 : 0 < D.fuse
    · have hP : Hid (D.power = ({ D with fuse := D.fuse - 1 }, true)) := by simp [Hid, Dk.power, h0, h1]
      go_enter Try.func16, Try.ntmps16
      go_wp2
      go_ret
      refine ⟨by rw [hP.out]; rfl, ?_⟩
      rw [hP.out]
      exact hK.out 4 _ _ rfl rfl rfl (by simp; omega) (by simp; omega) (by simp [dcells])
    · have hP : Hid (D.power = (D, true)) := by simp [Hid, Dk.power, h0, h1]
      go_enter Try.func16, Try.ntmps16
      go_wp2
      go_ret
      refine ⟨by rw [hP.out]; rfl, ?_⟩
      rw [hP.out]
      exact ⟨h, Chg.refl _ _⟩
end Go.Proofs.Ytpgagihkicedeaa
