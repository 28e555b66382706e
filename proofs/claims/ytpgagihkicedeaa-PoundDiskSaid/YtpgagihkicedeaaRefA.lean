/- The disk of the reference (couchantref09.Disk) in memory, and contracts of padded and of its call. -/
import Derived.Test.YtpgagihkicedeaaDiskG
set_option linter.unusedSimpArgs false
set_option linter.unusedVariables false
namespace Go.Proofs.Ytpgagihkicedeaa
open Go Go.RowKit

/-- A string of bytes, as a value. -/
def sv (s : List UInt8) : Value := .string ⟨s.toArray⟩
theorem size_sv (s : List UInt8) : (⟨s.toArray⟩ : ByteArray).size = s.length := by simp [ByteArray.size]

theorem mk_append (a b : List UInt8) : (⟨a.toArray⟩ ++ ⟨b.toArray⟩ : ByteArray) = ⟨(a ++ b).toArray⟩ := by
  apply ByteArray.ext
  rw [ByteArray.data_append]
  simp

set_option maxHeartbeats 400000 in
theorem padded_any (s : List UInt8) (w : World) (hm : s.length ≤ maxLen) :
    Calls Try.prog 26 #[sv s] w fun e w' => e = .returned (sv (pad s)) ∧ w = w' := by
  unfold maxLen at hm
  unfold sv
  go_enter Try.func26, Try.ntmps26
  go_wp2
  go_loop [0] (fun v => ∃ k : Nat, k ≤ 64 - s.length ∧ v = .string ⟨(s ++ List.replicate k 0).toArray⟩) (fun v => 64 - (match v with | .string b => b.size | _ => 0))
  case atStart => exact ⟨0, Nat.zero_le _, by simp⟩
  case round =>
    obtain ⟨k, hk, rfl⟩ := hrel
    go_wp2
    · have hlt : (s.length : Int) + (k : Int) < 64 := by assumption
      have e : (⟨(s ++ List.replicate k 0).toArray⟩ ++ ⟨#[0]⟩ : ByteArray) = ⟨(s ++ List.replicate (k + 1) 0).toArray⟩ := by
        rw [show (#[0] : Array UInt8) = [0].toArray from rfl, mk_append, List.append_assoc, List.replicate_succ']
      rw [e]
      refine ⟨⟨k + 1, by omega, rfl⟩, ?_⟩
      simp [ByteArray.size]; omega
    · have hge : (64 : Int) ≤ (s.length : Int) + (k : Int) := by assumption
      have hkk : k = 64 - s.length := by omega
      go_ret
      exact ⟨by rw [pad, ← hkk]; rfl, rfl⟩

/-! ### The reference's disk -/
structure RLoc where
  b : Nat
  dv : Value
  pv : Value
def RLoc.F (r : RLoc) : Nat → Prop := fun k => k = r.b ∨ r.dv.ownBlock = some k ∨ r.pv.ownBlock = some k
def rrow (p : Nat × List UInt8) : List Value := [.int .i64 (p.1 : Int), sv p.2]
def rrows (l : List (Nat × List UInt8)) : List Value := (l.map rrow).flatten
structure RefMem (w : World) (r : RLoc) (las : List (List UInt8)) (pend : List (Nat × List UInt8)) (fuse : Int) (down : Bool) : Prop where
  hb : w.heap[r.b]? = some (.cells #[r.dv, r.pv, .int .i64 fuse, .bool down] 47 (0, 0))
  hd : w.ownsRow 0 9 1 r.dv las.length (las.map sv)
  hp : w.ownsRow 0 66 2 r.pv pend.length (rrows pend)
  ndb : r.dv.ownBlock ≠ some r.b
  npb : r.pv.ownBlock ≠ some r.b
  ndp : ∀ k, r.dv.ownBlock = some k → r.pv.ownBlock ≠ some k
/-- The disk D of the reference lies at r. -/
structure RefAt (w : World) (r : RLoc) (D : Dk) : Prop where
  ok : D.Ok
  inv : D.now = putAll D.las D.pend
  mem : RefMem w r D.las D.pend D.fuse D.down

theorem ownsRow_stay {w w' : World} {B : Nat} {e : TypeId} {size : Nat} {v : Value} {n : Nat} {xs : List Value} (h : w.ownsRow B e size v n xs) (hs : ∀ k, v.ownBlock = some k → w'.heap[k]? = w.heap[k]?) : w'.ownsRow B e size v n xs := by
  obtain ⟨h1, h2⟩ := h
  refine ⟨h1, ?_⟩
  rcases h2 with h2 | ⟨g, cap, cur, hv, hg, hh, r⟩
  · exact .inl h2
  · exact .inr ⟨g, cap, cur, hv, hg, (hs g (by rw [hv]; rfl)).trans hh, r⟩
theorem RefMem.lt {w : World} {r : RLoc} {las : List (List UInt8)} {pend : List (Nat × List UInt8)} {fuse : Int} {down : Bool} (h : RefMem w r las pend fuse down) : ∀ k, r.F k → k < w.heap.size := fun k hk => by
  rcases hk with rfl | hk | hk
  · exact lt_of_block h.hb
  · exact (h.hd.lt k hk).2
  · exact (h.hp.lt k hk).2
theorem RefMem.stay {w w' : World} {r : RLoc} {las : List (List UInt8)} {pend : List (Nat × List UInt8)} {fuse : Int} {down : Bool} (h : RefMem w r las pend fuse down) (hs : ∀ k, r.F k → w'.heap[k]? = w.heap[k]?) : RefMem w' r las pend fuse down where
  hb := (hs _ (.inl rfl)).trans h.hb
  hd := ownsRow_stay h.hd fun k hk => hs k (.inr (.inl hk))
  hp := ownsRow_stay h.hp fun k hk => hs k (.inr (.inr hk))
  ndb := h.ndb
  npb := h.npb
  ndp := h.ndp
theorem RefAt.stay {w w' : World} {r : RLoc} {D : Dk} (h : RefAt w r D) (hs : ∀ k, r.F k → w'.heap[k]? = w.heap[k]?) : RefAt w' r D := ⟨h.ok, h.inv, h.mem.stay hs⟩
theorem RefAt.chg {w w' : World} {r : RLoc} {D : Dk} {F : Nat → Prop} (h : RefAt w r D) (hc : Chg F w w') (hF : ∀ k, r.F k → ¬ F k) : RefAt w' r D := h.stay fun k hk => hc.block k (h.mem.lt k hk) (hF k hk)
theorem RefMem.cells {w : World} {r : RLoc} {las : List (List UInt8)} {pend : List (Nat × List UInt8)} {fuse : Int} {down : Bool} (h : RefMem w r las pend fuse down) :
    w.cell? ⟨r.b, 0, none⟩ = some r.dv ∧ w.cell? ⟨r.b, 1, none⟩ = some r.pv ∧ w.cell? ⟨r.b, 2, none⟩ = some (.int .i64 fuse) ∧ w.cell? ⟨r.b, 3, none⟩ = some (.bool down) ∧ ∀ j, w.frozen? ⟨r.b, j, none⟩ = false := by
  have hb := h.hb
  refine ⟨?_, ?_, ?_, ?_, fun j => ?_⟩ <;> simp [World.cell?, World.frozen?, hb]
/-- A field of the reference's disk that is no list is written. -/
theorem RefMem.field {w : World} {r : RLoc} {las : List (List UInt8)} {pend : List (Nat × List UInt8)} {fuse fuse' : Int} {down down' : Bool} (h : RefMem w r las pend fuse down) (i : Nat) (v : Value)
    (e : (#[r.dv, r.pv, .int .i64 fuse, .bool down] : Array Value).setIfInBounds i v = #[r.dv, r.pv, .int .i64 fuse', .bool down']) : RefMem (w.setCell ⟨r.b, i, none⟩ v) r las pend fuse' down' ∧ Chg r.F w (w.setCell ⟨r.b, i, none⟩ v) := by
  have hc := Chg.one w r.b i v
  refine ⟨⟨?_, ownsRow_stay h.hd fun k hk => ?_, ownsRow_stay h.hp fun k hk => ?_, h.ndb, h.npb, h.ndp⟩, hc.mono (fun _ _ e => .inl e)⟩
  · rw [heap_setCell_lit h.hb, e]
  · exact hc.block k (h.hd.lt k hk).2 (fun e => h.ndb (by rw [hk, e]))
  · exact hc.block k (h.hp.lt k hk).2 (fun e => h.npb (by rw [hk, e]))

/-- What an operation of the reference's disk does. -/
def RefPost (r : RLoc) (D' : Dk) (v : Value) (w : World) (e : Ending) (w' : World) : Prop :=
  e = .returned v ∧ ∃ r' : RLoc, r'.b = r.b ∧ RefAt w' r' D' ∧ Chg r.F w w' ∧ ∀ k, r'.F k → r.F k ∨ w.heap.size ≤ k
theorem RefPost.same {r : RLoc} {D D' : Dk} {v : Value} {w w' : World} (h : RefAt w' r D) (hc : Chg r.F w w') (hD : D' = D) : RefPost r D' v w (.returned v) w' :=
  ⟨rfl, r, rfl, hD ▸ h, hc, fun k hk => .inl hk⟩

set_option maxHeartbeats 400000 in
theorem rcall_any {w : World} {r : RLoc} {D : Dk} (h : RefAt w r D) :
    Calls Try.prog 27 #[.pointer (some ⟨r.b, 0, none⟩)] w fun e w' => e = .returned (.bool D.power.2) ∧ RefAt w' r D.power.1 ∧ Chg r.F w w' := by
  obtain ⟨c0, c1, c2, c3, cf⟩ := h.mem.cells
  have f2 := cf 2
  have f3 := cf 3
  have ok := h.ok
  have q1 := ok.fuse1
  have q2 := ok.fuse2
  have HK := hid (fun (i : Nat) (v : Value) (D' : Dk) (e1 : D'.las = D.las) (e2 : D'.now = D.now) (e3 : D'.pend = D.pend) (e4 : -1 ≤ D'.fuse) (e5 : D'.fuse ≤ 9223372036854775807)
      (e6 : (#[r.dv, r.pv, .int .i64 D.fuse, .bool D.down] : Array Value).setIfInBounds i v = #[r.dv, r.pv, .int .i64 D'.fuse, .bool D'.down]) =>
    show RefAt (w.setCell ⟨r.b, i, none⟩ v) r D' ∧ Chg r.F w (w.setCell ⟨r.b, i, none⟩ v) from
      ⟨⟨⟨by rw [e1, e2]; exact ok.len, by rw [e2]; exact ok.lo, by rw [e2]; exact ok.hi, by rw [e1]; exact ok.las64, by rw [e2]; exact ok.now64, by rw [e3, e2]; exact ok.pend64, by rw [e3]; exact ok.few, e4, e5⟩,
        by rw [e1, e2, e3]; exact h.inv, by rw [e1, e3]; exact (h.mem.field i v e6).1⟩, (h.mem.field i v e6).2⟩)
  clear cf ok
  by_cases h0 : D.fuse = 0
  · have hP : Hid (D.power = ({ D with down := true }, false)) := by simp [Hid, Dk.power, h0]
    rw [h0] at c2
    have h0' := hid h0
    clear h0
    go_enter Try.func27, Try.ntmps27
    go_wp2
    go_ret
    refine ⟨by rw [hP.out]; rfl, ?_⟩
    rw [hP.out]
    exact HK.out 3 _ _ rfl rfl rfl q1 q2 (by simp)
  · by_cases h1 : 0 < D.fuse
    · have hP : Hid (D.power = ({ D with fuse := D.fuse - 1 }, true)) := by simp [Hid, Dk.power, h0, h1]
      go_enter Try.func27, Try.ntmps27
      go_wp2
      go_ret
      refine ⟨by rw [hP.out]; rfl, ?_⟩
      rw [hP.out]
      exact HK.out 2 _ _ rfl rfl rfl (by simp; omega) (by simp; omega) (by simp)
    · have hP : Hid (D.power = (D, true)) := by simp [Hid, Dk.power, h0, h1]
      go_enter Try.func27, Try.ntmps27
      go_wp2
      go_ret
      refine ⟨by rw [hP.out]; rfl, ?_⟩
      rw [hP.out]
      exact ⟨h, Chg.refl _ _⟩
end Go.Proofs.Ytpgagihkicedeaa
