/- The plain law of a torn write (no program in sight but the disk's data), and the walk of the examples about disks. -/
import Derived.Test.YtpgagihkicedeaaDiskG
import Derived.Lib.SlBytesConst
set_option linter.unusedSimpArgs false
set_option linter.unusedVariables false
namespace Go.Proofs.Ytpgagihkicedeaa
open Go Go.RowKit

theorem write_idle {D : Dk} (hd : D.down = false) (hf : D.fuse = -1) (i : Nat) (hi : i < D.now.length) (s : List UInt8) (hs : s.length ≤ 64) : D.write i s = (D.put i s, 0) := by
  have hp : D.place i = 0 := by unfold Dk.place; rw [hd]; simp; omega
  have hq : D.power = (D, true) := by simp [Dk.power, hf]
  have h64 : ¬ 64 < s.length := by omega
  simp [Dk.write, hp, hq, h64]
theorem flush_idle {D : Dk} (hd : D.down = false) (hf : D.fuse = -1) : D.flush = ({ D with las := putAll D.las D.pend, pend := [] }, 0) := by
  have hq : D.power = (D, true) := by simp [Dk.power, hf]
  simp [Dk.flush, hd, hq]

/-- The four disks of a torn write. -/
def torn1 (i : Nat) (old : List UInt8) : Dk := (Dk.new 64).put i old
def torn2 (i : Nat) (old : List UInt8) : Dk := { torn1 i old with las := putAll (torn1 i old).las (torn1 i old).pend, pend := [] }
def torn3 (i : Nat) (old new : List UInt8) : Dk := (torn2 i old).put i new
def torn4 (i : Nat) (old new : List UInt8) (k : Int) : Dk := (torn3 i old new).crash [k]
theorem torn_w1 (i : Nat) (hi : i < 64) (old : List UInt8) (ho : old.length ≤ 64) : (Dk.new 64).write i old = (torn1 i old, 0) := write_idle rfl rfl i (by simpa [Dk.new] using hi) old ho
theorem torn_f (i : Nat) (old : List UInt8) : (torn1 i old).flush = (torn2 i old, 0) := flush_idle rfl rfl
theorem torn_w2 (i : Nat) (hi : i < 64) (old new : List UInt8) (hn : new.length ≤ 64) : (torn2 i old).write i new = (torn3 i old new, 0) :=
  write_idle rfl rfl i (by simpa [torn2, torn1, Dk.put, Dk.new] using hi) new hn
theorem torn_place (i : Nat) (hi : i < 64) (old new : List UInt8) (k : Int) : (torn4 i old new k).place i = 0 := by
  have : (torn4 i old new k).now.length = 64 := by simp [torn4, Dk.crash, length_tearAll, torn3, torn2, torn1, Dk.put, Dk.new, length_putAll]
  unfold Dk.place
  rw [this]
  simp [torn4, Dk.crash]; omega
theorem torn_len (i : Nat) (old new : List UInt8) (k : Int) : (torn4 i old new k).now.length = 64 := by
  simp [torn4, Dk.crash, length_tearAll, torn3, torn2, torn1, Dk.put, Dk.new, length_putAll]
theorem torn_read (i : Nat) (hi : i < 64) (old new : List UInt8) (k : Int) : (torn4 i old new k).now.getD i [] = tear (kept [k] 0) (pad new) (pad old) := by
  have h1 : (torn3 i old new).pend = [(i, pad new)] := rfl
  have h2 : (torn3 i old new).las = (List.replicate 64 zsec).set i (pad old) := rfl
  unfold torn4 Dk.crash
  simp only [h1, h2, tearAll]
  have hl : i < ((List.replicate 64 zsec).set i (pad old)).length := by simpa using hi
  rw [getD_lt (by simpa using hi), List.getElem_set_self, getD_lt hl, List.getElem_set_self]

theorem pad_get (s : List UInt8) (j : Nat) (hj : j < 64) : (pad s)[j]? = some (s.getD j 0) := by
  unfold pad
  by_cases h : j < s.length
  · rw [List.getElem?_append_left h, getD_lt h, List.getElem?_eq_getElem h]
  · rw [List.getElem?_append_right (by omega), List.getElem?_replicate, if_pos (by omega)]
    simp [List.getD, List.getElem?_eq_none (by omega : s.length ≤ j)]
/-- THE LAW: the byte j of the sector. -/
def want (old new : List UInt8) (k : Int) (j : Nat) : UInt8 := if (j : Int) < k then new.getD j 0 else old.getD j 0
theorem torn_byte (old new : List UInt8) (ho : old.length ≤ 64) (hn : new.length ≤ 64) (k : Int) (j : Nat) (hj : j < 64) :
    (tear (kept [k] 0) (pad new) (pad old))[j]? = some (want old new k j) := by
  have hk : kept [k] 0 = (max 0 (min k 64)).toNat := by simp [kept]
  unfold tear want
  have hlen : ((pad new).take (kept [k] 0)).length = kept [k] 0 := by rw [List.length_take, length_pad hn]; have := kept_le [k] 0; omega
  by_cases h : (j : Int) < k
  · rw [if_pos h, List.getElem?_append_left (by rw [hlen, hk]; omega), List.getElem?_take, if_pos (by rw [hk]; omega), pad_get _ _ hj]
  · rw [if_neg h, List.getElem?_append_right (by rw [hlen, hk]; omega), List.getElem?_drop, hlen, show kept [k] 0 + (j - kept [k] 0) = j by rw [hk]; omega, pad_get _ _ hj]
theorem torn_length (old new : List UInt8) (ho : old.length ≤ 64) (hn : new.length ≤ 64) (k : Int) : (tear (kept [k] 0) (pad new) (pad old)).length = 64 := length_tear (length_pad hn) (length_pad ho) (kept_le _ _)

theorem DiskAt.alloc {w : World} {d : DLoc} {D : Dk} (h : DiskAt w d D) (o : Obj) : DiskAt (w.alloc o) d D := h.stay fun k hk => Below.heap_alloc _ _ _ (h.lt k hk)
/-- Bytes that stand in a block of their own. -/
theorem BytesAt.lit (w : World) (s : List UInt8) (C : Array Value) (hC : C = (bcells s).toArray) (t : TypeId) (f : Nat × Nat) : BytesAt (w.alloc (.cells C t f)) (some ⟨w.heap.size, 0, none⟩) s := fun j c hj => by
  subst hC
  refine ⟨_, rfl, ?_⟩
  rw [Addr.add_mid, Nat.zero_add, cell_of_list (heap_alloc_new w _)]
  exact hj
/-- The blocks of a disk lie from B on. -/
def From (B : Nat) (d : DLoc) : Prop := ∀ k, d.F k → B ≤ k

/-- A write that succeeds, for a caller. -/
theorem torn_write {w : World} {b bl bn : Nat} {pv : Value} {D D' : Dk} (h : DiskAt w ⟨b, bl, bn, pv⟩ D) (at_ : Int) (s : List UInt8) (x : Addr) (n cap : Nat) (hn : n = s.length) (ha : BytesAt w (some x) s) (hm : s.length ≤ 64) (hx : ¬ (DLoc.mk b bl bn pv).F x.block)
    (hf : D.pend.length < 1000000000) (hw : D.write at_ s = (D', 0)) :
    Calls Try.prog 7 #[.pointer (some ⟨b, 0, none⟩), .int .i64 at_, .slice (some x) n cap] w (DiskPost ⟨b, bl, bn, pv⟩ D' (.int .i64 0) w) := by
  subst hn
  have := write_any h at_ s (some x) cap ha (by unfold maxLen; omega) (fun _ y hy => by cases hy; exact hx) hf
  rw [hw] at this
  exact this

theorem torn_write_any {w : World} {b bl bn : Nat} {pv : Value} {D D' : Dk} (h : DiskAt w ⟨b, bl, bn, pv⟩ D) (at_ : Int) (s : List UInt8) (a : Option Addr) (cap : Nat) (ha : BytesAt w a s) (hm : s.length ≤ 64) (hx : s ≠ [] → ∀ x, a = some x → ¬ (DLoc.mk b bl bn pv).F x.block)
    (hf : D.pend.length < 1000000000) (hw : D.write at_ s = (D', 0)) :
    Calls Try.prog 7 #[.pointer (some ⟨b, 0, none⟩), .int .i64 at_, .slice a s.length cap] w (DiskPost ⟨b, bl, bn, pv⟩ D' (.int .i64 0) w) := by
  have := write_any h at_ s a cap ha (by unfold maxLen; omega) hx hf
  rw [hw] at this
  exact this
theorem torn_flush {w : World} {b bl bn : Nat} {pv : Value} {D D' : Dk} (h : DiskAt w ⟨b, bl, bn, pv⟩ D) (hw : D.flush = (D', 0)) :
    Calls Try.prog 8 #[.pointer (some ⟨b, 0, none⟩)] w (DiskPost ⟨b, bl, bn, pv⟩ D' (.int .i64 0) w) := by
  have := flush_any h
  rw [hw] at this
  exact this
theorem torn_crash {w : World} {b bl bn : Nat} {pv : Value} {D : Dk} (h : DiskAt w ⟨b, bl, bn, pv⟩ D) (k : Int) (x : Addr) (cap : Nat) (hx : w.cell? x = some (.int .i64 k)) (hk : -9223372036854775808 ≤ k ∧ k ≤ 9223372036854775807) (hF : ¬ (DLoc.mk b bl bn pv).F x.block) :
    Calls Try.prog 9 #[.pointer (some ⟨b, 0, none⟩), .slice (some x) 1 cap] w (DiskPost ⟨b, bl, bn, pv⟩ (D.crash [k]) (.tuple #[]) w) :=
  crash_any h [k] (some x) cap (fun j n hj => ⟨x, rfl, by
    cases j with
    | zero => simp at hj; subst hj; simpa [Addr.add] using hx
    | succ j => simp at hj⟩) (by simp [maxLen]) (fun _ y hy => by cases hy; exact hF) (fun n hn => by simp at hn; subst hn; exact hk)
/-- What may have changed, for a caller that holds all blocks of the disk. -/
theorem DiskPost.parts {d : DLoc} {D' : Dk} {v : Value} {w w' : World} {e : Ending} (h : DiskPost d D' v w e w') (B : Nat) (hB : ∀ k, d.F k → B ≤ k) (hs : B ≤ w.heap.size) :
    e = .returned v ∧ ∃ bl bn pv, DiskAt w' ⟨d.b, bl, bn, pv⟩ D' ∧ Hid (∀ k, (DLoc.mk d.b bl bn pv).F k → B ≤ k) ∧ Below B w w' := by
  obtain ⟨h1, ⟨b, bl, bn, pv⟩, hb, hd, hc, hf⟩ := h
  obtain rfl : b = d.b := hb
  exact ⟨h1, bl, bn, pv, hd, fun k hk => (hf k hk).elim (hB k) (fun h => Nat.le_trans hs h), hc.belowB hB hs⟩

/-- What Read has returned of a torn sector. -/
theorem torn_form {w : World} {B : Nat} {v : Value} {s : List UInt8} {old new : List UInt8} {k : Int} (h : w.ownsRow B 5 1 v 64 (bcells s)) (hs : s = tear (kept [k] 0) (pad new) (pad old)) (ho : old.length ≤ 64) (hn : new.length ≤ 64) :
    ∃ g cap, v = .slice (some ⟨g, 0, none⟩) 64 cap ∧ 64 ≤ cap ∧ cap ≤ maxLen ∧ ∀ j, j < 64 → w.cell? ⟨g, j, none⟩ = some (bcell (want old new k j)) := by
  rcases h.2 with ⟨_, h0⟩ | ⟨g, cap, cur, hv, _, hg, h4, h5, h6, h7⟩
  · omega
  · refine ⟨g, cap, hv, h4, h5, fun j hj => ?_⟩
    have hg' : w.heap[g]? = some (.cells cur.toList.toArray 5 (0, 0)) := by rw [Array.toArray_toList]; exact hg
    rw [cell_of_list hg']
    have : (cur.toList.take (64 * 1))[j]? = (bcells s)[j]? := by rw [h7]
    rw [List.getElem?_take, if_pos (by omega)] at this
    rw [this, bcells_get, hs, torn_byte old new ho hn k j hj]; rfl

set_option maxHeartbeats 1000000 in
theorem disks_any (w : World) : Calls Try.prog 5 #[] w fun e w' => e = .returned (.bool true) ∧ Below w.heap.size w w' := by
  have N1 := fun w => newDisk_no 63 w (by omega)
  have N2 := fun w => newDisk_yes 64 w (by omega) (by omega)
  have kc := fun (w : World) (C : Array Value) (n c : Nat) => Lib.run_convert_bytes_const (P := Try.prog) w 22 5 C n c Try.underlying22 Try.underlying5
  go_enter Try.func5, Try.ntmps5
  go_wp2_with fail
  refine (N1 _).mono ?_
  rintro e w' ⟨rfl, rfl⟩
  go_wp2_with fail
  refine (N2 _).mono ?_
  rintro e w1 ⟨⟨b, bl, bn, pv⟩, rfl, hd1, hb1, hf1⟩
  have F1 := hid hf1
  clear hf1
  have s1 := hb1.size
  go_wp2_with fail
  refine (torn_write (hd1.alloc _) 0 [97, 98, 99] ⟨w1.heap.size, 0, none⟩ 3 3 rfl (BytesAt.lit w1 _ _ rfl _ _) (by simp) (fun hk => by have := hd1.lt _ hk; simp at this) (by simp [Dk.new]) (torn_w1 0 (by omega) [97, 98, 99] (by simp))).mono ?_
  intro e w2 hp2
  obtain ⟨rfl, bl2, bn2, pv2, hd2, F2, hb2⟩ := hp2.parts w.heap.size F1.out (by simp; omega)
  clear hp2
  have s2 := hb2.size
  simp only [World.size_alloc] at s2
  go_wp2_with fail
  refine (torn_flush hd2 (torn_f 0 [97, 98, 99])).mono ?_
  intro e w3 hp3
  obtain ⟨rfl, bl3, bn3, pv3, hd3, F3, hb3⟩ := hp3.parts w.heap.size F2.out (by omega)
  clear hp3
  have s3 := hb3.size
  go_wp2_with fail
  refine (torn_write (hd3.alloc _) 0 [120, 121, 122] ⟨w3.heap.size, 0, none⟩ 3 3 rfl (BytesAt.lit w3 _ _ rfl _ _) (by simp) (fun hk => by have := hd3.lt _ hk; simp at this) (by simp [torn2, torn1]) (torn_w2 0 (by omega) [97, 98, 99] [120, 121, 122] (by simp))).mono ?_
  intro e w4 hp4
  obtain ⟨rfl, bl4, bn4, pv4, hd4, F4, hb4⟩ := hp4.parts w.heap.size F3.out (by simp; omega)
  clear hp4
  have s4 := hb4.size
  simp only [World.size_alloc] at s4
  go_wp2_with fail
  refine (torn_crash (hd4.alloc _) 1 ⟨w4.heap.size, 0, none⟩ 1 (by simp) (by omega) (fun hk => by have := hd4.lt _ hk; simp at this)).mono ?_
  intro e w5 hp5
  obtain ⟨rfl, bl5, bn5, pv5, hd5, F5, hb5⟩ := hp5.parts w.heap.size F4.out (by simp; omega)
  clear hp5
  have s5 := hb5.size
  simp only [World.size_alloc] at s5
  go_wp2_with fail
  refine (read_ok hd5 0 (by show 0 < (torn4 0 [97, 98, 99] [120, 121, 122] 1).now.length; rw [torn_len]; omega) (torn_place 0 (by omega) _ _ 1)).mono ?_
  rintro e w6 ⟨v, rfl, hown, hb6⟩
  obtain ⟨g, cap, rfl, hcap, hcap2, hcell⟩ := torn_form hown (torn_read 0 (by omega) _ _ 1) (by simp) (by simp)
  have x0 : w6.cell? ⟨g, 0, none⟩ = some (.int .u8 120) := hcell 0 (by omega)
  have x1 : w6.cell? ⟨g, 1, none⟩ = some (.int .u8 98) := hcell 1 (by omega)
  have x2 : w6.cell? ⟨g, 2, none⟩ = some (.int .u8 99) := hcell 2 (by omega)
  have x3 : w6.cell? ⟨g, 3, none⟩ = some (.int .u8 0) := hcell 3 (by omega)
  have hc4 : (4 : Int) ≤ (cap : Int) := by omega
  have kb : (convert 22 9 (.slice (some ⟨g, 0, none⟩) 4 cap)).run Try.prog w6 = .ok (.string ⟨#[120, 98, 99, 0]⟩) w6 :=
    run_convert_bytes_back w6 22 9 5 ⟨g, 0, none⟩ cap [120, 98, 99, 0] Try.underlying22 Try.underlying5 Try.underlying9 (fun j hj => by
      have h4 : j < 4 := hj
      rw [Addr.add_mid, Nat.zero_add, hcell j (by omega)]
      match j, h4 with
      | 0, _ => rfl
      | 1, _ => rfl
      | 2, _ => rfl
      | 3, _ => rfl)
  clear hcell
  go_wp2_with fail
  go_ret
  exact ⟨rfl, (((((((hb1.alloc s1 _).trans hb2).trans hb3).alloc (by omega) _).trans hb4).alloc (by omega) _).trans hb5).trans (hb6.mono (by omega))⟩
end Go.Proofs.Ytpgagihkicedeaa
