/- The contract of (*Disk).Write of package pound. -/
import Derived.Test.YtpgagihkicedeaaDiskL
set_option linter.unusedSimpArgs false
set_option linter.unusedVariables false
namespace Go.Proofs.Ytpgagihkicedeaa
open Go Go.RowKit

/-- A sector: bytes, and zeros behind them. -/
def pad (s : List UInt8) : List UInt8 := s ++ List.replicate (64 - s.length) 0
theorem length_pad {s : List UInt8} (h : s.length ≤ 64) : (pad s).length = 64 := by simp [pad]; omega
def Dk.put (D : Dk) (i : Nat) (s : List UInt8) : Dk := { D with now := D.now.set i (pad s), pend := D.pend ++ [(i, pad s)] }
def Dk.write (D : Dk) (at_ : Int) (s : List UInt8) : Dk × Int :=
  if D.place at_ ≠ 0 then (D, D.place at_) else if 64 < s.length then (D, 2) else if D.power.2 = false then (D.power.1, 90) else (D.power.1.put at_.toNat s, 0)

/-- What an operation of a disk does: its result, the disk behind it, what may have changed. -/
def DiskPost (d : DLoc) (D' : Dk) (v : Value) (w : World) (e : Ending) (w' : World) : Prop :=
  e = .returned v ∧ ∃ d' : DLoc, d'.b = d.b ∧ DiskAt w' d' D' ∧ Chg d.F w w' ∧ ∀ k, d'.F k → d.F k ∨ w.heap.size ≤ k

theorem splice_zero64 (s : List UInt8) : splice zero64.toList 0 (bcells s) = bcells (pad s) := by
  unfold splice zero64 pad
  rw [bcells_append, length_bcells]
  simp only [List.take_zero, List.nil_append, Nat.zero_add, Array.toList_replicate, List.drop_replicate]
  congr 1
  simp only [bcells, List.map_replicate]
  rfl

attribute [local go_sem ↓] run_exec_build_change run_exec_buildSlice_change ld_sector

/-- The disk behind a write, at the world that the walk comes to. -/
theorem DiskAt.written {w : World} {d : DLoc} {D : Dk} (h : DiskAt w d D) {i : Nat} {s : List UInt8} (hi : i < D.now.length) (hs : s.length ≤ 64) (hf : D.pend.length < 1000000000)
    {w4 : World} {g cap : Nat} (hb4 : w4.heap[d.b]? = w.heap[d.b]?) (hl4 : w4.heap[d.bl]? = w.heap[d.bl]?) (hn4 : w4.heap[d.bn]? = some (.cells ((secs D.now).set i (bcells (pad s))).flatten.toArray 55 (0, 0)))
    (hown : w4.ownsRow 0 57 65 (.slice (some ⟨g, 0, none⟩) (D.pend.length + 1) cap) (D.pend.length + 1) ((prows D.pend).flatten ++ prow (i, pad s)))
    (hg : d.pv.ownBlock = some g ∨ w.heap.size ≤ g) :
    DiskAt (w4.setCell ⟨d.b, 2, none⟩ (.slice (some ⟨g, 0, none⟩) (D.pend.length + 1) cap)) ⟨d.b, d.bl, d.bn, .slice (some ⟨g, 0, none⟩) (D.pend.length + 1) cap⟩ (D.put i s) := by
  have ok := h.ok
  have lb := lt_of_block h.hb
  have ll := lt_of_block h.hl
  have ln := lt_of_block h.hn
  have gb : g ≠ d.b := fun e => by subst e; rcases hg with hg | hg; exact h.npb hg; omega
  have gl : g ≠ d.bl := fun e => by subst e; rcases hg with hg | hg; exact h.npl hg; omega
  have gn : g ≠ d.bn := fun e => by subst e; rcases hg with hg | hg; exact h.npn hg; omega
  have c1 := Chg.one w4 d.b 2 (.slice (some ⟨g, 0, none⟩) (D.pend.length + 1) cap)
  have sz : w4.heap[d.b]? = some (.cells (dcells d D.now.length D.down D.fuse) 52 (0, 0)) := hb4.trans h.hb
  refine ⟨⟨?_, ?_, ?_, ok.las64, ?_, ?_, ?_, ok.fuse1, ok.fuse2⟩, ?_, ?_, ?_, ?_, h.nbl, h.nbn, h.nln, ?_, ?_, ?_⟩
  · simpa [Dk.put] using ok.len
  · simpa [Dk.put] using ok.lo
  · simpa [Dk.put] using ok.hi
  · intro x hx
    rcases List.mem_or_eq_of_mem_set hx with h' | h'
    · exact ok.now64 x h'
    · rw [h', length_pad hs]
  · intro p hp
    rcases List.mem_append.1 hp with h' | h'
    · simpa [Dk.put] using ok.pend64 p h'
    · simp at h'; subst h'; simpa [Dk.put, length_pad hs] using hi
  · simp [Dk.put]; omega
  · rw [heap_setCell_lit sz]; simp [dcells, Dk.put]
  · exact (c1.block _ (lt_of_block (hl4.trans h.hl)) (fun e => h.nbl e.symm)).trans (hl4.trans h.hl)
  · have e : (secs (D.put i s).now) = (secs D.now).set i (bcells (pad s)) := by simp [Dk.put, secs, List.map_set]
    rw [e]; exact (c1.block _ (lt_of_block hn4) (fun e => h.nbn e.symm)).trans hn4
  · have e : (prows (D.put i s).pend).flatten = (prows D.pend).flatten ++ prow (i, pad s) := by simp [Dk.put, prows]
    have e2 : (D.put i s).pend.length = D.pend.length + 1 := by simp [Dk.put]
    rw [e, e2]
    exact hown.kept (row := some d.b) ⟨rfl, rfl, rfl, by simp [World.setCell], fun k hk hne => Below.heap_setCell _ _ _ _ (fun e => hne (by rw [e]))⟩ (.inr (by simp [Value.ownBlock]; exact gb))
  · simp [Value.ownBlock]; exact gb
  · simp [Value.ownBlock]; exact gl
  · simp [Value.ownBlock]; exact gn

theorem DiskAt.write_close {w w1 w2 w3 w4 : World} {d : DLoc} {D1 : Dk} {i : Nat} {s : List UInt8} {ob : Obj} {gg cap4 : Nat} (hc1 : Chg d.F w w1) (hB2 : Below w1.heap.size w1 w2) (hd2 : DiskAt w2 d D1)
    (ch3 : Chg (fun k => k = d.bn) w2 w3) (O3 : ∀ k, k ≠ d.bn → w3.heap[k]? = w2.heap[k]?)
    (hn3 : w3.heap[d.bn]? = some (.cells ((secs D1.now).set i (bcells (pad s))).flatten.toArray 55 (0, 0))) (hgrow : (w3.alloc ob).drew.grownBy w4 d.pv.ownBlock)
    (hat : d.pv.ownBlock = some gg ∨ gg = w3.heap.size + 1) (hown4 : w4.ownsRow 0 57 65 (.slice (some ⟨gg, 0, none⟩) (D1.pend.length + 1) cap4) (D1.pend.length + 1) ((prows D1.pend).flatten ++ prow (i, pad s)))
    (i1 : i < D1.now.length) (hs : s.length ≤ 64) (hf1 : D1.pend.length < 1000000000) :
    DiskPost d (D1.put i s) (.int .i64 0) w (.returned (.int .i64 0)) (w4.setCell ⟨d.b, 2, none⟩ (.slice (some ⟨gg, 0, none⟩) (D1.pend.length + 1) cap4)) := by
  have s12 := hB2.size
  have s23 := ch3.size
  have lt3 : ∀ k, d.F k → k < w3.heap.size := fun k hk => Nat.lt_of_lt_of_le (hd2.lt k hk) s23
  have old : ∀ k, k < w3.heap.size → d.pv.ownBlock ≠ some k → w4.heap[k]? = w3.heap[k]? := fun k hk hne =>
    (hgrow.block k (by show k < (World.alloc w3 ob).heap.size; simp; omega) (Ne.symm hne)).trans (Below.heap_alloc _ _ _ hk)
  have c4 : Chg d.F w3 w4 := ((Chg.refl d.F w3).alloc ob).drew.grown hgrow (fun k hk _ => .inr (.inr (.inr hk)))
  have c2 : Chg d.F w1 w2 := Chg.of_below hB2
  have c3 : Chg d.F w2 w3 := ch3.mono (fun k _ hk => .inr (.inr (.inl hk)))
  have call : Chg d.F w w4 := ((hc1.trans c2 (fun _ _ h => h)).trans c3 (fun _ _ h => h)).trans c4 (fun _ _ h => h)
  refine ⟨rfl, ⟨d.b, d.bl, d.bn, .slice (some ⟨gg, 0, none⟩) (D1.pend.length + 1) cap4⟩, rfl, ?_, call.setCell (p := ⟨d.b, 2, none⟩) (fun _ => .inl rfl) _, ?_⟩
  · refine hd2.written i1 hs hf1 ((old _ (lt3 _ (.inl rfl)) hd2.npb).trans (O3 _ hd2.nbn)) ((old _ (lt3 _ (.inr (.inl rfl))) hd2.npl).trans (O3 _ hd2.nln)) ((old _ (lt3 _ (.inr (.inr (.inl rfl)))) hd2.npn).trans hn3) hown4 ?_
    rcases hat with h | h
    · exact .inl h
    · right; omega
  · intro k hk
    rcases hk with h | h | h | h
    · exact .inl (.inl h)
    · exact .inl (.inr (.inl h))
    · exact .inl (.inr (.inr (.inl h)))
    · simp only [Value.ownBlock, Option.some.injEq] at h
      subst h
      rcases hat with h | h
      · exact .inl (.inr (.inr (.inr h)))
      · right; have := hc1.size; omega

set_option maxHeartbeats 1000000 in
theorem write_ok {w : World} {d : DLoc} {D : Dk} (h : DiskAt w d D) (i : Nat) (hi : i < D.now.length) (s : List UInt8) (a : Option Addr) (cap : Nat) (hs : s.length ≤ 64) (ha : BytesAt w a s) (haF : s ≠ [] → ∀ x, a = some x → ¬ d.F x.block)
    (hpl : D.place i = 0) (hpw : D.power.2 = true) (hf : D.pend.length < 1000000000) :
    Calls Try.prog 7 #[.pointer (some ⟨d.b, 0, none⟩), .int .i64 i, .slice a s.length cap] w (DiskPost d (D.power.1.put i s) (.int .i64 0) w) := by
  have H1 := hid (place_any h i)
  have H2 := hid (power_any h)
  have HP := hid hpl
  have HQ := hid hpw
  clear hpl hpw
  have h3 : ((s.length : Nat) : Int) ≤ 64 := by omega
  go_enter Try.func7, Try.ntmps7
  go_wp2_with (go_at_call 15; refine H1.out.mono ?_; rintro e w' ⟨rfl, rfl⟩; rw [HP.out])
  refine H2.out.mono ?_
  rintro e w1 ⟨rfl, hd1, hc1⟩
  rw [HQ.out]
  have ha1 : BytesAt w1 a s := ha.chg hc1 haF
  have hcp : ∀ (o : Obj), 0 < (bcells s).length → ∃ ad, a = some ad ∧ ∀ j v, (bcells s)[j]? = some v → (w1.alloc o).cell? (ad.add j) = some v := by
    intro o hpos
    rw [length_bcells] at hpos
    have hne : s ≠ [] := fun e => by rw [e] at hpos; simp at hpos
    obtain ⟨x, rfl, hx⟩ := ha1.lt hne
    refine ⟨x, rfl, fun j v hv => ?_⟩
    obtain ⟨y, hy, hv⟩ := ha1 j v hv
    cases hy
    rw [World.cell?_alloc_lt _ _ _ (by unfold Addr.add; split <;> simpa using hx)]
    exact hv
  have HC := hid hcp
  clear hcp
  go_wp2_with (first
    | (with_reducible refine wpList_alloc_agg rfl 55 rfl zero64 64 64 infoSector ?_)
    | (with_reducible refine wpList_copy_splice rfl (.tmp 21) (.tmp 22) 22 22 rfl 5 Try.underlying22 infoByte _ _ 64 64 s.length cap rfl rfl w1.heap.size 0 zero64.toList 55 ?c1 (bcells s) ?c2 ?c3 ?c4 ?c5 w1.heap.size w1 ?c6 ?c7 ?_))
  case c1 => rw [heap_alloc_get, if_pos rfl, Array.toArray_toList]
  case c2 => rw [length_bcells]; exact (Nat.min_eq_left hs).symm
  case c3 => exact fun hpos => (by first | exact ⟨rfl, HC.out _ hpos⟩ | exact HC.out _ hpos)
  case c4 => rw [length_bcells]; simpa [zero64] using hs
  case c5 => exact bcells_one s
  case c6 => exact (Below.refl _ _).alloc (Nat.le_refl _) _
  case c7 => exact Nat.le_refl _
  intro w2 hH hB2
  have hd2 : DiskAt w2 d D.power.1 := hd1.stay fun k hk => hB2.block k (hd1.lt k hk)
  have e1 : D.power.1.now = D.now := by unfold Dk.power; split; rfl; split <;> rfl
  have e2 : D.power.1.pend = D.pend := by unfold Dk.power; split; rfl; split <;> rfl
  have i1 : i < D.power.1.now.length := by rw [e1]; exact hi
  have hi1 : ((i : Nat) : Int) < (D.power.1.now.length : Int) := by omega
  have hi0 : (0 : Int) ≤ (i : Int) := by omega
  obtain ⟨c0, c1, c2, c3, c4, cf⟩ := hd2.cells
  have f2 := cf 2
  have hr : w2.rangeAt w1.heap.size 0 (bcells (pad s)) := fun j v hv => by
    rw [cell_of_list hH.out, splice_zero64, Nat.zero_add]; exact hv
  have hth : w2.there d.bn (i * 64) 64 := there_of_rows hd2.hn (AllLen_secs hd2.ok.now64) i (by rw [length_secs]; exact i1)
  have hlen : (bcells (pad s)).length = 64 := by rw [length_bcells, length_pad hs]
  have hone := bcells_one (pad s)
  have hu := Try.underlying55
  have hisz : (Try.prog.info? 55).map (·.size) = some (bcells (pad s)).length := by rw [hlen]; exact sizeSector
  have E1 := hid e1
  have E2 := hid e2
  have HR := hid cf
  have nbn : ¬ d.b = d.bn := h.nbn
  have hsn : w1.heap.size ≠ d.bn := fun e => by have := lt_of_block hd1.hn; omega
  have hk : (w2.drew.setCells d.bn (i * 64) (bcells (pad s))).cell? ⟨d.b, 1, none⟩ = some (.slice (some ⟨d.bn, 0, none⟩) D.power.1.now.length D.power.1.now.length) ∧
      (w2.drew.setCells d.bn (i * 64) (bcells (pad s))).rangeAt w1.heap.size 0 (bcells (pad s)) ∧ (w2.drew.setCells d.bn (i * 64) (bcells (pad s))).there d.bn (i * 64) 64 :=
    ⟨by rw [World.cell?_setCells_out _ _ _ _ _ (fun e => absurd e nbn)]; exact c1, World.rangeAt_setCells_apart ((World.rangeAt_drew _ _ _ _).2 hr) _ _ _ (.inl hsn), World.there_setCells ((World.there_drew _ _ _ _).2 hth) _ _ _⟩
  have HK := hid hk
  clear e1 e2 cf c0 c3 c4 hk
  go_wp2_with fail
  go_region_held3 (fun w' => w'.cell? ⟨d.b, 1, none⟩ = some (.slice (some ⟨d.bn, 0, none⟩) D.power.1.now.length D.power.1.now.length) ∧ w'.rangeAt w1.heap.size 0 (bcells (pad s)) ∧ w'.there d.bn (i * 64) 64)
    (first | exact ⟨c1, hr, hth⟩ | exact HK.out) (fail)
  generalize hw3 : w2.drew.setCells d.bn (i * 64) (bcells (pad s)) = w3
  have o3 : ∀ k, k ≠ d.bn → w3.heap[k]? = w2.heap[k]? := fun k hk => by rw [← hw3]; exact heap_setCells_other _ _ _ _ _ hk
  have hn3 : Hid (w3.heap[d.bn]? = some (.cells ((secs D.power.1.now).set i (bcells (pad s))).flatten.toArray 55 (0, 0))) := by
    rw [← hw3]; exact heap_setRowOf (w := w2.drew) hd2.hn (AllLen_secs hd2.ok.now64) i (by rw [length_secs]; exact i1) hlen
  have ch3 : Chg (fun k => k = d.bn) w2 w3 := by rw [← hw3]; exact (Chg.refl (fun k => k = d.bn) w2).drew.setCells (fun _ => rfl) _ _
  have sz3 : w3.heap.size = w2.heap.size := by rw [← hw3, size_setCells]; rfl
  have k1 : w3.cell? ⟨d.b, 2, none⟩ = some d.pv := by rw [World.cell?_of_block (o3 _ nbn)]; exact c2
  have k2 : w3.frozen? ⟨d.b, 2, none⟩ = false := by rw [World.frozen?_of_block (o3 _ nbn)]; exact f2
  have k3 : w3.rangeAt w1.heap.size 0 (bcells (pad s)) := by rw [← hw3]; exact World.rangeAt_setCells_apart ((World.rangeAt_drew _ _ _ _).2 hr) _ _ _ (.inl hsn)
  have own3 : w3.ownsRow 0 57 65 d.pv D.power.1.pend.length (prows D.power.1.pend).flatten :=
    hd2.hp.kept (row := some d.bn) ⟨ch3.os, ch3.tape, ch3.output, ch3.size, fun k hk hne => o3 k (fun e => hne (by rw [e]))⟩ (.inr h.npn)
  clear hw3 sz3
  have O3 := hid o3
  clear o3 hr hth c1 c2 f2
  obtain ⟨i0, hi0', hz0, hz1, hz2⟩ := info_parts infoChange
  have hf1 : D.power.1.pend.length < 1000000000 := by rw [E2.out]; exact hf
  have npb := h.npb
  obtain ⟨k4, k5⟩ := cellsAt_of_range k3
  rw [hlen] at k4 k5
  have k6 : w1.heap.size < w3.heap.size := by
    have : w1.heap.size < w2.heap.size := lt_of_block hH.out
    have := ch3.size
    omega
  have lb3 : d.b < w3.heap.size := by
    have := hd2.lt d.b (.inl rfl)
    have := ch3.size
    omega
  clear k3
  go_wp2_with fail
  go_region_law (first
    | (refine step_append_lies _ (by rfl) _ _ _ (by rfl) 0 57 i0 _ 65 72 Try.underlying50 hi0' hz0 hz1 hz2 (by simp [Value.cells, zeroChange]) (by omega) d.pv _ _ (by rfl) ((own3.alloc _).drew)
        ⟨w3.heap.size, 0, none⟩ 1 1 (Value.int .i64 i :: bcells (pad s)) (by rfl) (by simp [hlen]) (World.news_of_block (cs := (Value.int .i64 i :: bcells (pad s)).toArray) (t := 57) (fr := (0, 0)) (heap_alloc_new w3 _)) (by intro v hv; rcases List.mem_cons.1 hv with rfl | hv; rfl; exact hone v hv)
        (by omega) (by unfold maxLen; omega) (by omega) (by simp) (w3.heap.size + 1) (by simp) ?_; intro gg cap4 w4 hown4 hgrow hat hlt
       have m0 : w4.heap[d.b]? = w3.heap[d.b]? := (hgrow.block d.b (by show d.b < (World.alloc w3 _).heap.size; simp; omega) (Ne.symm npb)).trans (Below.heap_alloc _ _ _ lb3)
       have m1 : w4.cell? ⟨d.b, 2, none⟩ = some d.pv := by rw [cell_of_same m0]; exact k1
       have m2 : w4.frozen? ⟨d.b, 2, none⟩ = false := by rw [frozen_of_same m0]; exact k2
       clear m0))
  all_goals
    go_wp2
    go_ret
    exact DiskAt.write_close hc1 hB2 hd2 ch3 O3.out hn3.out hgrow hat hown4 i1 hs hf1
end Go.Proofs.Ytpgagihkicedeaa
