/- The contract of (*Disk).Flush of package pound. -/
import Derived.Test.YtpgagihkicedeaaDiskE
set_option linter.unusedSimpArgs false
set_option linter.unusedVariables false
namespace Go.Proofs.Ytpgagihkicedeaa
open Go Go.RowKit

theorem sizeChange : (Try.prog.info? 57).map (·.size) = some 65 := by kernel_rfl
theorem ld_change (ρ : Operand → Value) (dst : Option Tmp) (x : Operand) (ty : TypeId) (pos : String) (after : Array Edge) (guard : Option (Nat × Bool)) (w : World) (hx : ptrOk (ρ x) = true) (h : hasCells w (ptrB (ρ x)) (ptrO (ρ x)) 65 = true) :
    (execOp ρ { dst, op := .load 57 x, type := ty, pos, after, guard }).run Try.prog w = .ok (.value (.agg (cellsAt w (ptrB (ρ x)) (ptrO (ρ x)) 65))) w :=
  run_exec_load_agg Try.underlying57 rfl sizeChange ρ dst x ty pos after guard w hx h
theorem st_change (ρ : Operand → Value) (dst : Option Tmp) (x y : Operand) (ty : TypeId) (pos : String) (after : Array Edge) (guard : Option (Nat × Bool)) (w : World) (hx : ptrOk (ρ x) = true)
    (h : hasCells w (ptrB (ρ x)) (ptrO (ρ x)) 65 = true) (hf : freeCells w (ptrB (ρ x)) (ptrO (ρ x)) 65 = true) (hs : (ρ y).cells.size = 65) (h1 : allOne (ρ y).cells = true) :
    (execOp ρ { dst, op := .store 57 x y, type := ty, pos, after, guard }).run Try.prog w = .ok .skip (w.setCells (ptrB (ρ x)) (ptrO (ρ x)) (ρ y).cells.toList) :=
  run_exec_store_agg sizeChange (by omega) ρ dst x y ty pos after guard w hx h hf hs h1

/-- The sectors behind some writes. -/
def putAll (l : List (List UInt8)) (ps : List (Nat × List UInt8)) : List (List UInt8) := ps.foldl (fun l p => l.set p.1 p.2) l
theorem putAll_snoc (l : List (List UInt8)) (ps : List (Nat × List UInt8)) (p : Nat × List UInt8) : putAll l (ps ++ [p]) = (putAll l ps).set p.1 p.2 := by simp [putAll]
theorem length_putAll (l : List (List UInt8)) (ps : List (Nat × List UInt8)) : (putAll l ps).length = l.length := by
  unfold putAll
  induction ps generalizing l with
  | nil => rfl
  | cons p ps ih => rw [List.foldl_cons, ih]; simp
theorem all64_putAll {l : List (List UInt8)} {ps : List (Nat × List UInt8)} (h : ∀ s ∈ l, s.length = 64) (hp : ∀ p ∈ ps, p.2.length = 64) : ∀ s ∈ putAll l ps, s.length = 64 := by
  unfold putAll
  induction ps generalizing l with
  | nil => exact h
  | cons p ps ih =>
    rw [List.foldl_cons]
    refine ih (fun s hs => ?_) (fun q hq => hp q (List.mem_cons_of_mem _ hq))
    rcases List.mem_or_eq_of_mem_set hs with h' | h'
    · exact h s h'
    · rw [h']; exact hp p (by simp)

def Dk.flush (D : Dk) : Dk × Int :=
  if D.down then (D, 90) else if D.power.2 = false then (D.power.1, 90) else ({ D.power.1 with las := putAll D.power.1.las D.power.1.pend, pend := [] }, 0)

/-- What a disk's pending writes look like in memory. -/
theorem DiskAt.pending {w : World} {d : DLoc} {D : Dk} (h : DiskAt w d D) : (d.pv = .slice none 0 0 ∧ D.pend = []) ∨
    ∃ g cap, d.pv = .slice (some ⟨g, 0, none⟩) D.pend.length cap ∧ g < w.heap.size ∧ ∀ k, k < D.pend.length → w.rangeAt g (k * 65) (prow (D.pend.getD k (0, []))) := by
  obtain ⟨h1, h2⟩ := h.hp
  rcases h2 with ⟨h2, h3⟩ | ⟨g, cap, cur, hv, _, hg, h4, h5, h6, h7⟩
  · exact .inl ⟨h2, List.eq_nil_of_length_eq_zero h3⟩
  · refine .inr ⟨g, cap, hv, lt_of_block hg, fun k hk j v hj => ?_⟩
    have hal := AllLen_prows (l := D.pend) (fun p hp => (h.ok.pend64 p hp).2)
    have := hal.rowcell k (by rw [length_prows]; exact hk) j v (by rw [← hj, getD_lt hk]; simp [prows])
    rw [← h7, List.getElem?_take] at this
    split at this
    · have hg' : w.heap[g]? = some (.cells cur.toList.toArray 57 (0, 0)) := by rw [Array.toArray_toList]; exact hg
      rw [cell_of_list hg']; exact this
    · cases this

/-- The loop of Flush: k writes have been made durable. -/
def FlushAt (d : DLoc) (D : Dk) (W : World) (k : Nat) (wr : World) : Prop :=
  wr.heap[d.bl]? = some (.cells (secs (putAll D.las (D.pend.take k))).flatten.toArray 55 (0, 0)) ∧ Chg (fun j => j = d.bl) W wr

/-- The disk behind Flush. -/
theorem DiskAt.flush_close {w w1 wr : World} {d : DLoc} {D1 : Dk} (hd1 : DiskAt w1 d D1) (hc1 : Chg d.F w w1) (hF : FlushAt d D1 w1 D1.pend.length wr) :
    DiskPost d { D1 with las := putAll D1.las D1.pend, pend := [] } (.int .i64 0) w (.returned (.int .i64 0)) (wr.setCell ⟨d.b, 2, none⟩ (.slice none 0 0)) := by
  obtain ⟨hl, hc⟩ := hF
  rw [List.take_length] at hl
  have ok := hd1.ok
  have cb := Chg.one wr d.b 2 (.slice none 0 0)
  have hbr : wr.heap[d.b]? = some (.cells (dcells d D1.now.length D1.down D1.fuse) 52 (0, 0)) := (hc.block _ (hd1.lt _ (.inl rfl)) hd1.nbl).trans hd1.hb
  have hnr : wr.heap[d.bn]? = some (.cells (secs D1.now).flatten.toArray 55 (0, 0)) := (hc.block _ (hd1.lt _ (.inr (.inr (.inl rfl)))) (fun e => hd1.nln e.symm)).trans hd1.hn
  have cc : Chg d.F w1 wr := hc.mono (fun _ _ e => .inr (.inl e))
  refine ⟨rfl, ⟨d.b, d.bl, d.bn, .slice none 0 0⟩, rfl, ⟨⟨?_, ok.lo, ok.hi, ?_, ok.now64, ?_, ?_, ok.fuse1, ok.fuse2⟩, ?_, ?_, ?_, ?_, hd1.nbl, hd1.nbn, hd1.nln, ?_, ?_, ?_⟩,
    (hc1.trans cc (fun _ _ h => h)).setCell (p := ⟨d.b, 2, none⟩) (fun _ => .inl rfl) _, ?_⟩
  · simpa [length_putAll] using ok.len
  · exact all64_putAll ok.las64 (fun p hp => (ok.pend64 p hp).2)
  · intro p hp; simp at hp
  · simp
  · rw [heap_setCell_lit hbr]; simp [dcells]
  · exact (cb.block _ (lt_of_block hl) (fun e => hd1.nbl e.symm)).trans hl
  · exact (cb.block _ (lt_of_block hnr) (fun e => hd1.nbn e.symm)).trans hnr
  · exact World.ownsRow_nil _ _ _ _
  · simp [Value.ownBlock]
  · simp [Value.ownBlock]
  · simp [Value.ownBlock]
  · intro k hk
    rcases hk with h | h | h | h
    · exact .inl (.inl h)
    · exact .inl (.inr (.inl h))
    · exact .inl (.inr (.inr (.inl h)))
    · simp [Value.ownBlock] at h

theorem FlushAt.flush_step {d : DLoc} {D1 : Dk} {w1 wr w5 : World} {k : Nat} {p : Nat × List UInt8} (hF : FlushAt d D1 w1 k wr) (hlt : k < D1.pend.length) (hd1 : DiskAt w1 d D1) (hp : p = D1.pend.getD k (0, []))
    (o5 : ∀ j, j < wr.heap.size → w5.heap[j]? = wr.heap[j]?) (c5 : Chg (fun _ => False) wr w5) : FlushAt d D1 w1 (k + 1) (w5.drew.setCells d.bl (p.1 * 64) (bcells p.2)) := by
  obtain ⟨hl, hc⟩ := hF
  have hpm : p ∈ D1.pend := by rw [hp, getD_lt hlt]; exact List.getElem_mem hlt
  obtain ⟨q1, q2⟩ := hd1.ok.pend64 p hpm
  have e : D1.pend.take (k + 1) = D1.pend.take k ++ [p] := by rw [List.take_succ_eq_append_getElem hlt, hp, getD_lt hlt]
  have hall := all64_putAll hd1.ok.las64 (ps := D1.pend.take k) (fun q hq => (hd1.ok.pend64 q (List.mem_of_mem_take hq)).2)
  have hl5 : w5.drew.heap[d.bl]? = some (.cells (secs (putAll D1.las (D1.pend.take k))).flatten.toArray 55 (0, 0)) := (o5 _ (lt_of_block hl)).trans hl
  refine ⟨?_, ((hc.trans c5 (fun _ _ h => h.elim)).drew).setCells (fun _ => rfl) _ _⟩
  rw [heap_setRowOf hl5 (AllLen_secs hall) p.1 (by rw [length_secs, length_putAll, hd1.ok.len]; exact q1) (by rw [length_bcells, q2]), e, putAll_snoc]
  simp [secs, List.map_set]

attribute [local go_sem ↓] ld_change st_change

set_option maxHeartbeats 1000000 in
theorem flush_ok {w : World} {d : DLoc} {D : Dk} (h : DiskAt w d D) (hdn : D.down = false) (hpw : D.power.2 = true) :
    Calls Try.prog 8 #[.pointer (some ⟨d.b, 0, none⟩)] w (DiskPost d { D.power.1 with las := putAll D.power.1.las D.power.1.pend, pend := [] } (.int .i64 0) w) := by
  have hs := state_any h
  rw [hdn] at hs
  simp only [Bool.false_eq_true, ↓reduceIte] at hs
  have hS := hid hs
  have H2 := hid (power_any h)
  have HQ := hid hpw
  have h0 := h
  clear hs hdn hpw
  go_enter Try.func8, Try.ntmps8
  go_wp2_with (go_at_call 17; refine hS.out.mono ?_; rintro e w' ⟨rfl, rfl⟩)
  refine H2.out.mono ?_
  rintro e w1 ⟨rfl, hd1, hc1⟩
  rw [HQ.out]
  generalize D.power.1 = D1 at *
  obtain ⟨c0, c1, c2, c3, c4, cf⟩ := hd1.cells
  have f2 := cf 2
  clear cf c1 c3 c4
  have hstart : FlushAt d D1 w1 0 w1 := ⟨by simpa [putAll] using hd1.hl, Chg.refl _ _⟩
  rcases hd1.pending with ⟨hv, hnil⟩ | ⟨g, cap, hv, hg, hpr⟩
  · rw [hv] at c2
    have HV := hid hv
    have HN := hid hnil
    clear hv hnil
    go_wp2_with fail
    refine wp_loop_rounds 1 ?_
    rw [rounds_succ]
    go_wp2
    go_ret
    exact hd1.flush_close hc1 (by rw [HN.out]; exact hstart)
  · rw [hv] at c2
    have HV := hid hv
    have hgl : g ≠ d.bl := fun e => hd1.npl (by rw [hv, e]; rfl)
    clear hv
    have HPR := hid hpr
    clear hpr
    have hm : D1.pend.length ≤ 1000000000 := hd1.ok.few
    go_wp2_with fail
    go_loopw [19] (fun i wr => ∃ k : Nat, k ≤ D1.pend.length ∧ i = .int .i64 k ∧ FlushAt d D1 w1 k wr) (fun i _ => D1.pend.length - (intOf i).toNat)
    case atStart => exact ⟨0, Nat.zero_le _, rfl, hstart⟩
    case round =>
      obtain ⟨k, hk, rfl, hF⟩ := hrel
      by_cases hlt : k < D1.pend.length
      · have hF0 := hF
        obtain ⟨hl, hc⟩ := hF
        obtain ⟨p, hp⟩ : ∃ p, p = D1.pend.getD k (0, []) := ⟨_, rfl⟩
        have hpm : p ∈ D1.pend := by rw [hp, getD_lt hlt]; exact List.getElem_mem hlt
        obtain ⟨q1, q2⟩ := hd1.ok.pend64 p hpm
        have hrow := HPR.out k hlt
        rw [← hp] at hrow
        have hplen : (prow p).length = 65 := by simp [prow, length_bcells, q2]
        have hpone : allOne (prow p).toArray = true := allOne_list (fun v hv => by rcases List.mem_cons.1 hv with rfl | hv; rfl; exact bcells_one _ v hv)
        obtain ⟨r1, r2⟩ := cellsAt_of_range hrow
        rw [hplen] at r1 r2
        have hgw : wr.heap[g]? = w1.heap[g]? := hc.block _ hg hgl
        rw [← cellsAt_same hgw] at r1
        rw [← hasCells_same hgw] at r2
        have gsz : g < wr.heap.size := Nat.lt_of_lt_of_le hg hc.size
        have z1 : hasCells (wr.alloc (.cells zeroChange 57)) wr.heap.size 0 65 = true := hasCells_iff.2 (fun j hj => by
          rw [cell_of_row (wr.alloc (.cells zeroChange 57)) wr.heap.size (0 + j) zeroChange _ (0, 0) (heap_alloc_new wr _)]
          simp [zeroChange]; omega)
        have z2 : freeCells (wr.alloc (.cells zeroChange 57)) wr.heap.size 0 65 = true := freeCells_iff.2 (fun j hj => frozen_of_row _ _ _ _ _ (heap_alloc_new wr _))
        have hk1 : ((k : Nat) : Int) < (D1.pend.length : Int) := by omega
        have hk0 : (0 : Int) ≤ (k : Int) := by omega
        have HP := hid hp
        have HG := hid hgw
        clear hp hgw hrow c2 f2 c0
        go_wp2_with (with_reducible refine wpList_alloc_agg rfl 57 rfl zeroChange 65 72 infoChange ?_)
        generalize hW : (wr.alloc (.cells zeroChange 57)).setCells wr.heap.size 0 (prow p) = w5
        have h5 : w5.heap[wr.heap.size]? = some (.cells (prow p).toArray 57 (0, 0)) := by
          rw [← hW, heap_setCells_same wr.heap.size 57 (prow p) 0 (wr.alloc (.cells zeroChange 57)) zeroChange.toList (by rw [Array.toArray_toList]; exact heap_alloc_new wr _) (by simp [zeroChange, hplen])]
          have e : splice zeroChange.toList 0 (prow p) = prow p := by
            unfold splice; rw [List.drop_eq_nil_of_le (by simp [zeroChange, hplen])]; simp
          rw [e]
        have o5 : ∀ j, j < wr.heap.size → w5.heap[j]? = wr.heap[j]? := fun j hj => by
          rw [← hW, heap_setCells_other _ _ _ _ _ (by omega)]; exact Below.heap_alloc _ _ _ hj
        have s5 : wr.heap.size < w5.heap.size := lt_of_block h5
        have c5 : Chg (fun _ => False) wr w5 := by rw [← hW]; exact ((Chg.refl _ wr).alloc _).setCells (fun hlt => by omega) _ _
        clear hW
        have lb : d.b < wr.heap.size := Nat.lt_of_lt_of_le (hd1.lt _ (.inl rfl)) hc.size
        have ll : d.bl < wr.heap.size := lt_of_block hl
        have eb : w5.heap[d.b]? = w1.heap[d.b]? := (o5 _ lb).trans (hc.block _ (hd1.lt _ (.inl rfl)) hd1.nbl)
        have m0 : w5.cell? ⟨d.b, 0, none⟩ = some (.slice (some ⟨d.bl, 0, none⟩) D1.now.length D1.now.length) := by rw [cell_of_same eb]; exact hd1.cells.1
        have m1 : w5.cell? ⟨wr.heap.size, 0, none⟩ = some (.int .i64 (p.1 : Int)) := by rw [cell_of_list h5]; rfl
        have m2 : w5.rangeAt wr.heap.size 1 (bcells p.2) := fun j v hv => by rw [cell_of_list h5, Nat.add_comm]; exact hv
        have m3 : w5.there d.bl (p.1 * 64) 64 := there_of_rows ((o5 _ ll).trans hl) (AllLen_secs (all64_putAll hd1.ok.las64 (fun q hq => (hd1.ok.pend64 q (List.mem_of_mem_take hq)).2))) p.1 (by rw [length_secs, length_putAll, hd1.ok.len]; exact q1)
        have hlen2 : (bcells p.2).length = 64 := by rw [length_bcells, q2]
        have hone2 := bcells_one p.2
        have hu := Try.underlying55
        have hisz : (Try.prog.info? 55).map (·.size) = some (bcells p.2).length := by rw [hlen2]; exact sizeSector
        have q3 : ((p.1 : Nat) : Int) < (D1.now.length : Int) := by omega
        have q0 : (0 : Int) ≤ (p.1 : Int) := by omega
        have nb : ¬ d.b = d.bl := hd1.nbl
        have nw : ¬ wr.heap.size = d.bl := by omega
        have hk : (w5.drew.setCells d.bl (p.1 * 64) (bcells p.2)).cell? ⟨d.b, 0, none⟩ = some (.slice (some ⟨d.bl, 0, none⟩) D1.now.length D1.now.length) ∧
            (w5.drew.setCells d.bl (p.1 * 64) (bcells p.2)).cell? ⟨wr.heap.size, 0, none⟩ = some (.int .i64 (p.1 : Int)) ∧
            (w5.drew.setCells d.bl (p.1 * 64) (bcells p.2)).rangeAt wr.heap.size 1 (bcells p.2) ∧ (w5.drew.setCells d.bl (p.1 * 64) (bcells p.2)).there d.bl (p.1 * 64) 64 :=
          ⟨by rw [World.cell?_setCells_out _ _ _ _ _ (fun e => absurd e nb)]; exact m0, by rw [World.cell?_setCells_out _ _ _ _ _ (fun e => absurd e nw)]; exact m1,
            World.rangeAt_setCells_apart ((World.rangeAt_drew _ _ _ _).2 m2) _ _ _ (.inl nw), World.there_setCells ((World.there_drew _ _ _ _).2 m3) _ _ _⟩
        have HK := hid hk
        have C5 := hid c5
        have O5 := hid o5
        have H5 := hid h5
        have QH := hid q2
        have PL := hid hplen
        clear hk o5 h5 eb q2 hplen r1 r2 z1 z2 hpone hl c5
        go_region_held3 (fun w' => w'.cell? ⟨d.b, 0, none⟩ = some (.slice (some ⟨d.bl, 0, none⟩) D1.now.length D1.now.length) ∧ w'.cell? ⟨wr.heap.size, 0, none⟩ = some (.int .i64 (p.1 : Int)) ∧ w'.rangeAt wr.heap.size 1 (bcells p.2) ∧ w'.there d.bl (p.1 * 64) 64)
          (first | exact ⟨m0, m1, m2, m3⟩ | exact HK.out) (fail)
        go_wp2
        go_roundw
        case rel => exact ⟨k + 1, by omega, by go_num, hF0.flush_step hlt hd1 HP.out O5.out C5.out⟩
        case measure => simp [intOf]; omega
      · have hkn : k = D1.pend.length := by omega
        have hx : ((k : Nat) : Int) ≥ (D1.pend.length : Int) := by omega
        have e0 : wr.heap[d.b]? = w1.heap[d.b]? := hF.2.block _ (hd1.lt _ (.inl rfl)) hd1.nbl
        have d2 : wr.cell? ⟨d.b, 2, none⟩ = some (.slice (some ⟨g, 0, none⟩) D1.pend.length cap) := by rw [cell_of_same e0]; exact c2
        have g2 : wr.frozen? ⟨d.b, 2, none⟩ = false := by rw [frozen_of_same e0]; exact f2
        have HK := hid hkn
        clear hkn e0 c2 f2
        go_wp2
        go_ret
        exact hd1.flush_close hc1 (by rw [← HK.out]; exact hF)
end Go.Proofs.Ytpgagihkicedeaa
