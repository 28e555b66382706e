/- The contract of (*Disk).Crash of package pound. -/
import Derived.Test.YtpgagihkicedeaaDiskF
import Derived.Deep.DeepCutAuto
set_option linter.unusedSimpArgs false
set_option linter.unusedVariables false
namespace Go.Proofs.Ytpgagihkicedeaa
open Go Go.RowKit

theorem flush_any {w : World} {d : DLoc} {D : Dk} (h : DiskAt w d D) :
    Calls Try.prog 8 #[.pointer (some ⟨d.b, 0, none⟩)] w (DiskPost d D.flush.1 (.int .i64 D.flush.2) w) := by
  cases hd : D.down
  · by_cases hq : D.power.2 = true
    · have e : D.flush = ({ D.power.1 with las := putAll D.power.1.las D.power.1.pend, pend := [] }, 0) := by simp [Dk.flush, hd, hq]
      rw [e]
      exact flush_ok h hd hq
    · have hq' : D.power.2 = false := by simpa using hq
      have e : Hid (D.flush = (D.power.1, 90)) := by simp [Hid, Dk.flush, hd, hq']
      have hs := state_any h
      rw [hd] at hs
      simp only [Bool.false_eq_true, ↓reduceIte] at hs
      have hS := hid hs
      have H2 := hid (power_any h)
      have HQ := hid hq'
      clear hs hd hq hq'
      go_enter Try.func8, Try.ntmps8
      go_wp2_with (go_at_call 17; refine hS.out.mono ?_; rintro e w' ⟨rfl, rfl⟩)
      refine H2.out.mono ?_
      rintro e w1 ⟨rfl, hd1, hc1⟩
      rw [HQ.out]
      go_wp2_with fail
      go_ret
      rw [e.out]
      exact DiskPost.same hd1 hc1 rfl
  · have e : Hid (D.flush = (D, 90)) := by simp [Hid, Dk.flush, hd]
    have hs := state_any h
    rw [hd] at hs
    simp only [↓reduceIte] at hs
    have hS := hid hs
    clear hs hd
    go_enter Try.func8, Try.ntmps8
    go_wp2_with (go_at_call 17; refine hS.out.mono ?_; rintro e w' ⟨rfl, rfl⟩)
    go_ret
    rw [e.out]
    exact DiskPost.same h (Chg.refl _ _) rfl

/-- How many bytes of the write i a crash keeps. -/
def kept (keep : List Int) (i : Nat) : Nat := (max 0 (min (keep.getD i 0) 64)).toNat
theorem kept_le (keep : List Int) (i : Nat) : kept keep i ≤ 64 := by unfold kept; omega
/-- A sector that is written in part. -/
def tear (k : Nat) (new old : List UInt8) : List UInt8 := new.take k ++ old.drop k
/-- The sectors behind a crash: the writes, in order, in part. -/
def tearAll (keep : List Int) : Nat → List (Nat × List UInt8) → List (List UInt8) → List (List UInt8)
  | _, [], l => l
  | i, p :: ps, l => tearAll keep (i + 1) ps (l.set p.1 (tear (kept keep i) p.2 (l.getD p.1 [])))
theorem tearAll_snoc (keep : List Int) : ∀ (ps : List (Nat × List UInt8)) (i : Nat) (p : Nat × List UInt8) (l : List (List UInt8)),
    tearAll keep i (ps ++ [p]) l = (tearAll keep i ps l).set p.1 (tear (kept keep (i + ps.length)) p.2 ((tearAll keep i ps l).getD p.1 []))
  | [], i, p, l => by simp [tearAll]
  | q :: ps, i, p, l => by
    rw [List.cons_append, tearAll, tearAll, tearAll_snoc keep ps (i + 1) p _]
    rw [show i + 1 + ps.length = i + (q :: ps).length by simp; omega]
theorem length_tearAll (keep : List Int) : ∀ (ps : List (Nat × List UInt8)) (i : Nat) (l : List (List UInt8)), (tearAll keep i ps l).length = l.length
  | [], _, _ => rfl
  | p :: ps, i, l => by rw [tearAll, length_tearAll keep ps]; simp
theorem length_tear {k : Nat} {new old : List UInt8} (h1 : new.length = 64) (h2 : old.length = 64) (hk : k ≤ 64) : (tear k new old).length = 64 := by simp [tear]; omega
theorem all64_tearAll (keep : List Int) : ∀ (ps : List (Nat × List UInt8)) (i : Nat) (l : List (List UInt8)), (∀ s ∈ l, s.length = 64) → (∀ p ∈ ps, p.1 < l.length ∧ p.2.length = 64) → ∀ s ∈ tearAll keep i ps l, s.length = 64
  | [], _, _, h, _ => h
  | p :: ps, i, l, h, hp => by
    rw [tearAll]
    obtain ⟨p1, p2⟩ := hp p (by simp)
    refine all64_tearAll keep ps (i + 1) _ (fun s hs => ?_) (fun q hq => by simpa using hp q (List.mem_cons_of_mem _ hq))
    rcases List.mem_or_eq_of_mem_set hs with h' | h'
    · exact h s h'
    · rw [h']; exact length_tear p2 (by rw [getD_lt p1]; exact h _ (List.getElem_mem p1)) (kept_le _ _)

def Dk.crash (D : Dk) (keep : List Int) : Dk :=
  { las := tearAll keep 0 D.pend D.las, now := tearAll keep 0 D.pend D.las, pend := [], down := false, fuse := -1 }

/-- A slice of ints with the address a reads as l. -/
def IntsAt (w : World) (a : Option Addr) (l : List Int) : Prop := ∀ j n, l[j]? = some n → ∃ x, a = some x ∧ w.cell? (x.add j) = some (.int .i64 n)
theorem IntsAt.chg {w w' : World} {a : Option Addr} {l : List Int} (h : IntsAt w a l) {F : Nat → Prop} (hc : Chg F w w') (ha : l ≠ [] → ∀ x, a = some x → ¬ F x.block) : IntsAt w' a l := fun j c hj => by
  have hl0 : l ≠ [] := fun e => by rw [e] at hj; simp at hj
  obtain ⟨x, rfl, hx⟩ := h j c hj
  have hb : (x.add j).block = x.block := by unfold Addr.add; split <;> rfl
  have hl := block_lt_of_cell hx
  refine ⟨x, rfl, ?_⟩
  rw [World.cell?_of_block (hc.block _ hl (by rw [hb]; exact ha hl0 x rfl))]
  exact hx

/-- A variable that holds a change. -/
theorem var_change {wr w5 : World} {p : Nat × List UInt8} (hplen : (prow p).length = 65) (hW : (wr.alloc (.cells zeroChange 57)).setCells wr.heap.size 0 (prow p) = w5) :
    w5.heap[wr.heap.size]? = some (.cells (prow p).toArray 57 (0, 0)) ∧ (∀ j, j < wr.heap.size → w5.heap[j]? = wr.heap[j]?) ∧ Chg (fun _ => False) wr w5 := by
  subst hW
  refine ⟨?_, fun j hj => ?_, ((Chg.refl _ wr).alloc _).setCells (fun hlt => by omega) _ _⟩
  · rw [heap_setCells_same wr.heap.size 57 (prow p) 0 (wr.alloc (.cells zeroChange 57)) zeroChange.toList (by rw [Array.toArray_toList]; exact heap_alloc_new wr _) (by simp [zeroChange, hplen])]
    have e : splice zeroChange.toList 0 (prow p) = prow p := by
      unfold splice; rw [List.drop_eq_nil_of_le (by simp [zeroChange, hplen])]; simp
    rw [e]
  · rw [heap_setCells_other _ _ _ _ _ (by omega)]; exact Below.heap_alloc _ _ _ hj

/-- The loop of Crash: k writes have been made in part. -/
def CrashAt (d : DLoc) (D : Dk) (keep : List Int) (W : World) (k : Nat) (wr : World) : Prop :=
  wr.heap[d.bl]? = some (.cells (secs (tearAll keep 0 (D.pend.take k) D.las)).flatten.toArray 55 (0, 0)) ∧ Chg (fun j => j = d.bl) W wr

theorem splice_back (L : List Value) (o m : Nat) (s : List Value) : splice L o (s ++ (L.drop (o + s.length)).take m) = splice L o s := by
  unfold splice
  have hD : L.drop (o + (s ++ (L.drop (o + s.length)).take m).length) = (L.drop (o + s.length)).drop (min m (L.drop (o + s.length)).length) := by
    rw [List.drop_drop]; congr 1; simp [Nat.add_assoc]
  rw [hD]
  generalize L.drop (o + s.length) = D
  congr 1
  rw [List.append_assoc]
  congr 1
  rcases Nat.le_total m D.length with h | h
  · rw [Nat.min_eq_left h]; exact List.take_append_drop m D
  · rw [Nat.min_eq_right h, List.take_of_length_le h, List.drop_length]; simp
theorem AllLen.splice_part {k : Nat} {R : List (List Value)} (h : AllLen k R) (i : Nat) (hi : i < R.length) {s : List Value} (hs : s.length ≤ k) : Go.splice R.flatten (i * k) s = (R.set i (s ++ R[i].drop s.length)).flatten := by
  rw [← h.splice i hi (s := s ++ R[i].drop s.length) (by simp [h _ (List.getElem_mem hi)]; omega), ← splice_back R.flatten (i * k) (k - s.length) s]
  congr 2
  rw [← h.row i hi, List.drop_take, List.drop_drop]
theorem CrashAt.crash_step {d : DLoc} {D : Dk} {keep : List Int} {w wr w5 : World} {k n : Nat} {p : Nat × List UInt8} (hF : CrashAt d D keep w k wr) (hlt : k < D.pend.length) (hd1 : DiskAt w d D) (hp : p = D.pend.getD k (0, []))
    (hn : kept keep k = n) (o5 : ∀ j, j < wr.heap.size → w5.heap[j]? = wr.heap[j]?) (c5 : Chg (fun _ => False) wr w5) : CrashAt d D keep w (k + 1) (w5.drew.setCells d.bl (p.1 * 64) (bcells (p.2.take n))) := by
  obtain ⟨hl, hc⟩ := hF
  have hn64 : n ≤ 64 := by rw [← hn]; exact kept_le _ _
  have hpm : p ∈ D.pend := by rw [hp, getD_lt hlt]; exact List.getElem_mem hlt
  obtain ⟨q1, q2⟩ := hd1.ok.pend64 p hpm
  have e : D.pend.take (k + 1) = D.pend.take k ++ [p] := by rw [List.take_succ_eq_append_getElem hlt, hp, getD_lt hlt]
  have hall := all64_tearAll keep (D.pend.take k) 0 D.las hd1.ok.las64 (fun q hq => by rw [hd1.ok.len]; exact hd1.ok.pend64 q (List.mem_of_mem_take hq))
  have hlen : p.1 < (tearAll keep 0 (D.pend.take k) D.las).length := by rw [length_tearAll, hd1.ok.len]; exact q1
  have hl5 : w5.drew.heap[d.bl]? = some (.cells (secs (tearAll keep 0 (D.pend.take k) D.las)).flatten.toArray 55 (0, 0)) := (o5 _ (lt_of_block hl)).trans hl
  have ht : (bcells (p.2.take n)).length = n := by rw [length_bcells, List.length_take]; omega
  refine ⟨?_, ((hc.trans c5 (fun _ _ h => h.elim)).drew).setCells (fun _ => rfl) _ _⟩
  have A := AllLen_secs hall
  rw [heap_setCells_same d.bl 55 _ _ _ _ hl5 (by
    rw [A.flatten, length_secs, ht]
    have : (p.1 + 1) * 64 ≤ (tearAll keep 0 (D.pend.take k) D.las).length * 64 := Nat.mul_le_mul_right 64 hlen
    omega), A.splice_part p.1 (by rw [length_secs]; exact hlen) (by omega), e, tearAll_snoc]
  have hz : 0 + (D.pend.take k).length = k := by simp; omega
  rw [hz, hn, ht]
  simp only [secs, List.map_set, List.getElem_map]
  rw [getD_lt hlen, tear, bcells_append, bcells_drop]

/-- What the copy in Crash finds. -/
theorem crash_facts {w5 : World} {v bl n : Nat} {p : Nat × List UInt8} {l : List (List UInt8)} (h5 : w5.heap[v]? = some (.cells (prow p).toArray 57 (0, 0)))
    (hl : w5.heap[bl]? = some (.cells (secs l).flatten.toArray 55 (0, 0))) (hn : n ≤ 64) (q2 : p.2.length = 64) (q1 : p.1 < l.length) (hall : ∀ s ∈ l, s.length = 64) :
    hasCells w5 v 1 n = true ∧ cellsAt w5 v 1 n = (bcells (p.2.take n)).toArray ∧ allOne (bcells (p.2.take n)).toArray = true ∧ hasCells w5 bl (p.1 * 64) n = true ∧ freeCells w5 bl (p.1 * 64) n = true := by
  have hr : w5.rangeAt v 1 (bcells (p.2.take n)) := fun j u hu => by
    rw [cell_of_list h5, Nat.add_comm]
    rw [bcells_take, List.getElem?_take] at hu
    split at hu
    · exact hu
    · cases hu
  have hlen : (bcells (p.2.take n)).length = n := by rw [length_bcells, List.length_take]; omega
  obtain ⟨a1, a2⟩ := cellsAt_of_range hr
  rw [hlen] at a1 a2
  have ht := there_of_rows hl (AllLen_secs hall) p.1 (by rw [length_secs]; exact q1)
  exact ⟨a2, a1, allOne_list (bcells_one _), hasCells_iff.2 (fun j hj => (ht j (by omega)).1), freeCells_iff.2 (fun j hj => (ht j (by omega)).2)⟩
theorem min_same (n : Nat) : Nat.min n n = n := Nat.min_self n
theorem cp_bytes (ρ : Operand → Value) (dst : Option Tmp) (x y : Operand) (ty : TypeId) (pos : String) (after : Array Edge) (guard : Option (Nat × Bool)) (w : World) (hx : slOk (ρ x) = true) (hy : slOk (ρ y) = true)
    (hs : hasCells w (slB (ρ y)) (slO (ρ y)) (Nat.min (slLen (ρ y)) (slLen (ρ x)) * 1) = true) (hd : hasCells w (slB (ρ x)) (slO (ρ x)) (Nat.min (slLen (ρ y)) (slLen (ρ x)) * 1) = true)
    (hf : freeCells w (slB (ρ x)) (slO (ρ x)) (Nat.min (slLen (ρ y)) (slLen (ρ x)) * 1) = true) (h1 : allOne (cellsAt w (slB (ρ y)) (slO (ρ y)) (Nat.min (slLen (ρ y)) (slLen (ρ x)) * 1)) = true) :
    (execOp ρ { dst, op := .call { callee := .builtin .copy, args := #[x, y], argTypes := #[22, 22] }, type := ty, pos, after, guard }).run Try.prog w =
      .ok (.value (goInt (Nat.min (slLen (ρ y)) (slLen (ρ x))))) (w.setCells (slB (ρ x)) (slO (ρ x)) (cellsAt w (slB (ρ y)) (slO (ρ y)) (Nat.min (slLen (ρ y)) (slLen (ρ x)) * 1)).toList) :=
  run_exec_copy_agg Try.underlying22 infoByte ρ dst x y ty pos after guard w hx hy hs hd hf h1
attribute [local go_sem ↓] cp_bytes
attribute [local go_sem] min_same
attribute [local go_sem ↓] ld_change st_change
theorem sizeSectors : (Try.prog.info? 55).map (·.size) = some 64 := sizeSector
theorem cp_sectors (ρ : Operand → Value) (dst : Option Tmp) (x y : Operand) (ty : TypeId) (pos : String) (after : Array Edge) (guard : Option (Nat × Bool)) (w : World) (hx : slOk (ρ x) = true) (hy : slOk (ρ y) = true)
    (hs : hasCells w (slB (ρ y)) (slO (ρ y)) (Nat.min (slLen (ρ y)) (slLen (ρ x)) * 64) = true) (hd : hasCells w (slB (ρ x)) (slO (ρ x)) (Nat.min (slLen (ρ y)) (slLen (ρ x)) * 64) = true)
    (hf : freeCells w (slB (ρ x)) (slO (ρ x)) (Nat.min (slLen (ρ y)) (slLen (ρ x)) * 64) = true) (h1 : allOne (cellsAt w (slB (ρ y)) (slO (ρ y)) (Nat.min (slLen (ρ y)) (slLen (ρ x)) * 64)) = true) :
    (execOp ρ { dst, op := .call { callee := .builtin .copy, args := #[x, y], argTypes := #[49, 49] }, type := ty, pos, after, guard }).run Try.prog w =
      .ok (.value (goInt (Nat.min (slLen (ρ y)) (slLen (ρ x))))) (w.setCells (slB (ρ x)) (slO (ρ x)) (cellsAt w (slB (ρ y)) (slO (ρ y)) (Nat.min (slLen (ρ y)) (slLen (ρ x)) * 64)).toList) :=
  run_exec_copy_agg Try.underlying49 sizeSector ρ dst x y ty pos after guard w hx hy hs hd hf h1
attribute [local go_sem ↓] cp_sectors

/-- What the end of Crash finds: the sectors behind the writes, and the disk's own cells. -/
theorem DiskAt.crash_end {w wr : World} {d : DLoc} {D : Dk} {keep : List Int} (h : DiskAt w d D) (hF : CrashAt d D keep w D.pend.length wr) :
    wr.cell? ⟨d.b, 0, none⟩ = some (.slice (some ⟨d.bl, 0, none⟩) D.now.length D.now.length) ∧ wr.cell? ⟨d.b, 1, none⟩ = some (.slice (some ⟨d.bn, 0, none⟩) D.now.length D.now.length) ∧
    wr.cell? ⟨d.b, 2, none⟩ = some d.pv ∧ wr.cell? ⟨d.b, 3, none⟩ = some (.bool D.down) ∧ wr.cell? ⟨d.b, 4, none⟩ = some (.int .i64 D.fuse) ∧
    (cellsAt wr d.bl 0 (D.now.length * 64) = (secs (tearAll keep 0 D.pend D.las)).flatten.toArray ∧ hasCells wr d.bl 0 (D.now.length * 64) = true ∧ allOne (secs (tearAll keep 0 D.pend D.las)).flatten.toArray = true) ∧
    (hasCells wr d.bn 0 (D.now.length * 64) = true ∧ freeCells wr d.bn 0 (D.now.length * 64) = true) ∧ ∀ j, wr.frozen? ⟨d.b, j, none⟩ = false := by
  obtain ⟨hl, hc⟩ := hF
  rw [List.take_length] at hl
  have eb : wr.heap[d.b]? = w.heap[d.b]? := hc.block _ (h.lt _ (.inl rfl)) h.nbl
  have en : wr.heap[d.bn]? = w.heap[d.bn]? := hc.block _ (h.lt _ (.inr (.inr (.inl rfl)))) (fun e => h.nln e.symm)
  obtain ⟨c0, c1, c2, c3, c4, cf⟩ := h.cells
  have hall := all64_tearAll keep D.pend 0 D.las h.ok.las64 (fun q hq => by rw [h.ok.len]; exact h.ok.pend64 q hq)
  have A := AllLen_secs hall
  have fl : (secs (tearAll keep 0 D.pend D.las)).flatten.length = D.now.length * 64 := by rw [A.flatten, length_secs, length_tearAll, h.ok.len]
  have hr : wr.rangeAt d.bl 0 (secs (tearAll keep 0 D.pend D.las)).flatten := fun j v hv => by rw [cell_of_list hl, Nat.zero_add]; exact hv
  obtain ⟨a1, a2⟩ := cellsAt_of_range hr
  rw [fl] at a1 a2
  have hn : wr.heap[d.bn]? = some (.cells (secs D.now).flatten.toArray 55 (0, 0)) := en.trans h.hn
  have ht := there_of_block hn 0 (D.now.length * 64) (by simp only [List.size_toArray]; rw [(AllLen_secs h.ok.now64).flatten, length_secs]; omega)
  refine ⟨by rw [cell_of_same eb]; exact c0, by rw [cell_of_same eb]; exact c1, by rw [cell_of_same eb, c2], by rw [cell_of_same eb, c3], by rw [cell_of_same eb, c4], ⟨a1, a2, allOne_list ?_⟩,
    ⟨hasCells_iff.2 (fun j hj => (ht j hj).1), freeCells_iff.2 (fun j hj => (ht j hj).2)⟩, fun j => by rw [frozen_of_same eb]; exact cf j⟩
  intro v hv
  obtain ⟨r, hr, hv⟩ := List.mem_flatten.1 hv
  obtain ⟨s, _, rfl⟩ := List.mem_map.1 hr
  exact bcells_one s v hv

/-- The disk behind Crash. -/
theorem DiskAt.crash_close {w wr : World} {d : DLoc} {D : Dk} {keep : List Int} (h : DiskAt w d D) (hF : CrashAt d D keep w D.pend.length wr) :
    DiskPost d (D.crash keep) (.tuple #[]) w (.returned (.tuple #[])) ((((wr.drew.setCells d.bn 0 (secs (tearAll keep 0 D.pend D.las)).flatten).setCell ⟨d.b, 2, none⟩ (.slice none 0 0)).setCell ⟨d.b, 3, none⟩ (.bool false)).setCell ⟨d.b, 4, none⟩ (.int .i64 (-1))) := by
  obtain ⟨hl, hc⟩ := hF
  rw [List.take_length] at hl
  have ok := h.ok
  have hall := all64_tearAll keep D.pend 0 D.las ok.las64 (fun q hq => by rw [ok.len]; exact ok.pend64 q hq)
  have hlen := length_tearAll keep D.pend 0 D.las
  have hcr : D.crash keep = ⟨tearAll keep 0 D.pend D.las, tearAll keep 0 D.pend D.las, [], false, -1⟩ := rfl
  rw [hcr]
  generalize tearAll keep 0 D.pend D.las = L at *
  have fl : (secs L).flatten.length = (secs D.now).flatten.length := by rw [(AllLen_secs hall).flatten, (AllLen_secs ok.now64).flatten, length_secs, length_secs, hlen, ok.len]
  have hbr : wr.heap[d.b]? = some (.cells (dcells d D.now.length D.down D.fuse) 52 (0, 0)) := (hc.block _ (h.lt _ (.inl rfl)) h.nbl).trans h.hb
  have hnr : wr.drew.heap[d.bn]? = some (.cells (secs D.now).flatten.toArray 55 (0, 0)) := (hc.block _ (h.lt _ (.inr (.inr (.inl rfl)))) (fun e => h.nln e.symm)).trans h.hn
  have cc : Chg d.F w wr := hc.mono (fun _ _ e => .inr (.inl e))
  have call : Chg d.F w ((((wr.drew.setCells d.bn 0 (secs L).flatten).setCell ⟨d.b, 2, none⟩ (.slice none 0 0)).setCell ⟨d.b, 3, none⟩ (.bool false)).setCell ⟨d.b, 4, none⟩ (.int .i64 (-1))) :=
    ((((cc.drew).setCells (p := d.bn) (fun _ => .inr (.inr (.inl rfl))) _ _).setCell (p := ⟨d.b, 2, none⟩) (fun _ => .inl rfl) _).setCell (p := ⟨d.b, 3, none⟩) (fun _ => .inl rfl) _).setCell (p := ⟨d.b, 4, none⟩) (fun _ => .inl rfl) _
  have hb1 : (wr.drew.setCells d.bn 0 (secs L).flatten).heap[d.b]? = some (.cells (dcells d D.now.length D.down D.fuse) 52 (0, 0)) := (heap_setCells_other _ _ _ _ _ h.nbn).trans hbr
  have hn1 : (wr.drew.setCells d.bn 0 (secs L).flatten).heap[d.bn]? = some (.cells (secs L).flatten.toArray 55 (0, 0)) := by
    rw [heap_setCells_same d.bn 55 _ 0 _ _ hnr (by omega)]
    have e : splice (secs D.now).flatten 0 (secs L).flatten = (secs L).flatten := by
      unfold splice; rw [List.drop_eq_nil_of_le (by omega)]; simp
    rw [e]
  have hl1 : (wr.drew.setCells d.bn 0 (secs L).flatten).heap[d.bl]? = some (.cells (secs L).flatten.toArray 55 (0, 0)) := (heap_setCells_other _ _ _ _ _ h.nln).trans hl
  have hne : L.length = D.now.length := by rw [hlen, ok.len]
  have up : ∀ k o, (wr.drew.setCells d.bn 0 (secs L).flatten).heap[k]? = some o → d.b ≠ k →
      ((((wr.drew.setCells d.bn 0 (secs L).flatten).setCell ⟨d.b, 2, none⟩ (.slice none 0 0)).setCell ⟨d.b, 3, none⟩ (.bool false)).setCell ⟨d.b, 4, none⟩ (.int .i64 (-1))).heap[k]? = some o := fun k o hk hn => by
    rw [heap_setCell_get, if_neg (Ne.symm hn), heap_setCell_get, if_neg (Ne.symm hn), heap_setCell_get, if_neg (Ne.symm hn)]; exact hk
  refine ⟨rfl, ⟨d.b, d.bl, d.bn, .slice none 0 0⟩, rfl, ⟨⟨rfl, by rw [hne]; exact ok.lo, by rw [hne]; exact ok.hi, hall, hall, fun p hp => by simp at hp, by simp, by simp, by simp⟩, ?_, up _ _ hl1 h.nbl, up _ _ hn1 h.nbn, World.ownsRow_nil _ _ _ _, h.nbl, h.nbn, h.nln,
    by simp [Value.ownBlock], by simp [Value.ownBlock], by simp [Value.ownBlock]⟩, call, ?_⟩
  · rw [heap_setCell_lit (heap_setCell_lit (heap_setCell_lit hb1 2 (.slice none 0 0)) 3 (.bool false)) 4 (.int .i64 (-1))]
    simp [dcells, hne]
  · intro k hk
    rcases hk with h | h | h | h
    · exact .inl (.inl h)
    · exact .inl (.inr (.inl h))
    · exact .inl (.inr (.inr (.inl h)))
    · simp [Value.ownBlock] at h

set_option maxHeartbeats 1000000 in
theorem crash_any {w : World} {d : DLoc} {D : Dk} (h : DiskAt w d D) (keep : List Int) (ka : Option Addr) (kcap : Nat) (hka : IntsAt w ka keep) (hkm : keep.length ≤ maxLen) (hkF : keep ≠ [] → ∀ x, ka = some x → ¬ d.F x.block)
    (hkr : ∀ n ∈ keep, -9223372036854775808 ≤ n ∧ n ≤ 9223372036854775807) :
    Calls Try.prog 9 #[.pointer (some ⟨d.b, 0, none⟩), .slice ka keep.length kcap] w (DiskPost d (D.crash keep) (.tuple #[]) w) := by
  unfold maxLen at hkm
  have hd1 := h
  obtain ⟨c0, c1, c2, c3, c4, cf⟩ := hd1.cells
  have hstart : CrashAt d D keep w 0 w := ⟨by simpa [tearAll] using hd1.hl, Chg.refl _ _⟩
  have CF := hid cf
  clear cf c1 c3 c4
  rcases hd1.pending with ⟨hv, hnil⟩ | ⟨g, cap, hv, hg, hpr⟩
  · have hFe : CrashAt d D keep w D.pend.length w := by rw [hnil]; exact hstart
    obtain ⟨z0, z1, z2, z3, z4, z5, z6, z7⟩ := hd1.crash_end hFe
    rw [hv] at z2
    have f2 := z7 2
    have f3 := z7 3
    have f4 := z7 4
    have nbn : ¬ d.b = d.bn := hd1.nbn
    clear hv hnil z7 c0 c2
    go_enter Try.func9, Try.ntmps9
    go_wp2_with fail
    refine wp_loop_rounds 1 ?_
    rw [rounds_succ]
    go_wp2_with fail
    go_region
    go_wp2
    go_end0
    exact hd1.crash_close hFe
  · rw [hv] at c2
    have HV := hid hv
    have hgl : g ≠ d.bl := fun e => hd1.npl (by rw [hv, e]; rfl)
    clear hv
    have HPR := hid hpr
    clear hpr
    have hm : D.pend.length ≤ 1000000000 := hd1.ok.few
    go_enter Try.func9, Try.ntmps9
    go_wp2_with fail
    go_loopw [14] (fun i wr => ∃ k : Nat, k ≤ D.pend.length ∧ i = .int .i64 k ∧ CrashAt d D keep w k wr) (fun i _ => D.pend.length - (intOf i).toNat)
    case atStart => exact ⟨0, Nat.zero_le _, rfl, hstart⟩
    case round =>
      obtain ⟨k, hk, rfl, hF⟩ := hrel
      by_cases hlt : k < D.pend.length
      · have hF0 := hF
        obtain ⟨hl, hc⟩ := hF
        obtain ⟨p, hp⟩ : ∃ p, p = D.pend.getD k (0, []) := ⟨_, rfl⟩
        have hpm : p ∈ D.pend := by rw [hp, getD_lt hlt]; exact List.getElem_mem hlt
        obtain ⟨q1, q2⟩ := hd1.ok.pend64 p hpm
        have hrow := HPR.out k hlt
        rw [← hp] at hrow
        have hplen : (prow p).length = 65 := by simp [prow, length_bcells, q2]
        have hpone : allOne (prow p).toArray = true := allOne_list (fun v hv => by rcases List.mem_cons.1 hv with rfl | hv; rfl; exact bcells_one _ v hv)
        obtain ⟨r1, r2⟩ := cellsAt_of_range hrow
        rw [hplen] at r1 r2
        have hgw : wr.heap[g]? = w.heap[g]? := hc.block _ hg hgl
        rw [← cellsAt_same hgw] at r1
        rw [← hasCells_same hgw] at r2
        have gsz : g < wr.heap.size := Nat.lt_of_lt_of_le hg hc.size
        have z1 : hasCells (wr.alloc (.cells zeroChange 57)) wr.heap.size 0 65 = true := hasCells_iff.2 (fun j hj => by
          rw [cell_of_row (wr.alloc (.cells zeroChange 57)) wr.heap.size (0 + j) zeroChange _ (0, 0) (heap_alloc_new wr _)]
          simp [zeroChange]; omega)
        have z2 : freeCells (wr.alloc (.cells zeroChange 57)) wr.heap.size 0 65 = true := freeCells_iff.2 (fun j hj => frozen_of_row _ _ _ _ _ (heap_alloc_new wr _))
        have hk1 : ((k : Nat) : Int) < (D.pend.length : Int) := by omega
        have hk0 : (0 : Int) ≤ (k : Int) := by omega
        have HP := hid hp
        have HG := hid hgw
        clear hp hgw hrow c2 c0
        go_upto_if 22 with (with_reducible refine wpList_alloc_agg rfl 57 rfl zeroChange 65 72 infoChange ?_)
        generalize hW : (wr.alloc (.cells zeroChange 57)).setCells wr.heap.size 0 (prow p) = w5
        obtain ⟨h5, o5, c5⟩ := var_change hplen hW
        have s5 : wr.heap.size < w5.heap.size := lt_of_block h5
        clear hW
        have lb : d.b < wr.heap.size := Nat.lt_of_lt_of_le (hd1.lt _ (.inl rfl)) hc.size
        have ll : d.bl < wr.heap.size := lt_of_block hl
        have nb : ¬ d.b = d.bl := hd1.nbl
        have nw : ¬ wr.heap.size = d.bl := by omega
        have eb : w5.heap[d.b]? = w.heap[d.b]? := (o5 _ lb).trans (hc.block _ (hd1.lt _ (.inl rfl)) hd1.nbl)
        have m0 : w5.cell? ⟨d.b, 0, none⟩ = some (.slice (some ⟨d.bl, 0, none⟩) D.now.length D.now.length) := by rw [cell_of_same eb]; exact hd1.cells.1
        have m1 : w5.cell? ⟨wr.heap.size, 0, none⟩ = some (.int .i64 (p.1 : Int)) := by rw [cell_of_list h5]; rfl
        have hcw : Hid (∀ (hkl : k < keep.length), ∃ x, ka = some x ∧ w5.cell? (x.add k) = some (.int .i64 keep[k])) := by
          intro hkl
          obtain ⟨x, rfl, hcell⟩ := hka k keep[k] (List.getElem?_eq_getElem hkl)
          have hxb : (x.add k).block = x.block := by unfold Addr.add; split <;> rfl
          have hl1 := block_lt_of_cell hcell
          refine ⟨x, rfl, ?_⟩
          rw [World.cell?_of_block ((o5 _ (Nat.lt_of_lt_of_le hl1 hc.size)).trans (hc.block _ hl1 (fun e => hkF (fun e0 => by rw [e0] at hkl; simp at hkl) x rfl (by rw [← hxb, e]; exact .inr (.inl rfl)))))]
          exact hcell
        have hka0 := hid hka
        have hkF0 := hid hkF
        have hkr0 := hid hkr
        clear hka hkF hkr
        go_cut [6] (fun s6 wx => s6 = .int .i64 ((kept keep k : Nat) : Int) ∧ wx = w5)
        case first =>
          by_cases hkl : k < keep.length
          · obtain ⟨x, rfl, hcell⟩ := hcw.out hkl
            have hkk : ((k : Nat) : Int) < (keep.length : Int) := by omega
            go_wp2_with fail
            all_goals go_meet
            all_goals exact ⟨by simp only [kept, getD_lt hkl, Value.int.injEq, true_and]; omega, rfl⟩
          · have hkk : ¬ ((k : Nat) : Int) < (keep.length : Int) := by omega
            go_wp2_with fail
            go_meet
            exact ⟨by simp [kept, List.getElem?_eq_none (Nat.le_of_not_lt hkl)]; decide, rfl⟩
        case rest =>
          obtain ⟨rfl, rfl⟩ := hcut
          have hn64 : kept keep k ≤ 64 := kept_le _ _
          generalize hnn : kept keep k = n at *
          have hn64' : ((n : Nat) : Int) ≤ 64 := by omega
          have hn0 : (0 : Int) ≤ (n : Int) := by omega
          obtain ⟨f1, f2, f3, f4, f5⟩ := crash_facts (n := n) h5 ((o5 _ ll).trans hl) hn64 q2 (by rw [length_tearAll, hd1.ok.len]; exact q1) (all64_tearAll keep _ 0 _ hd1.ok.las64 (fun q hq => by rw [hd1.ok.len]; exact hd1.ok.pend64 q (List.mem_of_mem_take hq)))
          have q3 : ((p.1 : Nat) : Int) < (D.now.length : Int) := by omega
          have q0 : (0 : Int) ≤ (p.1 : Int) := by omega
          have C5 := hid c5
          have O5 := hid o5
          have H5 := hid h5
          have QH := hid q2
          have PL := hid hplen
          have HN := hid hnn
          clear o5 h5 eb q2 hplen r1 r2 z1 z2 hpone hl c5 hnn
          go_wp2_with fail
          go_region
          go_wp2
          go_roundw
          case rel => exact ⟨k + 1, by omega, by go_num, hF0.crash_step hlt hd1 HP.out HN.out O5.out C5.out⟩
          case measure => simp [intOf]; omega
      · have hkn : k = D.pend.length := by omega
        have hx : ((k : Nat) : Int) ≥ (D.pend.length : Int) := by omega
        have hFe : CrashAt d D keep w D.pend.length wr := by rw [← hkn]; exact hF
        obtain ⟨z0, z1, z2, z3, z4, z5, z6, z7⟩ := hd1.crash_end hFe
        have f2 := z7 2
        have f3 := z7 3
        have f4 := z7 4
        have nbn : ¬ d.b = d.bn := hd1.nbn
        clear hkn z7 c0 c2
        go_wp2_with fail
        go_region
        go_wp2
        go_end0
        exact hd1.crash_close hFe
end Go.Proofs.Ytpgagihkicedeaa
