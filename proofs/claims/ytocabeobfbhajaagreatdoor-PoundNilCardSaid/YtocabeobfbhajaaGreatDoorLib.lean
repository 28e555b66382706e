/- Plain lemmas on worlds, blocks, footprints and rows of rows. No program is named here. -/
import Derived.WalkKit
import Derived.WalkSpells
import Derived.WalkLawsBesides
import Derived.Deep.MidRow
import Derived.Deep.AppendLies
import Derived.Laws.CopyOwn
namespace Go.Proofs.YtocabeobfbhajaaGreatDoor
open Go Go.RowKit

/-- A fact is put behind a name that the walk does not look behind. -/
theorem hid {p : Prop} (h : p) : Hid p := h

/-! ### What a call may have changed -/
/-- Outside of F nothing that was there has changed; the streams are as they were. -/
structure Chg (F : Nat → Prop) (w w' : World) : Prop where
  os : w'.os = w.os
  tape : w'.tape = w.tape
  output : w'.output = w.output
  size : w.heap.size ≤ w'.heap.size
  block : ∀ k, k < w.heap.size → ¬ F k → w'.heap[k]? = w.heap[k]?

theorem Chg.refl (F : Nat → Prop) (w : World) : Chg F w w := ⟨rfl, rfl, rfl, Nat.le_refl _, fun _ _ _ => rfl⟩
theorem Chg.trans {F G : Nat → Prop} {a b c : World} (h : Chg F a b) (k : Chg G b c) (hg : ∀ i, i < a.heap.size → G i → F i) : Chg F a c :=
  ⟨k.os.trans h.os, k.tape.trans h.tape, k.output.trans h.output, Nat.le_trans h.size k.size, fun i hi hf => (k.block i (Nat.lt_of_lt_of_le hi h.size) (fun hG => hf (hg i hi hG))).trans (h.block i hi hf)⟩
theorem Chg.mono {F G : Nat → Prop} {a b : World} (h : Chg F a b) (hg : ∀ i, i < a.heap.size → F i → G i) : Chg G a b :=
  ⟨h.os, h.tape, h.output, h.size, fun i hi hf => h.block i hi fun hF => hf (hg i hi hF)⟩
theorem Chg.drew {F : Nat → Prop} {a b : World} (h : Chg F a b) : Chg F a b.drew := ⟨h.os, h.tape, h.output, h.size, h.block⟩
theorem Chg.alloc {F : Nat → Prop} {a b : World} (h : Chg F a b) (o : Obj) : Chg F a (b.alloc o) :=
  h.trans (G := fun _ => False) ⟨rfl, rfl, rfl, by simp, fun k hk _ => Below.heap_alloc _ _ _ hk⟩ (fun _ _ h => h.elim)
theorem Chg.setCell {F : Nat → Prop} {a b : World} (h : Chg F a b) {p : Addr} (hp : p.block < a.heap.size → F p.block) (u : Value) : Chg F a (b.setCell p u) :=
  h.trans (G := fun k => k = p.block) ⟨rfl, rfl, rfl, by simp [World.setCell], fun k _ hk => Below.heap_setCell _ _ _ _ hk⟩ (fun i hi e => by subst e; exact hp hi)
theorem Chg.one (w : World) (b i : Nat) (v : Value) : Chg (fun k => k = b) w (w.setCell ⟨b, i, none⟩ v) := (Chg.refl (fun k => k = b) w).setCell (p := ⟨b, i, none⟩) (fun _ => rfl) v
theorem heap_setCells_other (b : Nat) : ∀ (vs : List Value) (o : Nat) (w : World) (k : Nat), k ≠ b → (w.setCells b o vs).heap[k]? = w.heap[k]?
  | [], _, _, _, _ => rfl
  | v :: r, o, w, k, h => by rw [World.setCells, heap_setCells_other b r (o + 1) _ k h]; exact Below.heap_setCell _ _ _ _ h
theorem size_setCells (b : Nat) : ∀ (vs : List Value) (o : Nat) (w : World), (w.setCells b o vs).heap.size = w.heap.size
  | [], _, _ => rfl
  | v :: r, o, w => by rw [World.setCells, size_setCells b r]; simp [World.setCell]
theorem rest_setCells (b : Nat) : ∀ (vs : List Value) (o : Nat) (w : World), (w.setCells b o vs).os = w.os ∧ (w.setCells b o vs).tape = w.tape ∧ (w.setCells b o vs).output = w.output
  | [], _, _ => ⟨rfl, rfl, rfl⟩
  | v :: r, o, w => by rw [World.setCells]; exact rest_setCells b r (o + 1) _
theorem Chg.setCells {F : Nat → Prop} {a b : World} (h : Chg F a b) {p : Nat} (hp : p < a.heap.size → F p) (o : Nat) (vs : List Value) : Chg F a (b.setCells p o vs) :=
  h.trans (G := fun k => k = p) ⟨(rest_setCells _ _ _ _).1, (rest_setCells _ _ _ _).2.1, (rest_setCells _ _ _ _).2.2, by rw [size_setCells]; exact Nat.le_refl _, fun k _ hk => heap_setCells_other _ _ _ _ _ hk⟩ (fun i hi e => by subst e; exact hp hi)
theorem Chg.grown {F : Nat → Prop} {a b c : World} (h : Chg F a b) {row : Option Nat} (hg : b.grownBy c row) (hr : ∀ k, row = some k → k < a.heap.size → F k) : Chg F a c :=
  h.trans (G := fun k => row = some k) ⟨hg.os, hg.tape, hg.output, hg.size, fun k hk hn => hg.block k hk (fun e => hn e.symm)⟩ (fun i hi e => hr i e hi)
theorem Chg.below {w w' : World} (h : Chg (fun _ => False) w w') : Below w.heap.size w w' := ⟨h.os, h.tape, h.output, h.size, fun k hk => h.block k hk id⟩
theorem Chg.of_below {F : Nat → Prop} {w w' : World} (h : Below w.heap.size w w') : Chg F w w' := ⟨h.os, h.tape, h.output, h.size, fun k hk _ => h.block k hk⟩
theorem Chg.belowB {F : Nat → Prop} {B : Nat} {w w' : World} (h : Chg F w w') (hB : ∀ k, F k → B ≤ k) (hs : B ≤ w.heap.size) : Below B w w' :=
  ⟨h.os, h.tape, h.output, h.size, fun k hk => h.block k (by omega) fun hf => by have := hB k hf; omega⟩

/-! ### Blocks of a world -/
theorem lt_of_block {w : World} {k : Nat} {o : Obj} (h : w.heap[k]? = some o) : k < w.heap.size := by
  rcases Nat.lt_or_ge k w.heap.size with hlt | hge
  · exact hlt
  · rw [Array.getElem?_eq_none hge] at h; cases h
theorem heap_alloc_get (w : World) (o : Obj) (k : Nat) : (w.alloc o).heap[k]? = if k = w.heap.size then some o else w.heap[k]? := by
  show (w.heap.push o)[k]? = _
  rw [Array.getElem?_push]
/-- A block with one cell changed. -/
def setAt (i : Nat) (v : Value) : Obj → Obj
  | .cells c e f => .cells (c.setIfInBounds i v) e f
  | o => o
theorem heap_setCell_get (w : World) (b i : Nat) (v : Value) (k : Nat) : (w.setCell ⟨b, i, none⟩ v).heap[k]? = if k = b then (w.heap[k]?).map (setAt i v) else w.heap[k]? := by
  simp only [World.setCell, Array.getElem?_modify]
  by_cases h : b = k
  · subst h
    simp only [if_true]
    congr 1
  · rw [if_neg h, if_neg (fun e => h e.symm)]
theorem heap_setCell_lit {w : World} {b : Nat} {c : Array Value} {t : TypeId} {f : Nat × Nat} (h : w.heap[b]? = some (.cells c t f)) (i : Nat) (v : Value) :
    (w.setCell ⟨b, i, none⟩ v).heap[b]? = some (.cells (c.setIfInBounds i v) t f) := by
  rw [heap_setCell_get, if_pos rfl, h]; rfl
theorem set_splice (L : List Value) (o : Nat) (v : Value) (r : List Value) (h : o < L.length) : splice (L.set o v) (o + 1) r = splice L o (v :: r) := by
  unfold splice
  have h1 : (L.set o v).take (o + 1) = L.take o ++ [v] := by
    rw [List.take_set, List.take_succ_eq_append_getElem h, List.set_append_right _ _ (by simp; omega)]
    simp [Nat.min_eq_left (Nat.le_of_lt h)]
  have h2 : (L.set o v).drop (o + 1 + r.length) = L.drop (o + (v :: r).length) := by
    rw [List.drop_set_of_lt (by omega), show o + 1 + r.length = o + (v :: r).length by simp; omega]
  rw [h1, h2]; simp
theorem heap_setCells_same (b : Nat) (t : TypeId) : ∀ (vs : List Value) (o : Nat) (w : World) (L : List Value), w.heap[b]? = some (.cells L.toArray t (0, 0)) → o + vs.length ≤ L.length →
    (w.setCells b o vs).heap[b]? = some (.cells (splice L o vs).toArray t (0, 0))
  | [], o, w, L, h, _ => by rw [World.setCells, h]; simp [splice]
  | v :: r, o, w, L, h, hl => by
    simp only [List.length_cons] at hl
    rw [World.setCells, heap_setCells_same b t r (o + 1) _ (L.set o v) (by rw [heap_setCell_lit h]; simp) (by simp; omega), set_splice _ _ _ _ (by omega)]
theorem there_of_block {w : World} {b : Nat} {c : Array Value} {t : TypeId} (h : w.heap[b]? = some (.cells c t (0, 0))) (o n : Nat) (hn : o + n ≤ c.size) : w.there b o n := fun j hj => by
  constructor
  · simp [World.cell?, h]; omega
  · simp [World.frozen?, h]
theorem cell_of_list {w : World} {b : Nat} {L : List Value} {t : TypeId} {f : Nat × Nat} (h : w.heap[b]? = some (.cells L.toArray t f)) (j : Nat) : w.cell? ⟨b, j, none⟩ = L[j]? := by
  simp [World.cell?, h]

theorem foldl_set_list : ∀ (cs : List Value) (off k : Nat) (A : Array Value), off + k + cs.length ≤ A.size →
    (cs.zipIdx k).foldl (fun (A : Array Value) (p : Value × Nat) => A.setIfInBounds (off + p.2) p.1) A = (splice A.toList (off + k) cs).toArray
  | [], off, k, A, _ => by simp [splice]
  | c :: cs, off, k, A, h => by
    simp only [List.length_cons] at h
    rw [List.zipIdx_cons, List.foldl_cons, foldl_set_list cs off (k + 1) _ (by simp; omega)]
    simp only [Array.toList_setIfInBounds]
    rw [show off + (k + 1) = off + k + 1 by omega, set_splice _ _ _ _ (by simp; omega)]
theorem foldl_set (cs : List Value) (off : Nat) (A : Array Value) (h : off + cs.length ≤ A.size) :
    cs.toArray.zipIdx.foldl (fun (A : Array Value) (p : Value × Nat) => A.setIfInBounds (off + p.2) p.1) A = (splice A.toList off cs).toArray := by
  have := foldl_set_list cs off 0 A (by simpa using h)
  rw [← Array.foldl_toList, Array.toList_zipIdx]
  simpa using this

theorem getD_lt {α : Type} {l : List α} {i : Nat} (h : i < l.length) (d : α) : l.getD i d = l[i] := by simp [List.getD, List.getElem?_eq_getElem h]

/-! ### Rows of k cells each, one behind the other -/
def AllLen (k : Nat) (R : List (List Value)) : Prop := ∀ r ∈ R, r.length = k
theorem AllLen.nil (k : Nat) : AllLen k [] := fun _ h => by cases h
theorem AllLen.tail {k : Nat} {r : List Value} {R : List (List Value)} (h : AllLen k (r :: R)) : AllLen k R := fun x hx => h x (List.mem_cons_of_mem _ hx)
theorem AllLen.flatten {k : Nat} : ∀ {R : List (List Value)}, AllLen k R → R.flatten.length = R.length * k
  | [], _ => by simp
  | r :: R, h => by
    rw [List.flatten_cons, List.length_append, AllLen.flatten h.tail, h r (by simp), List.length_cons, Nat.add_mul, Nat.one_mul, Nat.add_comm]
theorem AllLen.set {k : Nat} {R : List (List Value)} (h : AllLen k R) (i : Nat) {s : List Value} (hs : s.length = k) : AllLen k (R.set i s) := fun x hx => by
  rcases List.mem_or_eq_of_mem_set hx with h' | h'
  · exact h x h'
  · rw [h', hs]
theorem AllLen.append {k : Nat} {R S : List (List Value)} (h : AllLen k R) (g : AllLen k S) : AllLen k (R ++ S) := fun x hx => by
  rcases List.mem_append.1 hx with h' | h'
  · exact h x h'
  · exact g x h'
theorem AllLen.one {k : Nat} {s : List Value} (hs : s.length = k) : AllLen k [s] := fun x hx => by simp at hx; rw [hx, hs]
theorem AllLen.drop {k : Nat} : ∀ {R : List (List Value)} (i : Nat), AllLen k R → R.flatten.drop (i * k) = (R.drop i).flatten
  | R, 0, _ => by simp
  | [], i + 1, _ => by simp
  | r :: R, i + 1, h => by
    have hr : r.length = k := h r (by simp)
    rw [List.flatten_cons, List.drop_succ_cons, ← AllLen.drop i h.tail, List.drop_append, hr, List.drop_eq_nil_of_le (by rw [hr, Nat.add_mul]; omega), List.nil_append]
    congr 1
    rw [Nat.add_mul, Nat.one_mul]; omega
theorem AllLen.take {k : Nat} : ∀ {R : List (List Value)} (i : Nat), AllLen k R → R.flatten.take (i * k) = (R.take i).flatten
  | R, 0, _ => by simp
  | [], i + 1, _ => by simp
  | r :: R, i + 1, h => by
    have hr : r.length = k := h r (by simp)
    rw [List.flatten_cons, List.take_succ_cons, List.flatten_cons, ← AllLen.take i h.tail, List.take_append, hr, List.take_of_length_le (by rw [hr, Nat.add_mul]; omega)]
    congr 2
    rw [Nat.add_mul, Nat.one_mul]; omega
/-- The row i lies at i * k. -/
theorem AllLen.row {k : Nat} {R : List (List Value)} (h : AllLen k R) (i : Nat) (hi : i < R.length) : (R.flatten.drop (i * k)).take k = R[i] := by
  rw [h.drop i, List.drop_eq_getElem_cons hi, List.flatten_cons, List.take_append_of_le_length (by rw [h _ (List.getElem_mem hi)]; exact Nat.le_refl _), List.take_of_length_le (by rw [h _ (List.getElem_mem hi)]; exact Nat.le_refl _)]
theorem AllLen.rowcell {k : Nat} {R : List (List Value)} (h : AllLen k R) (i : Nat) (hi : i < R.length) (j : Nat) (v : Value) (hv : (R[i])[j]? = some v) : R.flatten[i * k + j]? = some v := by
  rw [← h.row i hi, List.getElem?_take] at hv
  split at hv
  · rwa [List.getElem?_drop] at hv
  · cases hv
theorem AllLen.splice {k : Nat} {R : List (List Value)} (h : AllLen k R) (i : Nat) (hi : i < R.length) {s : List Value} (hs : s.length = k) : splice R.flatten (i * k) s = (R.set i s).flatten := by
  unfold Go.splice
  rw [hs, h.take i, show i * k + k = (i + 1) * k by rw [Nat.add_mul, Nat.one_mul], h.drop (i + 1), List.set_eq_take_append_cons_drop, if_pos hi]
  simp
theorem range_of_rows {w : World} {b k : Nat} {R : List (List Value)} {t : TypeId} {f : Nat × Nat} (hb : w.heap[b]? = some (.cells R.flatten.toArray t f)) (h : AllLen k R) (i : Nat) (hi : i < R.length) :
    w.rangeAt b (i * k) R[i] := fun j v hv => by
  rw [cell_of_list hb]; exact h.rowcell i hi j v hv
/-- A row of a block of rows is written anew. -/
theorem heap_setRowOf {w : World} {b k : Nat} {R : List (List Value)} {t : TypeId} (hb : w.heap[b]? = some (.cells R.flatten.toArray t (0, 0))) (h : AllLen k R) (i : Nat) (hi : i < R.length) {s : List Value} (hs : s.length = k) :
    (w.setCells b (i * k) s).heap[b]? = some (.cells (R.set i s).flatten.toArray t (0, 0)) := by
  rw [heap_setCells_same b t s (i * k) w _ hb, h.splice i hi hs]
  rw [h.flatten, hs]
  have : (i + 1) * k ≤ R.length * k := Nat.mul_le_mul_right k hi
  rw [Nat.add_mul] at this; omega
theorem there_of_rows {w : World} {b k : Nat} {R : List (List Value)} {t : TypeId} (hb : w.heap[b]? = some (.cells R.flatten.toArray t (0, 0))) (h : AllLen k R) (i : Nat) (hi : i < R.length) :
    w.there b (i * k) k := there_of_block hb _ _ (by
  simp only [List.size_toArray]
  rw [h.flatten]
  have : (i + 1) * k ≤ R.length * k := Nat.mul_le_mul_right k hi
  rw [Nat.add_mul] at this; omega)

/-! ### Bytes -/
/-- A byte as a cell. -/
def bcell (b : UInt8) : Value := .int .u8 (b.toNat : Int)
def bcells (s : List UInt8) : List Value := s.map bcell
theorem length_bcells (s : List UInt8) : (bcells s).length = s.length := by simp [bcells]
theorem bcells_one (s : List UInt8) : ∀ v ∈ bcells s, v.oneCell' = true := fun v hv => by
  obtain ⟨b, _, rfl⟩ := List.mem_map.1 hv; rfl
theorem bcells_append (s t : List UInt8) : bcells (s ++ t) = bcells s ++ bcells t := by simp [bcells]
theorem bcells_get (s : List UInt8) (j : Nat) : (bcells s)[j]? = (s[j]?).map bcell := by simp [bcells]
theorem bcells_take (s : List UInt8) (j : Nat) : bcells (s.take j) = (bcells s).take j := by simp [bcells, List.map_take]
theorem bcells_drop (s : List UInt8) (j : Nat) : bcells (s.drop j) = (bcells s).drop j := by simp [bcells, List.map_drop]
theorem bcell_inj {a b : UInt8} (h : bcell a = bcell b) : a = b := by
  simp only [bcell, Value.int.injEq, true_and] at h
  exact UInt8.toNat_inj.1 (by omega)
/-- A slice of bytes with the address a reads as s. -/
def BytesAt (w : World) (a : Option Addr) (s : List UInt8) : Prop := ∀ j c, (bcells s)[j]? = some c → ∃ x, a = some x ∧ w.cell? (x.add j) = some c
theorem BytesAt.nil (w : World) (a : Option Addr) : BytesAt w a [] := fun j c h => by simp [bcells] at h
theorem BytesAt.below {w w' : World} {a : Option Addr} {s : List UInt8} (h : BytesAt w a s) {B : Nat} (hb : Below B w w') (ha : s ≠ [] → ∀ x, a = some x → x.block < B) : BytesAt w' a s := fun j c hj => by
  have hs : s ≠ [] := fun e => by rw [e] at hj; simp [bcells] at hj
  obtain ⟨x, rfl, hx⟩ := h j c hj
  refine ⟨x, rfl, ?_⟩
  rw [hb.cell (p := x.add j) (by have := ha hs x rfl; unfold Addr.add; split <;> simpa using this)]
  exact hx
theorem BytesAt.chg {w w' : World} {a : Option Addr} {s : List UInt8} (h : BytesAt w a s) {F : Nat → Prop} (hc : Chg F w w') (ha : s ≠ [] → ∀ x, a = some x → ¬ F x.block) : BytesAt w' a s := fun j c hj => by
  have hs : s ≠ [] := fun e => by rw [e] at hj; simp [bcells] at hj
  obtain ⟨x, rfl, hx⟩ := h j c hj
  have hb : (x.add j).block = x.block := by unfold Addr.add; split <;> rfl
  have hl := block_lt_of_cell hx
  refine ⟨x, rfl, ?_⟩
  rw [World.cell?_of_block (hc.block _ hl (by rw [hb]; exact ha hs x rfl))]
  exact hx
theorem BytesAt.lt {w : World} {a : Option Addr} {s : List UInt8} (h : BytesAt w a s) (hs : s ≠ []) : ∃ x, a = some x ∧ x.block < w.heap.size := by
  cases s with
  | nil => exact absurd rfl hs
  | cons b s =>
    obtain ⟨x, rfl, hx⟩ := h 0 (bcell b) (by simp [bcells])
    exact ⟨x, rfl, by simpa [Addr.add] using block_lt_of_cell hx⟩

/-! ### Laws of single operations -/
section
variable {P : Program} {ops : Array Oper} {rest : List Oper} {o : Oper} {a : Act} {w : World} {Q : Exit → Act → World → Prop}
/-- A new variable of a type of many cells: its zero value stands under a name. -/
theorem wpList_alloc_agg (hgd : o.guard = none) (T : TypeId) (ho : o.op = .alloc T) (z : Array Value) (size bytes : Nat) (hz : (P.info? T).map (fun i => (i.zero, i.size, i.bytes)) = some (some (.agg z), size, bytes))
    (h : wpList P ops Q rest (a.put o.dst (.pointer (some ⟨w.heap.size, 0, none⟩))) (w.alloc (.cells z T))) : wpList P ops Q (o :: rest) a w := by
  obtain ⟨i0, hi, hz0, _, _⟩ := info_parts hz
  refine wpList_plain hgd fun K hK => ?_
  have hr : (Instr.alloc T true (.tuple #[])).run P w = .ok (.pointer (some ⟨w.heap.size, 0, none⟩)) (w.alloc (.cells z T)) := by
    simp only [Instr.alloc, Sem.run_bind, zeroValue, typeInfo, run_program, hi, Sem.run_pure, Result.andThen_ok, hz0, newVar, newRow, Value.cells, run_newObj]
    rfl
  unfold Oper.wp execOp
  simp only [ho, Sem.run_bind, hr, Result.andThen_ok, Sem.run_pure]
  exact hK _ _ h
end

/-! ### Many cells at once, as functions of a world -/
def cellsAt (w : World) (b o n : Nat) : Array Value := ((List.range n).map fun j => (w.cell? ⟨b, o + j, none⟩).getD undef).toArray
def hasCells (w : World) (b o n : Nat) : Bool := (List.range n).all fun j => (w.cell? ⟨b, o + j, none⟩).isSome
def freeCells (w : World) (b o n : Nat) : Bool := (List.range n).all fun j => !(w.frozen? ⟨b, o + j, none⟩)
def ptrB : Value → Nat | .pointer (some a) => a.block | _ => 0
def ptrO : Value → Nat | .pointer (some a) => a.off | _ => 0
def ptrOk : Value → Bool | .pointer (some a) => a.spot.isNone | _ => false
@[go_sem] theorem ptrB_mk (b o : Nat) (s : Option Nat) : ptrB (.pointer (some ⟨b, o, s⟩)) = b := rfl
@[go_sem] theorem ptrO_mk (b o : Nat) (s : Option Nat) : ptrO (.pointer (some ⟨b, o, s⟩)) = o := rfl
@[go_sem] theorem ptrOk_mk (b o : Nat) : ptrOk (.pointer (some ⟨b, o, none⟩)) = true := rfl
theorem hasCells_iff {w : World} {b o n : Nat} : hasCells w b o n = true ↔ ∀ j, j < n → (w.cell? ⟨b, o + j, none⟩).isSome = true := by
  unfold hasCells; rw [List.all_eq_true]; exact ⟨fun h j hj => h j (List.mem_range.2 hj), fun h j hj => h j (List.mem_range.1 hj)⟩
theorem freeCells_iff {w : World} {b o n : Nat} : freeCells w b o n = true ↔ ∀ j, j < n → w.frozen? ⟨b, o + j, none⟩ = false := by
  unfold freeCells; rw [List.all_eq_true]
  exact ⟨fun h j hj => by simpa using h j (List.mem_range.2 hj), fun h j hj => by simpa using h j (List.mem_range.1 hj)⟩
theorem size_cellsAt (w : World) (b o n : Nat) : (cellsAt w b o n).size = n := by simp [cellsAt]
theorem rangeAt_cellsAt {w : World} {b o n : Nat} (h : hasCells w b o n = true) : w.rangeAt b o (cellsAt w b o n).toList := fun j v hv => by
  have hj : j < n := by have := (List.getElem?_eq_some_iff.1 hv).1; simpa [size_cellsAt] using this
  have h1 := hasCells_iff.1 h j hj
  obtain ⟨u, hu⟩ := Option.isSome_iff_exists.1 h1
  simp [cellsAt, hj, hu] at hv
  rw [hu, hv]
theorem cellsAt_of_range {w : World} {b o : Nat} {cs : List Value} (h : w.rangeAt b o cs) : cellsAt w b o cs.length = cs.toArray ∧ hasCells w b o cs.length = true := by
  constructor
  · apply Array.ext
    · simp [size_cellsAt]
    · intro j h1 h2
      have hj : j < cs.length := by simpa using h2
      simp [cellsAt, h j cs[j] (List.getElem?_eq_getElem hj)]
  · exact hasCells_iff.2 fun j hj => by rw [h j _ (List.getElem?_eq_getElem hj)]; rfl
@[go_sem] theorem cellsAt_drew (w : World) (b o n : Nat) : cellsAt w.drew b o n = cellsAt w b o n := rfl
@[go_sem] theorem hasCells_drew (w : World) (b o n : Nat) : hasCells w.drew b o n = hasCells w b o n := rfl
@[go_sem] theorem freeCells_drew (w : World) (b o n : Nat) : freeCells w.drew b o n = freeCells w b o n := rfl
theorem cell_of_same {w w' : World} {b : Nat} (h : w'.heap[b]? = w.heap[b]?) (o : Nat) : w'.cell? ⟨b, o, none⟩ = w.cell? ⟨b, o, none⟩ := World.cell?_of_block (a := ⟨b, o, none⟩) h
theorem frozen_of_same {w w' : World} {b : Nat} (h : w'.heap[b]? = w.heap[b]?) (o : Nat) : w'.frozen? ⟨b, o, none⟩ = w.frozen? ⟨b, o, none⟩ := World.frozen?_of_block (a := ⟨b, o, none⟩) h
theorem cellsAt_same {w w' : World} {b : Nat} (h : w'.heap[b]? = w.heap[b]?) (o n : Nat) : cellsAt w' b o n = cellsAt w b o n := by
  unfold cellsAt; congr 1; apply List.map_congr_left; intro j _; rw [cell_of_same h]
theorem hasCells_same {w w' : World} {b : Nat} (h : w'.heap[b]? = w.heap[b]?) (o n : Nat) : hasCells w' b o n = hasCells w b o n := by
  unfold hasCells; congr 1; funext j; rw [cell_of_same h]
theorem freeCells_same {w w' : World} {b : Nat} (h : w'.heap[b]? = w.heap[b]?) (o n : Nat) : freeCells w' b o n = freeCells w b o n := by
  unfold freeCells; congr 1; funext j; rw [frozen_of_same h]
@[go_sem] theorem cellsAt_alloc (w : World) (ob : Obj) (b o n : Nat) (h : b < w.heap.size) : cellsAt (w.alloc ob) b o n = cellsAt w b o n := cellsAt_same (Below.heap_alloc _ _ _ h) _ _
@[go_sem] theorem hasCells_alloc (w : World) (ob : Obj) (b o n : Nat) (h : b < w.heap.size) : hasCells (w.alloc ob) b o n = hasCells w b o n := hasCells_same (Below.heap_alloc _ _ _ h) _ _
@[go_sem] theorem freeCells_alloc (w : World) (ob : Obj) (b o n : Nat) (h : b < w.heap.size) : freeCells (w.alloc ob) b o n = freeCells w b o n := freeCells_same (Below.heap_alloc _ _ _ h) _ _
@[go_sem] theorem cellsAt_setCell (w : World) (a : Addr) (v : Value) (b o n : Nat) (h : b ≠ a.block) : cellsAt (w.setCell a v) b o n = cellsAt w b o n := cellsAt_same (Below.heap_setCell _ _ _ _ h) _ _
@[go_sem] theorem hasCells_setCell (w : World) (a : Addr) (v : Value) (b o n : Nat) (h : b ≠ a.block) : hasCells (w.setCell a v) b o n = hasCells w b o n := hasCells_same (Below.heap_setCell _ _ _ _ h) _ _
@[go_sem] theorem freeCells_setCell (w : World) (a : Addr) (v : Value) (b o n : Nat) (h : b ≠ a.block) : freeCells (w.setCell a v) b o n = freeCells w b o n := freeCells_same (Below.heap_setCell _ _ _ _ h) _ _
def slB : Value → Nat | .slice (some a) _ _ => a.block | _ => 0
def slO : Value → Nat | .slice (some a) _ _ => a.off | _ => 0
def slLen : Value → Nat | .slice _ n _ => n | _ => 0
def slOk : Value → Bool | .slice (some a) _ _ => a.spot.isNone | _ => false
@[go_sem] theorem slB_mk (b o : Nat) (s : Option Nat) (n c : Nat) : slB (.slice (some ⟨b, o, s⟩) n c) = b := rfl
@[go_sem] theorem slO_mk (b o : Nat) (s : Option Nat) (n c : Nat) : slO (.slice (some ⟨b, o, s⟩) n c) = o := rfl
@[go_sem] theorem slLen_mk (a : Option Addr) (n c : Nat) : slLen (.slice a n c) = n := rfl
@[go_sem] theorem slOk_mk (b o n c : Nat) : slOk (.slice (some ⟨b, o, none⟩) n c) = true := rfl
/-- Each cell is one cell: under a name, so that the walk leaves it standing. -/
def allOne (A : Array Value) : Bool := A.all (·.oneCell')
theorem allOne_list {cs : List Value} (h : ∀ v ∈ cs, v.oneCell' = true) : allOne cs.toArray = true := all_oneCell_toArray h
theorem agg_of_size {v : Value} (h : v.cells.size ≠ 1) : ∃ cs : List Value, v = .agg cs.toArray ∧ v.cells = cs.toArray := by
  cases v <;> first | exact absurd rfl h | exact ⟨_, by rw [Array.toArray_toList], by rw [Array.toArray_toList]; rfl⟩
@[go_sem] theorem cell_setCells_ne (w : World) (b o c j : Nat) (vs : List Value) (h : c ≠ b) : (w.setCells b o vs).cell? ⟨c, j, none⟩ = w.cell? ⟨c, j, none⟩ := cell_of_same (heap_setCells_other b vs o w c h) j
@[go_sem] theorem frozen_setCells (w : World) (b o c j : Nat) (vs : List Value) : (w.setCells b o vs).frozen? ⟨c, j, none⟩ = w.frozen? ⟨c, j, none⟩ := World.frozen?_setCells b vs o w _
section
variable {P : Program}
/-- A load of many cells, as the walk meets it. -/
theorem run_exec_load_agg {T : TypeId} {n : Nat} {d : TypeDesc} (hu : P.underlying T = some d) (hd : d.isRow = true) (hi : (P.info? T).map (·.size) = some n)
    (ρ : Operand → Value) (dst : Option Tmp) (x : Operand) (ty : TypeId) (pos : String) (after : Array Edge) (guard : Option (Nat × Bool)) (w : World) (hx : ptrOk (ρ x) = true) (h : hasCells w (ptrB (ρ x)) (ptrO (ρ x)) n = true) :
    (execOp ρ { dst, op := .load T x, type := ty, pos, after, guard }).run P w = .ok (.value (.agg (cellsAt w (ptrB (ρ x)) (ptrO (ρ x)) n))) w := by
  have key : ∀ v, ρ x = v → (Instr.loadAt T v).run P w = .ok (.agg (cellsAt w (ptrB (ρ x)) (ptrO (ρ x)) n)) w := by
    intro v hv
    rw [hv] at hx h ⊢
    match v, hx with
    | .pointer (some ⟨b, o, none⟩), _ =>
      have := run_loadAt_mid (P := P) w b o T (cellsAt w b o n).toList d (rangeAt_cellsAt h) hu hd (by rw [hi, Array.length_toList, size_cellsAt])
      rw [Array.toArray_toList] at this
      exact this
  simp only [execOp, Sem.run_bind, key _ rfl, Result.andThen_ok, Sem.run_pure]
/-- A store of many cells, as the walk meets it. -/
theorem run_exec_store_agg {T : TypeId} {n : Nat} (hi : (P.info? T).map (·.size) = some n) (h2 : n ≠ 1)
    (ρ : Operand → Value) (dst : Option Tmp) (x y : Operand) (ty : TypeId) (pos : String) (after : Array Edge) (guard : Option (Nat × Bool)) (w : World) (hx : ptrOk (ρ x) = true)
    (h : hasCells w (ptrB (ρ x)) (ptrO (ρ x)) n = true) (hf : freeCells w (ptrB (ρ x)) (ptrO (ρ x)) n = true) (hs : (ρ y).cells.size = n) (h1 : allOne (ρ y).cells = true) :
    (execOp ρ { dst, op := .store T x y, type := ty, pos, after, guard }).run P w = .ok .skip (w.setCells (ptrB (ρ x)) (ptrO (ρ x)) (ρ y).cells.toList) := by
  have key : ∀ v u, ρ x = v → ρ y = u → (Instr.storeAt T v u).run P w = .ok () (w.setCells (ptrB (ρ x)) (ptrO (ρ x)) (ρ y).cells.toList) := by
    intro v u hv hu
    rw [hv] at hx h hf ⊢
    rw [hu] at hs h1 ⊢
    obtain ⟨cs, rfl, hc⟩ := agg_of_size (v := u) (by rw [hs]; exact h2)
    rw [hc] at hs h1 ⊢
    match v, hx with
    | .pointer (some ⟨b, o, none⟩), _ =>
      refine run_storeAt_mid (P := P) w b o T cs.toArray (fun j hj => ?_) (by rw [hi, hs]) h1
      rw [hs] at hj
      exact ⟨hasCells_iff.1 h j hj, freeCells_iff.1 hf j hj⟩
  simp only [execOp, Sem.run_bind, key _ _ rfl rfl, Result.andThen_ok, Sem.run_pure]
/-- copy, as the walk meets it: elements of whatever size; all is read before anything is written. -/
theorem run_exec_copy_agg {dT sT elem : TypeId} {k : Nat} (hu : P.underlying dT = some (.slice elem)) (hi : (P.info? elem).map (·.size) = some k)
    (ρ : Operand → Value) (dst : Option Tmp) (x y : Operand) (ty : TypeId) (pos : String) (after : Array Edge) (guard : Option (Nat × Bool)) (w : World) (hx : slOk (ρ x) = true) (hy : slOk (ρ y) = true)
    (hs : hasCells w (slB (ρ y)) (slO (ρ y)) (Nat.min (slLen (ρ y)) (slLen (ρ x)) * k) = true) (hd : hasCells w (slB (ρ x)) (slO (ρ x)) (Nat.min (slLen (ρ y)) (slLen (ρ x)) * k) = true)
    (hf : freeCells w (slB (ρ x)) (slO (ρ x)) (Nat.min (slLen (ρ y)) (slLen (ρ x)) * k) = true) (h1 : allOne (cellsAt w (slB (ρ y)) (slO (ρ y)) (Nat.min (slLen (ρ y)) (slLen (ρ x)) * k)) = true) :
    (execOp ρ { dst, op := .call { callee := .builtin .copy, args := #[x, y], argTypes := #[dT, sT] }, type := ty, pos, after, guard }).run P w =
      .ok (.value (goInt (Nat.min (slLen (ρ y)) (slLen (ρ x))))) (w.setCells (slB (ρ x)) (slO (ρ x)) (cellsAt w (slB (ρ y)) (slO (ρ y)) (Nat.min (slLen (ρ y)) (slLen (ρ x)) * k)).toList) := by
  have key : ∀ u v, ρ x = u → ρ y = v → (Builtin.copy_ #[dT, sT] ty #[u, v]).run P w =
      .ok (goInt (Nat.min (slLen (ρ y)) (slLen (ρ x)))) (w.setCells (slB (ρ x)) (slO (ρ x)) (cellsAt w (slB (ρ y)) (slO (ρ y)) (Nat.min (slLen (ρ y)) (slLen (ρ x)) * k)).toList) := by
    intro u v hu' hv'
    rw [hu', hv'] at hs hd hf h1 ⊢
    rw [hu'] at hx
    rw [hv'] at hy
    match u, hx, v, hy with
    | .slice (some ⟨b, o, none⟩) dLen dCap, _, .slice (some ⟨c, q, none⟩) sLen sCap, _ =>
      simp only [slB, slO, slLen] at hs hd hf h1 ⊢
      generalize hm : Nat.min sLen dLen = m at *
      have hr := rangeAt_cellsAt hs
      have hl := run_loadCells_list (P := P) w ⟨c, q, none⟩ (cellsAt w c q (m * k)).toList (fun j v hv => by rw [Addr.add_mid]; exact hr j v hv)
      rw [Array.length_toList, size_cellsAt, Array.toArray_toList] at hl
      have hst := run_storeCells_cells (P := P) b o (cellsAt w c q (m * k)).toList 0 w (fun j hj => by rw [Nat.add_zero]; exact hasCells_iff.1 hd j (by simpa [size_cellsAt] using hj)) (fun j hj => by rw [Nat.add_zero]; exact freeCells_iff.1 hf j (by simpa [size_cellsAt] using hj))
        (fun v hv => (Array.all_eq_true_iff_forall_mem.1 h1) v (by simpa using hv))
      cases hq : P.info? elem with
      | none => simp [hq] at hi
      | some i =>
        have hsz : i.size = k := by simpa [hq] using hi
        simp only [Nat.add_zero] at hst
        simp [Builtin.copy_, run_underlying hu, Builtin.lenOf, Builtin.firstCells, sizeOf, typeInfo, hq, hsz, hm, hl, hst]
  show (do let d ← resolve ρ _ ty; invoke d.target d.args : Sem Next).run P w = _
  simp only [resolve, invoke, builtin, Sem.run_bind, Sem.run_pure, Result.andThen_ok, List.map_toArray, List.map_cons, List.map_nil, key _ _ rfl rfl]
end
end Go.Proofs.YtocabeobfbhajaaGreatDoor
