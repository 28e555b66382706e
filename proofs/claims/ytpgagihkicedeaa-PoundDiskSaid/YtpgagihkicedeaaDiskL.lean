/- Laws of single operations on the disk's pending writes. -/
import Derived.Test.YtpgagihkicedeaaDiskB
set_option linter.unusedSimpArgs false
set_option linter.unusedVariables false
namespace Go.Proofs.Ytpgagihkicedeaa
open Go Go.RowKit

theorem sizeInt : (Try.prog.info? 3).map (·.size) = some 1 := by kernel_rfl
/-- A change is built of a place and a sector. -/
theorem run_build_change (i : Int) (cs : List Value) (h : cs.length = 64) (w : World) :
    (Instr.build 57 #[(0, .int .i64 i), (1, .agg cs.toArray)]).run Try.prog w = .ok (.agg (Value.int .i64 i :: cs).toArray) w := by
  obtain ⟨i0, hi, hz0, hz1, hz2⟩ := info_parts infoChange
  obtain ⟨i5, hi5, _, hy1, _⟩ := info_parts infoSector
  obtain ⟨i3, hi3, hs3⟩ := Option.map_eq_some_iff.1 sizeInt
  have hsz : zeroChange.size = 65 := by simp [zeroChange]
  have hne : zeroChange ≠ #[] := fun e => by rw [e] at hsz; simp at hsz
  have hfill := foldl_set_list cs 1 0 (zeroChange.setIfInBounds 0 (.int .i64 i)) (by simp [hsz, h])
  have e : (splice (zeroChange.setIfInBounds 0 (.int .i64 i)).toList (1 + 0) cs).toArray = (Value.int .i64 i :: cs).toArray := by
    simp [splice, zeroChange, h]
  have hd := Try.underlying57
  simp only [Instr.build, Sem.run_bind, zeroValue, typeInfo, run_program, hi, Sem.run_pure, Result.andThen_ok, hz0, run_underlying hd, sizeOf, Value.cells]
  simp [hi3, hi5, hs3, hy1, Instr.fill, Value.cells, h, hsz, hne, hfill]
  simp [splice, zeroChange, h]

/-- A slice of one change is made. -/
theorem run_buildSlice_change (cs : List Value) (h : cs.length = 65) (w : World) :
    (Instr.buildSlice 50 1 #[(0, .agg cs.toArray)]).run Try.prog w = .ok (.slice (some ⟨w.heap.size, 0, none⟩) 1 1) (w.alloc (.cells cs.toArray 57)) := by
  obtain ⟨i0, hi, hz0, hz1, hz2⟩ := info_parts infoChange
  have hsz : zeroChange.size = 65 := by simp [zeroChange]
  have hd := Try.underlying50
  generalize hA : Array.map (fun x => zeroChange[x % zeroChange.size]!) (Array.range 65) = A
  have hs : A.size = 65 := by rw [← hA]; simp
  have hne : A ≠ #[] := fun e => by rw [e] at hs; simp at hs
  have hfill := foldl_set_list cs 0 0 A (by simp [hs, h])
  have e : (splice A.toList (0 + 0) cs).toArray = cs.toArray := by
    unfold splice; rw [List.drop_eq_nil_of_le (by simp [hs, h])]; simp
  simp only [Instr.buildSlice, Sem.run_bind, typeInfo, run_program, hi, Sem.run_pure, Result.andThen_ok, run_underlying hd, sizeOf, hz1]
  simp [zeroValue, typeInfo, hi, hz0, Value.cells, hA, Instr.fill, h, hs, hne, newRow, hz1]
  simp only [Nat.zero_add] at hfill e
  rw [hfill, e]
/-- The two as the walk meets them. -/
theorem run_exec_build_change (ρ : Operand → Value) (dst : Option Tmp) (x y : Operand) (ty : TypeId) (pos : String) (after : Array Edge) (guard : Option (Nat × Bool)) (w : World) (i : Int) (hx : ρ x = .int .i64 i) (h : (ρ y).cells.size = 64) :
    (execOp ρ { dst, op := .build 57 #[(0, x), (1, y)], type := ty, pos, after, guard }).run Try.prog w = .ok (.value (.agg (#[.int .i64 i] ++ (ρ y).cells))) w := by
  obtain ⟨cs, h1, h2⟩ := agg_of_size (v := ρ y) (by omega)
  have := run_build_change i cs (by rw [h2] at h; simpa using h) w
  rw [h2]
  simp only [execOp, List.map_toArray, List.map_cons, List.map_nil, Sem.run_bind, hx, h1, this, Result.andThen_ok, Sem.run_pure]
  simp
theorem run_exec_buildSlice_change (ρ : Operand → Value) (dst : Option Tmp) (x : Operand) (ty : TypeId) (pos : String) (after : Array Edge) (guard : Option (Nat × Bool)) (w : World) (h : (ρ x).cells.size = 65) :
    (execOp ρ { dst, op := .buildSlice 50 1 #[(0, x)], type := ty, pos, after, guard }).run Try.prog w = .ok (.value (.slice (some ⟨w.heap.size, 0, none⟩) 1 1)) (w.alloc (.cells (ρ x).cells 57)) := by
  obtain ⟨cs, h1, h2⟩ := agg_of_size (v := ρ x) (by omega)
  have := run_buildSlice_change cs (by rw [h2] at h; simpa using h) w
  rw [h2]
  simp only [execOp, List.map_toArray, List.map_cons, List.map_nil, Sem.run_bind, h1, this, Result.andThen_ok, Sem.run_pure]
theorem ld_sector (ρ : Operand → Value) (dst : Option Tmp) (x : Operand) (ty : TypeId) (pos : String) (after : Array Edge) (guard : Option (Nat × Bool)) (w : World) (hx : ptrOk (ρ x) = true) (h : hasCells w (ptrB (ρ x)) (ptrO (ρ x)) 64 = true) :
    (execOp ρ { dst, op := .load 55 x, type := ty, pos, after, guard }).run Try.prog w = .ok (.value (.agg (cellsAt w (ptrB (ρ x)) (ptrO (ρ x)) 64))) w :=
  run_exec_load_agg Try.underlying55 rfl sizeSector ρ dst x ty pos after guard w hx h
theorem st_sector (ρ : Operand → Value) (dst : Option Tmp) (x y : Operand) (ty : TypeId) (pos : String) (after : Array Edge) (guard : Option (Nat × Bool)) (w : World) (hx : ptrOk (ρ x) = true)
    (h : hasCells w (ptrB (ρ x)) (ptrO (ρ x)) 64 = true) (hf : freeCells w (ptrB (ρ x)) (ptrO (ρ x)) 64 = true) (hs : (ρ y).cells.size = 64) (h1 : allOne (ρ y).cells = true) :
    (execOp ρ { dst, op := .store 55 x y, type := ty, pos, after, guard }).run Try.prog w = .ok .skip (w.setCells (ptrB (ρ x)) (ptrO (ρ x)) (ρ y).cells.toList) :=
  run_exec_store_agg sizeSector (by omega) ρ dst x y ty pos after guard w hx h hf hs h1
end Go.Proofs.Ytpgagihkicedeaa
