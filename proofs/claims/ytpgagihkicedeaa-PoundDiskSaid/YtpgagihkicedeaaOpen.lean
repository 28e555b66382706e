/- What a walk is told of the arguments that came in: slices of numbers. -/
import Derived.Test.YtpgagihkicedeaaLib
import Derived.ProofKit
import Derived.OpenShut
set_option linter.unusedVariables false
namespace Go.Proofs.Ytpgagihkicedeaa
open Go Go.RowKit

/-- WHAT THE WALK IS TOLD OF A SLICE OF INTEGERS THAT CAME IN: it is nil; or it leads to a row of 'cap' cells, the numbers 'zs' (the first 'len' are its elements, the rest its spare room), each fitting its kind. -/
def IsRow (k : IntKind) (w : World) (a : Option Addr) (len cap : Nat) (zs : List Int) : Prop :=
  (a = none ∧ len = 0 ∧ cap = 0 ∧ zs = []) ∨
  ∃ x, a = some x ∧ len ≤ cap ∧ cap ≤ maxLen ∧ zs.length = cap ∧ (∀ i, i < zs.length → w.cell? (x.add i) = some (.int k (zs.getD i 0))) ∧ ∀ n ∈ zs, (Lit.int k n).wf = true


/-- The bytes of a slice of bytes that came in. -/
theorem bytes_of_row {w : World} {a : Option Addr} {len cap : Nat} {zs : List Int} (h : IsRow .u8 w a len cap zs) : ∃ s : List UInt8, len = s.length ∧ len ≤ maxLen ∧ BytesAt w a s := by
  rcases h with ⟨rfl, rfl, rfl, rfl⟩ | ⟨x, rfl, h1, h2, h3, h4, h5⟩
  · exact ⟨[], rfl, by simp, BytesAt.nil _ _⟩
  · refine ⟨(zs.take len).map (fun n => UInt8.ofNat n.toNat), by simp; omega, by omega, fun j c hj => ⟨x, rfl, ?_⟩⟩
    rw [bcells_get, List.getElem?_map, List.getElem?_take] at hj
    split at hj
    · rename_i hjl
      have hz : j < zs.length := by rw [h3]; exact Nat.lt_of_lt_of_le hjl h1
      rw [h4 j hz]
      rw [List.getElem?_eq_getElem hz] at hj
      simp only [Option.map_some, Option.some.injEq] at hj
      rw [← hj]
      obtain ⟨b1, b2⟩ := bounds_u8 (h5 _ (List.getElem_mem hz))
      have e : zs.getD j 0 = zs[j] := getD_lt hz 0
      rw [e]
      unfold bcell
      congr 1
      have : (UInt8.ofNat zs[j].toNat).toNat = zs[j].toNat := by
        rw [UInt8.toNat_ofNat']
        exact Nat.mod_eq_of_lt (by omega)
      rw [this, Int.toNat_of_nonneg b1]
    · simp at hj
end Go.Proofs.Ytpgagihkicedeaa
