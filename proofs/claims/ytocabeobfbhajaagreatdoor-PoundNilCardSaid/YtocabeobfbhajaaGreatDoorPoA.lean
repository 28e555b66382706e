/- Package pound: small functions on postings. -/
import Derived.Test.YtocabeobfbhajaaGreatDoorLib
import Derived.Test.YtocabeobfbhajaaGreatDoorChecked
import Derived.BigQuiet
import Derived.Handy
set_option linter.unusedSimpArgs false
set_option linter.unusedVariables false
set_option maxRecDepth 100000
namespace Go.Proofs.YtocabeobfbhajaaGreatDoor
open Go Go.RowKit

/-- A ref; a posting. -/
structure Rf where
  reeve : Int
  number : Int
deriving DecidableEq
structure Po where
  reeve : Int
  number : Int
  tick : Int
  kind : Int
  cse : Int
  owner : Int
  of : Rf
  by_ : Rf
  amount : Int
deriving DecidableEq
def Rf.cells (x : Rf) : List Value := [.int .i64 x.reeve, .int .i64 x.number]
def Po.cells (p : Po) : List Value := [.int .i64 p.reeve, .int .i64 p.number, .int .i64 p.tick, .int .u8 p.kind, .int .i64 p.cse, .int .i64 p.owner, .int .i64 p.of.reeve, .int .i64 p.of.number, .int .i64 p.by_.reeve, .int .i64 p.by_.number, .int .i64 p.amount]
def Rf.val (x : Rf) : Value := .agg #[.int .i64 x.reeve, .int .i64 x.number]
def Po.val (p : Po) : Value := .agg #[.int .i64 p.reeve, .int .i64 p.number, .int .i64 p.tick, .int .u8 p.kind, .int .i64 p.cse, .int .i64 p.owner, .int .i64 p.of.reeve, .int .i64 p.of.number, .int .i64 p.by_.reeve, .int .i64 p.by_.number, .int .i64 p.amount]

def inB (n low high : Int) : Bool := decide (low ≤ n) && decide (n ≤ high)
theorem in_any (n low high : Int) (w : World) : Calls Tryz.prog 83 #[.int .i64 n, .int .i64 low, .int .i64 high] w fun e w' => e = .returned (.bool (inB n low high)) ∧ w = w' := by
  unfold inB
  go_enter Tryz.func83, Tryz.ntmps83
  go_wp2
  all_goals
    go_ret
    refine ⟨?_, rfl⟩
    simp_all
  all_goals omega
def manyB (n : Int) : Bool := n == 3 || n == 5
theorem isMany_any (n : Int) (w : World) : Calls Tryz.prog 75 #[.int .i64 n] w fun e w' => e = .returned (.bool (manyB n)) ∧ w = w' := by
  unfold manyB
  go_enter Tryz.func75, Tryz.ntmps75
  go_wp2
  all_goals
    go_ret
    refine ⟨?_, rfl⟩
    simp_all
theorem refOf_any (p : Po) (w : World) : Calls Tryz.prog 106 #[p.val] w fun e w' => e = .returned (Rf.val ⟨p.reeve, p.number⟩) ∧ (w.alloc (.cells p.cells.toArray 25)).alloc (.cells (Rf.cells ⟨p.reeve, p.number⟩).toArray 23) = w' := by
  unfold Po.val Rf.val Po.cells Rf.cells
  go_enter Tryz.func106, Tryz.ntmps106
  go_wp2
  all_goals
    go_returns
    exact ⟨rfl, rfl⟩
def isRefB (n : Int) (x : Rf) : Bool := inB x.reeve 0 (n - 1) && inB x.number 1 300
theorem isRef_any (n : Int) (hn : -9223372036854775807 ≤ n ∧ n ≤ 9223372036854775807) (x : Rf) (w : World) : Calls Tryz.prog 174 #[.int .i64 n, x.val] w fun e w' => e = .returned (.bool (isRefB n x)) ∧ w.alloc (.cells x.cells.toArray 23) = w' := by
  unfold Rf.val isRefB Rf.cells
  obtain ⟨n1, n2⟩ := hn
  go_enter Tryz.func174, Tryz.ntmps174
  go_wp2_with (first | (go_at_call 83; refine (in_any _ _ _ _).mono ?_; rintro e w' ⟨rfl, rfl⟩))
  all_goals
    go_ret
    refine ⟨?_, rfl⟩
    simp_all
def chargeB (p : Po) : Bool := p.kind == 1 || p.kind == 2
theorem isCharge_any (p : Po) (w : World) : Calls Tryz.prog 112 #[p.val] w fun e w' => e = .returned (.bool (chargeB p)) ∧ w.alloc (.cells p.cells.toArray 25) = w' := by
  unfold Po.val chargeB Po.cells
  go_enter Tryz.func112, Tryz.ntmps112
  go_wp2
  all_goals
    go_ret
    refine ⟨?_, ?_⟩ <;> simp_all
def Po.bare (p : Po) : Po := { reeve := p.reeve, number := p.number, tick := p.tick, kind := p.kind, cse := 0, owner := p.owner, of := ⟨0, 0⟩, by_ := ⟨0, 0⟩, amount := p.amount }
theorem bare_any (p : Po) (w : World) : Calls Tryz.prog 175 #[p.val] w fun e w' => e = .returned p.bare.val ∧ (w.alloc (.cells p.cells.toArray 25)).alloc (.cells p.bare.cells.toArray 25) = w' := by
  unfold Po.val Po.bare Po.cells
  go_enter Tryz.func175, Tryz.ntmps175
  go_wp2
  go_returns
  exact ⟨rfl, rfl⟩
end Go.Proofs.YtocabeobfbhajaaGreatDoor
