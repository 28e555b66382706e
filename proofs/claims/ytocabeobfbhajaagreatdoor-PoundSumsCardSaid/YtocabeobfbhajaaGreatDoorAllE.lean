/- CheckPosting, in pound. | What pound's small functions are, in plain Lean. | Lists of postings that came in, opened. | The reckoner where values are not known: calls with contracts that return new lists. No program is named here. | The reckoner where values are not known: values with slices of new lists in them. No program is named here. | The reckoner where values are not known: functions that return new lists. No program is named here. | The reckoner where values are not known: tables laid out in parts that ways share; rounds and loops as plain statements. No program is named here. | The reckoner: functions of the library without a body: bytes counted, a byte sought. No program is named here. | The reckoner at this program: what EnvOK asks of it. -/
import Derived.Test.YtocabeobfbhajaaGreatDoorPoF
import Derived.Test.YtocabeobfbhajaaGreatDoorAllC
import Derived.Test.YtocabeobfbhajaaGreatDoorRows
import Derived.ProofKit
import Derived.OpenShut
import Derived.Deep.Slices
import Derived.ChangeSame
import Derived.ChangeArms
import Derived.KernelRfl
import Derived.Test.YtocabeobfbhajaaGreatDoorAllB
import Derived.Lib.Bytealg
import Derived.Laws.Externs
import Derived.Test.YtocabeobfbhajaaGreatDoorProg
section
set_option linter.unusedSimpArgs false
set_option linter.unusedVariables false
set_option maxRecDepth 100000
namespace Go.Proofs.YtocabeobfbhajaaGreatDoor
open Go Go.RowKit
def checkN (n : Int) (p : Po) : Int := if formedB n p = true then 0 else 1
theorem checkPosting_any (n : Int) (p : Po) (w : World) : Calls Tryz.prog 19 #[.int .i64 n, p.val] w fun e w' => e = .returned (.int .i64 (checkN n p)) ∧ Below w.heap.size w w' := by
 have HF := hid (formed_any n p)
 have E : Hid (checkN n p = if formedB n p = true then 0 else 1) := rfl
 unfold Po.val at *
 go_enter Tryz.func19, Tryz.ntmps19
 go_wp2_with fail
 refine (HF.out _).mono ?_
 rintro e w' ⟨rfl, hb⟩
 have hb2 := ((Below.refl _ w).alloc (Nat.le_refl _) _).trans (hb.mono (by simp))
 clear hb
 cases hf : formedB n p
 all_goals
  rw [hf] at E
  have hf := hid hf
  go_wp2
  go_ret
  exact ⟨by rw [E.out]; rfl, hb2⟩
end Go.Proofs.YtocabeobfbhajaaGreatDoor
end
section
set_option linter.unusedVariables false
set_option linter.unusedSimpArgs false
namespace Go.Proofs.YtocabeobfbhajaaGreatDoor.Sx
open Go Go.Proofs.YtocabeobfbhajaaGreatDoor
theorem drop_at {α : Type} [Inhabited α] {l : List α} {i : Int} (h : 0 ≤ i ∧ i < (l.length : Int)) : l.drop i.toNat = at_ l i :: l.drop (i + 1).toNat := by
 have h1 : i.toNat < l.length := by omega
 rw [List.drop_eq_getElem_cons h1, show (i + 1).toNat = i.toNat + 1 by omega]
 congr 1
 simp [at_, h1]
theorem drop_end {α : Type} {l : List α} {i : Int} (h : ¬ i < (l.length : Int)) : l.drop i.toNat = [] := List.drop_eq_nil_of_le (by omega)
theorem at_nat {α : Type} [Inhabited α] {l : List α} {i : Nat} (h : i < l.length) : at_ l (i : Int) = l[i] := by simp [at_, h]
def owedF (c : Po) (n : Int) (x : Po) : Int := if (x.kind = 4 ∨ x.kind = 5) ∧ x.of.reeve = c.reeve ∧ x.of.number = c.number then IntKind.wrap .i64 (n - x.amount) else n
def owedN (l : List Po) (c : Po) : Int := max (l.foldl (owedF c) c.amount) 0
theorem owedN_nn (l : List Po) (c : Po) : 0 ≤ owedN l c := by unfold owedN; omega
def byRefN (x y : Rf) : Int := if x.reeve < y.reeve then -1 else if y.reeve < x.reeve then 1 else if x.number < y.number then -1 else if y.number < x.number then 1 else 0
def isCh (x : Po) : Prop := x.kind = 1 ∨ x.kind = 2
instance (x : Po) : Decidable (isCh x) := inferInstanceAs (Decidable (_ ∨ _))
def twiceC (p x : Po) : Bool := decide (x.kind = p.kind ∧ x.cse = p.cse)
def twiceB (p x : Po) : Bool := decide (x.kind = 4 ∧ x.by_.reeve = p.by_.reeve ∧ x.by_.number = p.by_.number)
def followsN (l : List Po) (p : Po) : Int :=
 if p.number = (l.length : Int) + 1 then
  if isCh p then (if l.any (twiceC p) then 6 else 0)
  else if p.kind = 3 then 0
  else if ¬ (p.by_.reeve = 0 ∧ p.by_.number = 0) ∧ l.any (twiceB p) = true then 6
  else if ¬ isCh (at_ l (p.of.number - 1)) ∨ (at_ l (p.of.number - 1)).owner ≠ p.owner then 5
  else if (p.by_.reeve = 0 ∧ p.by_.number = 0) ∧ owedN l (at_ l (p.of.number - 1)) < p.amount then 8 else 0
 else 8
def stepN (n : Int) (l : List Po) (i : Int) : Int :=
 if checkN n (at_ l i) = 0 then
  if 0 < i ∧ 0 ≤ byRefN ⟨(at_ l (i - 1)).reeve, (at_ l (i - 1)).number⟩ ⟨(at_ l i).reeve, (at_ l i).number⟩ then 8
  else followsN ((l.take i.toNat).filter fun x => decide (x.reeve = (at_ l i).reeve)) (at_ l i)
 else checkN n (at_ l i)
def rollF (n : Int) (l : List Po) : Nat → Int → Int × Int
 | 0, _ => (0, 0)
 | k + 1, i => if stepN n l i = 0 then rollF n l k (i + 1) else (i, stepN n l i)
def okF (n : Int) (l : List Po) : Nat → Int → Bool
 | 0, _ => true
 | k + 1, i => decide (stepN n l i = 0) && okF n l k (i + 1)
theorem okF_roll {n : Int} {l : List Po} : ∀ {k : Nat} {i : Int}, okF n l k i = true → rollF n l k i = (0, 0)
 | 0, _, _ => rfl
 | k + 1, i, h => by
  simp only [okF, Bool.and_eq_true, decide_eq_true_eq] at h
  rw [rollF, if_pos h.1]
  exact okF_roll h.2
def bookN (l : List Po) (i j : Int) : List Po := (l.take i.toNat).filter fun x => decide (x.reeve = j)
theorem take_succ {α : Type} [Inhabited α] {l : List α} {i : Int} (h : 0 ≤ i ∧ i < (l.length : Int)) : l.take (i + 1).toNat = l.take i.toNat ++ [at_ l i] := by
 have h1 : i.toNat < l.length := by omega
 rw [show (i + 1).toNat = i.toNat + 1 by omega, List.take_succ_eq_append_getElem h1]
 congr 1
 simp [at_, h1]
theorem book_succ {l : List Po} {i : Int} (j : Int) (h : 0 ≤ i ∧ i < (l.length : Int)) : bookN l (i + 1) j = if (at_ l i).reeve = j then bookN l i j ++ [at_ l i] else bookN l i j := by
 unfold bookN
 rw [take_succ h, List.filter_append, List.filter_cons]
 by_cases hj : (at_ l i).reeve = j <;> simp [hj]
def rollN (n : Int) (l : List Po) : Int × Int := if n = 3 ∨ n = 5 then rollF n l l.length 0 else (0, 1)
theorem rollF_bad {n : Int} {l : List Po} : ∀ {k : Nat} {i : Int}, okF n l k i = false → (rollF n l k i).2 ≠ 0
 | 0, _, h => by cases h
 | k + 1, i, h => by
  simp only [okF, Bool.and_eq_false_iff, decide_eq_false_iff_not] at h
  rw [rollF]
  by_cases hs : stepN n l i = 0
  ·rw [if_pos hs]
   exact rollF_bad (h.resolve_left (fun g => g hs))
  ·rw [if_neg hs]; exact hs
def endN (n : Int) (l : List Po) : Int := if (rollN n l).2 = 0 then l.length else (rollN n l).1
def booksN (n : Int) (l : List Po) (j : Int) : List Po := if n = 3 ∨ n = 5 then bookN l (endN n l) j else []
theorem books_le (n : Int) (l : List Po) (j : Int) : ((booksN n l j).length : Int) ≤ (l.length : Int) := by
 unfold booksN
 split
 case isFalse => simp
 ·unfold bookN
  have h1 := List.length_filter_le (fun x : Po => decide (x.reeve = j)) (l.take (endN n l).toNat)
  have h2 := List.length_take_le (endN n l).toNat l
  have h3 : (l.take (endN n l).toNat).length ≤ l.length := by rw [List.length_take]; omega
  omega
def owedTN (n : Int) (l : List Po) (x : Rf) : Int × Int :=
 if (rollN n l).2 = 0 then
  if 0 ≤ x.reeve ∧ x.reeve ≤ 4 ∧ 1 ≤ x.number ∧ x.number ≤ ((booksN n l x.reeve).length : Int) ∧ isCh (at_ (booksN n l x.reeve) (x.number - 1)) then
   (owedN (booksN n l x.reeve) (at_ (booksN n l x.reeve) (x.number - 1)), 0)
  else (0, 5)
 else (0, (rollN n l).2)
def debitN (p : Po) : Int := if p.kind = 1 ∨ p.kind = 2 then p.owner else if p.kind = 3 then IntKind.wrap .i64 (100 + p.reeve) else if p.kind = 4 then (if p.by_.reeve = 0 ∧ p.by_.number = 0 then IntKind.wrap .i64 (100 + p.reeve) else 200) else 0
def creditN (p : Po) : Int := if p.kind = 3 then 200 else if p.kind = 4 ∨ p.kind = 5 then p.owner else 0
def amountN (p : Po) : Int := if 1 ≤ p.kind ∧ p.kind ≤ 5 then p.amount else 0
def balF (account : Int) (s : Int) (p : Po) : Int :=
 let t := if debitN p = account then IntKind.wrap .i64 (s + amountN p) else s
 if creditN p = account then IntKind.wrap .i64 (t - amountN p) else t
def balN (l : List Po) (account : Int) : Int := l.foldl (balF account) 0
def isAccN (n : Int) : Prop := (0 ≤ n ∧ n ≤ 40) ∨ (100 ≤ n ∧ n ≤ 104) ∨ n = 200
instance (n : Int) : Decidable (isAccN n) := inferInstanceAs (Decidable (_ ∨ _))
def balanceN (n : Int) (l : List Po) (acc : Int) : Int × Int := if (rollN n l).2 = 0 then (if isAccN acc then (balN l acc, 0) else (0, 0)) else (0, (rollN n l).2)
def RefR (l : List Po) : Prop := ∀ i : Int, 0 ≤ i ∧ i < (l.length : Int) → (-9223372036854775808 ≤ (at_ l i).reeve ∧ (at_ l i).reeve ≤ 9223372036854775807) ∧ (-9223372036854775808 ≤ (at_ l i).number ∧ (at_ l i).number ≤ 9223372036854775807)
def KindR (l : List Po) : Prop := ∀ i : Int, 0 ≤ i ∧ i < (l.length : Int) → 0 ≤ (at_ l i).kind ∧ (at_ l i).kind ≤ 255
def FormN (n : Int) (p : Po) : Prop := (n = 3 ∨ n = 5) ∧ 0 ≤ p.reeve ∧ p.reeve ≤ n - 1 ∧ 1 ≤ p.number ∧ p.number ≤ 300 ∧ 0 ≤ p.tick ∧ p.tick ≤ 100000 ∧ 1 ≤ p.owner ∧ p.owner ≤ 40 ∧ 1 ≤ p.amount ∧ p.amount ≤ 1000000 ∧ 1 ≤ p.kind ∧ p.kind ≤ 5 ∧ (p.kind = 4 ∨ p.kind = 5 → 1 ≤ p.of.number ∧ p.of.number < p.number)
theorem formN {n : Int} {p : Po} (h : checkN n p = 0) : FormN n p := by
 unfold checkN at h
 by_cases hf : formedB n p = true
 case neg => rw [if_neg hf] at h; cases h
 replace h := hf
 unfold formedB preB manyB isRefB inB Po.me at h
 simp only [Bool.and_eq_true, Bool.or_eq_true, beq_iff_eq, decide_eq_true_eq] at h
 obtain ⟨⟨⟨⟨⟨h1, ⟨h2, h2'⟩, h3, h3'⟩, h4, h4'⟩, h5, h5'⟩, h6, h6'⟩, h7⟩ := h
 have key : 1 ≤ p.kind ∧ p.kind ≤ 5 ∧ (p.kind = 4 ∨ p.kind = 5 → 1 ≤ p.of.number ∧ p.of.number < p.number) := by
  unfold YtocabeobfbhajaaGreatDoor.bodyB isRefB inB at h7
  have e2 : ∀ a b : Bool, (a && b) = true → b = true := by decide
  have e1 : ∀ a b : Bool, (a && b) = true → a = true := by decide
  split at h7
  ·omega
  ·split at h7
   ·omega
   ·split at h7
    ·have h8 := e2 _ _ (e1 _ _ h7)
     have h9 := e1 _ _ (e2 _ _ (e2 _ _ (e1 _ _ (e1 _ _ (e1 _ _ h7)))))
     simp only [decide_eq_true_eq] at h8 h9
     omega
    ·split at h7
     ·have h8 := e2 _ _ h7
      have h9 := e1 _ _ (e2 _ _ (e2 _ _ (e1 _ _ (e1 _ _ h7))))
      simp only [decide_eq_true_eq] at h8 h9
      omega
     ·cases h7
 exact ⟨h1, h2, h2', h3, h3', h4, h4', h5, h5', h6, h6', key.1, key.2.1, key.2.2⟩
theorem formN2 {n : Int} {p : Po} (h : checkN n p = 0) : (1 ≤ p.kind ∧ p.kind ≤ 5) ∧ (0 ≤ p.reeve ∧ p.reeve ≤ n - 1) ∧ (n = 3 ∨ n = 5) ∧ 1 ≤ p.amount ∧ p.amount ≤ 1000000 ∧ 1 ≤ p.number ∧ p.number ≤ 300 ∧ ((p.kind = 4 ∨ p.kind = 5) → 1 ≤ p.of.number ∧ p.of.number < p.number) := by
 obtain ⟨h1, h2, h2', h3, h3', h4, h4', h5, h5', h6, h6', h7, h7', h8⟩ := formN h
 exact ⟨⟨h7, h7'⟩, ⟨h2, h2'⟩, h1, h6, h6', h3, h3', h8⟩
theorem pMany_n (n : Int) (w : World) : Calls Tryz.prog 75 #[.int .i64 n] w fun e w' => e = .returned (.bool (decide (n = 3 ∨ n = 5))) ∧ Chg (fun _ => False) w w' := (isMany_any n w).mono fun e w' h => ⟨by
 rw [h.1]; unfold manyB
 by_cases h3 : n = 3 <;> by_cases h5 : n = 5 <;> simp [h3, h5], by rw [← h.2]; exact Chg.refl _ _⟩
theorem pCharge_n (p : Po) (w : World) : Calls Tryz.prog 112 #[p.val] w fun e w' => e = .returned (.bool (decide (p.kind = 1 ∨ p.kind = 2))) ∧ Chg (fun _ => False) w w' := (isCharge_any p w).mono fun e w' h => ⟨by
 rw [h.1]; unfold chargeB
 by_cases h3 : p.kind = 1 <;> by_cases h5 : p.kind = 2 <;> simp [h3, h5], by rw [← h.2]; exact Chg.of_below ((Go.RowKit.Below.refl _ w).alloc (Nat.le_refl _) _)⟩
theorem pCheck_n (n : Int) (p : Po) (w : World) : Calls Tryz.prog 19 #[.int .i64 n, p.val] w fun e w' => e = .returned (.int .i64 (checkN n p)) ∧ Chg (fun _ => False) w w' := (checkPosting_any n p w).mono fun e w' h => ⟨h.1, Chg.of_below h.2⟩
theorem reeve_of2 {n : Int} {l : List Po} {i : Int} (h : checkN n (at_ l i) = 0) : (n = 3 ∨ n = 5) ∧ 0 ≤ (at_ l i).reeve ∧ (at_ l i).reeve ≤ n - 1 := by
 obtain ⟨h1, h2, h3, _⟩ := formN h
 exact ⟨h1, h2, h3⟩
theorem reeve_of {n : Int} {l : List Po} {i : Int} (h : stepN n l i = 0) : checkN n (at_ l i) = 0 ∧ (n = 3 ∨ n = 5) ∧ 0 ≤ (at_ l i).reeve ∧ (at_ l i).reeve ≤ n - 1 := by
 unfold stepN at h
 split at h
 ·rename_i h1
  exact ⟨h1, reeve_of2 h1⟩
 ·contradiction
end Go.Proofs.YtocabeobfbhajaaGreatDoor.Sx
end
section
set_option linter.unusedSimpArgs false
set_option linter.unusedVariables false
set_option maxRecDepth 100000
namespace Go.Proofs.YtocabeobfbhajaaGreatDoor.Sx
open Go Go.RowKit Go.ChangeShapes Go.WideShapes Go.Deep Go.Proofs.YtocabeobfbhajaaGreatDoor
def fieldsOf (d : TypeDesc) : List (Nat × TypeId) := match d with
 | .struct fs => fs.toList.map fun f => (f.offset, f.type)
 | _ => []
def R64 (x : Int) : Prop := -9223372036854775808 ≤ x ∧ x ≤ 9223372036854775807
def PoR (p : Po) : Prop := R64 p.reeve ∧ R64 p.number ∧ R64 p.tick ∧ (0 ≤ p.kind ∧ p.kind ≤ 255) ∧ R64 p.cse ∧ R64 p.owner ∧ (R64 p.of.reeve ∧ R64 p.of.number) ∧ (R64 p.by_.reeve ∧ R64 p.by_.number) ∧ R64 p.amount
theorem r64 {x : Int} (h : (Lit.int .i64 x).wf = true) : R64 x := bounds_i64 h
theorem lt_of_cell {w : World} {p : Addr} {v : Value} (h : w.cell? p = some v) : p.block < w.heap.size := by
 rcases Nat.lt_or_ge p.block w.heap.size with h1 | h1
 ·exact h1
 ·unfold World.cell? at h
  rw [Array.getElem?_eq_none h1] at h
  cases h
theorem cellsH_of {w : World} {b o : Nat} {cs : List Value} (hne : cs ≠ []) (h : ∀ j c, cs[j]? = some c → w.cell? ⟨b, o + j, none⟩ = some c) : cellsH w.heap b o cs := by
 obtain ⟨x, r, rfl⟩ := List.exists_cons_of_ne_nil hne
 have h0 := h 0 x rfl
 unfold World.cell? at h0 h
 split at h0
 ·rename_i c t fr hb
  refine ⟨c, t, fr, hb, fun j v hj => ?_⟩
  have := h j v hj
  simp only [hb, Option.isSome_none, Bool.false_eq_true, if_false] at this
  exact this
 ·cases h0
section
variable {H : Type} {enc : TypeId × Value → H} {W : World}
theorem parts_trod {P : Program} {n : Nat} {t : TypeId} {cs : List Value} {y : DataW H × List MemPlace} {L : List (Nat × TypeId)} (hf : (P.underlying t).map fieldsOf = some L) (hL : L ≠ [])
  (h : DataW.trod enc P W 0 (fun _ => true) true n t cs = some y) : cs.length = P.cellsOf t ∧ ∃ m, ∀ (i o : Nat) (t' : TypeId), L[i]? = some (o, t') → ∃ y, DataW.trod enc P W 0 (fun _ => true) true m t' ((cs.drop o).take (P.cellsOf t')) = some y := by
 cases hu : P.underlying t with
 | none => rw [hu] at hf; cases hf
 | some d =>
  rw [hu] at hf
  simp only [Option.map_some, Option.some.injEq] at hf
  cases d with
  | struct fs =>
   simp only [fieldsOf] at hf
   obtain ⟨xs, m, _, _, hlen, hxl, hget⟩ := DataW.trod_struct hu h
   refine ⟨hlen, m, fun i o t' hi => ?_⟩
   rw [← hf] at hi
   rw [List.getElem?_map] at hi
   cases hfi : fs.toList[i]? with
   | none => rw [hfi] at hi; cases hi
   | some f =>
    rw [hfi] at hi
    simp only [Option.map_some, Option.some.injEq, Prod.mk.injEq] at hi
    obtain ⟨rfl, rfl⟩ := hi
    have h2 := hget i f (by simpa using hfi)
    have hil : i < xs.length := by
     rw [hxl]
     have := (List.getElem?_eq_some_iff.1 hfi).1
     simpa using this
    rw [h2, List.getElem?_eq_getElem hil]
    exact ⟨_, rfl⟩
  | _ => exact absurd hf.symm hL
theorem refFields : (Tryz.prog.underlying 23).map fieldsOf = some [(0, 3), (1, 3)] := by kernel_rfl
theorem poFields : (Tryz.prog.underlying 25).map fieldsOf = some [(0, 3), (1, 3), (2, 3), (3, 5), (4, 3), (5, 3), (6, 23), (8, 23), (10, 3)] := by kernel_rfl
theorem rowPo : Tryz.prog.underlying 38 = some (.slice 25) := by kernel_rfl
theorem cellsN : Tryz.prog.cellsOf 3 = 1 ∧ Tryz.prog.cellsOf 5 = 1 ∧ Tryz.prog.cellsOf 23 = 2 ∧ Tryz.prog.cellsOf 25 = 11 := by
 refine ⟨?_, ?_, ?_, ?_⟩ <;> kernel_rfl
theorem rf_trod {n : Nat} {cs : List Value} {y : DataW H × List MemPlace} (h : DataW.trod enc Tryz.prog W 0 (fun _ => true) true n 23 cs = some y) : ∃ r : Rf, cs = r.cells ∧ R64 r.reeve ∧ R64 r.number := by
 obtain ⟨hlen, m, hp⟩ := parts_trod refFields (by simp) h
 obtain ⟨c1, _, c2, _⟩ := cellsN
 rw [c2] at hlen
 match cs, hlen with
 | [v0, v1], _ =>
  obtain ⟨_, h0⟩ := hp 0 _ _ rfl
  obtain ⟨_, h1⟩ := hp 1 _ _ rfl
  rw [c1] at h0 h1
  simp only [List.drop_zero, List.drop_succ_cons, List.take_succ_cons, List.take_zero] at h0 h1
  obtain ⟨a, e0, _, k0⟩ := DataW.trod_int Tryz.underlying3 h0
  obtain ⟨b, e1, _, k1⟩ := DataW.trod_int Tryz.underlying3 h1
  simp only [List.cons.injEq, and_true] at e0 e1
  subst e0 e1
  exact ⟨⟨a, b⟩, rfl, r64 k0, r64 k1⟩
theorem po_trod {n : Nat} {cs : List Value} {y : DataW H × List MemPlace} (h : DataW.trod enc Tryz.prog W 0 (fun _ => true) true n 25 cs = some y) : ∃ p : Po, cs = p.cells ∧ PoR p := by
 obtain ⟨hlen, m, hp⟩ := parts_trod poFields (by simp) h
 obtain ⟨c1, c8, c2, c11⟩ := cellsN
 rw [c11] at hlen
 match cs, hlen with
 | [v0, v1, v2, v3, v4, v5, v6, v7, v8, v9, v10], _ =>
  obtain ⟨_, h0⟩ := hp 0 _ _ rfl
  obtain ⟨_, h1⟩ := hp 1 _ _ rfl
  obtain ⟨_, h2⟩ := hp 2 _ _ rfl
  obtain ⟨_, h3⟩ := hp 3 _ _ rfl
  obtain ⟨_, h4⟩ := hp 4 _ _ rfl
  obtain ⟨_, h5⟩ := hp 5 _ _ rfl
  obtain ⟨_, h6⟩ := hp 6 _ _ rfl
  obtain ⟨_, h7⟩ := hp 7 _ _ rfl
  obtain ⟨_, h8⟩ := hp 8 _ _ rfl
  rw [c1] at h0 h1 h2 h4 h5 h8
  rw [c8] at h3
  rw [c2] at h6 h7
  simp only [List.drop_zero, List.drop_succ_cons, List.take_succ_cons, List.take_zero] at h0 h1 h2 h3 h4 h5 h6 h7 h8
  obtain ⟨a0, e0, _, k0⟩ := DataW.trod_int Tryz.underlying3 h0
  obtain ⟨a1, e1, _, k1⟩ := DataW.trod_int Tryz.underlying3 h1
  obtain ⟨a2, e2, _, k2⟩ := DataW.trod_int Tryz.underlying3 h2
  obtain ⟨a3, e3, _, k3⟩ := DataW.trod_int Tryz.underlying5 h3
  obtain ⟨a4, e4, _, k4⟩ := DataW.trod_int Tryz.underlying3 h4
  obtain ⟨a5, e5, _, k5⟩ := DataW.trod_int Tryz.underlying3 h5
  obtain ⟨r6, e6, k6⟩ := rf_trod h6
  obtain ⟨r7, e7, k7⟩ := rf_trod h7
  obtain ⟨a8, e8, _, k8⟩ := DataW.trod_int Tryz.underlying3 h8
  simp only [Rf.cells, List.cons.injEq, and_true] at e0 e1 e2 e3 e4 e5 e6 e7 e8
  obtain ⟨rfl, rfl⟩ := e6
  obtain ⟨rfl, rfl⟩ := e7
  subst e0 e1 e2 e3 e4 e5 e8
  have k3' : 0 ≤ a3 ∧ a3 ≤ 255 := bounds_u8 k3
  exact ⟨⟨a0, a1, a2, a3, a4, a5, r6, r7, a8⟩, rfl, r64 k0, r64 k1, r64 k2, k3', r64 k4, r64 k5, k6, k7, r64 k8⟩
theorem list_trod {n : Nat} {v : Value} {y : DataW H × List MemPlace} (h : DataW.trod enc Tryz.prog W 0 (fun _ => true) true n 38 [v] = some y) :
  ∃ (a : Option Addr) (b o κ : Nat) (l : List Po), v = .slice a l.length κ ∧ l.length ≤ κ ∧ κ ≤ maxLen ∧ LstAt poC W a b o l ∧ ∀ p ∈ l, PoR p := by
 obtain ⟨_, _, _, c11⟩ := cellsN
 rcases open_slice rowPo h with ⟨hcs, _⟩ | ⟨a, len, cap, m, k, D, Pl, hcs, _, hl, hm, hmm, _, hall⟩
 ·simp at hcs
  exact ⟨none, 0, 0, 0, [], hcs, by simp, by simp, .inl rfl, by simp⟩
 ·simp at hcs
  simp only [if_true] at hmm
  rw [c11, hmm] at hall
  have each : ∀ i, i < len → ∃ p : Po, (∀ j c, p.cells[j]? = some c → W.cell? (a.add (i * 11 + j)) = some c) ∧ PoR p := fun i hi => by
   obtain ⟨cs', h1, h2⟩ := hall i (by omega)
   obtain ⟨p, rfl, hpr⟩ := po_trod h2
   obtain ⟨_, _, hcell⟩ := World.cells?_some h1
   refine ⟨p, fun j c hj => ?_, hpr⟩
   have hj5 : j < 11 := (List.getElem?_eq_some_iff.1 hj).1
   have := hcell j hj5
   rw [add_add] at this
   rw [this, hj]
  obtain ⟨f, hf⟩ := choose_lt each
  by_cases h0 : len = 0
  ·subst h0
   exact ⟨some a, 0, 0, cap, [], by simpa using hcs, by simp, hm, .inl rfl, by simp⟩
  obtain ⟨b, fo, spot⟩ := a
  have hspot : spot = none := by
   have := (hf 0 (by omega)).1 0 _ rfl
   simpa [Addr.add] using World.cell?_spot this
  subst hspot
  have hc0 := (hf 0 (by omega)).1 0 _ rfl
  have hb0 : ((⟨b, fo, none⟩ : Addr).add (0 * 11 + 0)).block = b := by unfold Addr.add; split <;> rfl
  have hlt := lt_of_cell hc0
  rw [hb0] at hlt
  refine ⟨some ⟨b, fo, none⟩, b, fo, cap, (List.range len).map f, by simpa using hcs, by simpa using hl, hm, .inr ⟨rfl, hlt, fun i x hi => ?_⟩, fun p hp => ?_⟩
  ·rw [List.getElem?_map] at hi
   have hil : i < len := by
    rcases Nat.lt_or_ge i len with h' | h'
    ·exact h'
    ·rw [List.getElem?_eq_none (by simpa using h')] at hi; cases hi
   rw [List.getElem?_range hil] at hi
   simp only [Option.map_some, Option.some.injEq] at hi
   subst hi
   have hc := (hf i hil).1
   refine cellsH_of (by simp [Po.cells, poC]) fun j c hj => ?_
   have := hc j c hj
   rw [Addr.add_lit] at this
   rw [Nat.add_assoc]
   exact this
  ·simp only [List.mem_map, List.mem_range] at hp
   obtain ⟨i, hi, rfl⟩ := hp
   exact (hf i hi).2
theorem kindR_of {l : List Po} (h : ∀ p ∈ l, PoR p) : KindR l := fun i hi => by
 have h1 : i.toNat < l.length := by omega
 have : at_ l i ∈ l := by
  unfold at_
  rw [List.getD_eq_getElem?_getD, List.getElem?_eq_getElem h1]
  exact List.getElem_mem h1
 exact (h _ this).2.2.2.1
theorem refR_of {l : List Po} (h : ∀ p ∈ l, PoR p) : RefR l := fun i hi => by
 have h1 : i.toNat < l.length := by omega
 have : at_ l i ∈ l := by
  unfold at_
  rw [List.getD_eq_getElem?_getD, List.getElem?_eq_getElem h1]
  exact List.getElem_mem h1
 exact ⟨(h _ this).1, (h _ this).2.1⟩
end
end Go.Proofs.YtocabeobfbhajaaGreatDoor.Sx
end
section
set_option linter.unusedVariables false
set_option linter.unusedSimpArgs false
set_option linter.unusedSectionVars false
namespace Go.Proofs.YtocabeobfbhajaaGreatDoor.Sx
noncomputable section
open Go Go.RowKit
theorem Ds.name {G : Gl} {σ : Sg} {M : MS} {w : World} (d : Ds G σ M w) {b o e c sz : Nat} {cl l : Array Value} {t : TypeId} {fr : Nat × Nat} (hob : w.heap[b]? = some (.cells cl t fr)) (hfr : fr = (0, 0) ∨ cl.size ≤ fr.1) (hc : G.sy c = .agg l) (h1 : ∀ v ∈ l.toList, v.oneCell' = true) (hsz : o + l.size + e * sz ≤ cl.size) (hat : ∀ i v, l[i]? = some v → cl[o + i]? = some v) (hni : ¬ Im σ M b) (hno : ¬ G.old b) :
  ∃ σ1 : Sg, σ1.bl = (fun n => if n = M.nx then some (b, o) else σ.bl n) ∧ σ1.cp = (fun n => if n = M.nc then some e else σ.cp n) ∧ σ1.sy = σ.sy ∧ σ.le σ1 ∧
   Ds G σ1 ⟨fun n => if n = M.nx then some (.lst c sz (M.nc + 1)) else M.g n, M.nx + 1, M.nc + 1⟩ w := by
 have hf : σ.bl M.nx = none := d.fresh _ (Nat.le_refl _)
 have hfc : σ.cp M.nc = none := d.freshC _ (Nat.le_refl _)
 let σ1 : Sg := ⟨fun n => if n = M.nx then some (b, o) else σ.bl n, fun n => if n = M.nc then some e else σ.cp n, σ.sy⟩
 have hle : σ.le σ1 := by
  refine ⟨fun n p h => ?_, fun n p h => ?_, rfl⟩
  ·show (if n = M.nx then _ else _) = _
   rw [if_neg (by rintro rfl; rw [hf] at h; cases h)]; exact h
  ·show (if n = M.nc then _ else _) = _
   rw [if_neg (by rintro rfl; rw [hfc] at h; cases h)]; exact h
 refine ⟨σ1, rfl, rfl, rfl, hle, ?_, ?_, ?_, ?_, ?_, d.sy, ?_⟩
 ·intro n ab h
  change (if n = M.nx then _ else _) = some ab at h
  split at h
  ·rename_i e1
   cases h; subst e1
   refine .inl ⟨(b, o), if_pos rfl, _, hob, cl, t, fr, rfl, hfr, l, e * sz, ?_, h1, .inr ⟨M.nc, e, rfl, if_pos rfl, rfl⟩, hsz, hat⟩
   show σ.sy c = _
   rw [d.sy]; exact hc
  ·rename_i e1
   rcases d.blk n ab h with ⟨p, hp, ob, ho, hb⟩ | ⟨e2, e3, e4⟩
   ·exact .inl ⟨p, hle.1 _ _ hp, ob, ho, BO_mono hle hb⟩
   ·refine .inr ⟨?_, Nat.lt_succ_of_lt e3, NL_mono hle e4⟩
    show (if n = M.nx then _ else _) = none
    rw [if_neg e1]; exact e2
 ·intro n m ab ab' p q hnm h1 h2 hp hq
  change (if n = M.nx then _ else _) = some ab at h1
  change (if m = M.nx then _ else _) = some ab' at h2
  change (if n = M.nx then _ else _) = some p at hp
  change (if m = M.nx then _ else _) = some q at hq
  by_cases en : n = M.nx
  ·rw [if_pos en] at hp
   have em : m ≠ M.nx := fun em => hnm (en.trans em.symm)
   rw [if_neg em] at h2 hq
   cases hp
   intro h
   exact hni ⟨m, ab', q, h2, hq, h.symm⟩
  ·rw [if_neg en] at h1 hp
   by_cases em : m = M.nx
   ·rw [if_pos em] at hq
    cases hq
    intro h
    exact hni ⟨n, ab, p, h1, hp, h⟩
   ·rw [if_neg em] at h2 hq
    exact d.inj n m ab ab' p q hnm h1 h2 hp hq
 ·intro n hn
  show (if n = M.nx then _ else _) = none
  have hn : M.nx + 1 ≤ n := hn
  rw [if_neg (by omega)]; exact d.fresh n (by omega)
 ·intro n hn
  show (if n = M.nc then _ else _) = none
  have hn : M.nc + 1 ≤ n := hn
  rw [if_neg (by omega)]; exact d.freshC n (by omega)
 ·intro g hg
  exact hle.1 _ _ (d.glob g hg)
 ·intro k hk
  obtain ⟨o1, o2, o3⟩ := d.old k hk
  refine ⟨o1, o2, ?_⟩
  rintro ⟨n, ab, p, h1, hp, h2⟩
  change (if n = M.nx then _ else _) = some ab at h1
  change (if n = M.nx then _ else _) = some p at hp
  by_cases en : n = M.nx
  ·rw [if_pos en] at hp
   cases hp
   exact hno (by subst h2; exact hk)
  ·rw [if_neg en] at h1 hp
   exact o3 ⟨n, ab, p, h1, hp, h2⟩
structure LRes where
 L : List Value
 sz : Nat
 n : Nat
def SlAt (w : World) (r : LRes) (z : Value) (b : Nat) : Prop := ∃ o κ cl ty fr, z = .slice (some ⟨b, o, none⟩) r.n κ ∧ r.n ≤ κ ∧ w.heap[b]? = some (.cells cl ty fr) ∧ (fr = (0, 0) ∨ cl.size ≤ fr.1) ∧ o + κ * r.sz ≤ cl.size ∧ ∀ i v, r.L[i]? = some v → cl[o + i]? = some v
def FrAll (W : Nat) (w : World) : List LRes → List Value → List Nat → Prop
 | [], [], _ => True
 | r :: rs, z :: zs, av => (r.n = 0 ∧ (∃ a, z = .slice a 0 0) ∧ FrAll W w rs zs av) ∨ (∃ b, b ∉ av ∧ W ≤ b ∧ SlAt w r z b ∧ FrAll W w rs zs (b :: av))
 | _, _, _ => False
def growL : List (Nat × Nat) → St → St
 | [], s => s
 | (c, sz) :: r, s => growL r { mem := Mm.put (some (.lst c sz (Nat.succ s.nc))) s.mem s.nx, nx := Nat.succ s.nx, nc := Nat.succ s.nc }
def slsL (ls : List (Nat × Nat × AV)) (nx nc : Nat) : List AV := match ls with
 | [] => []
 | (c, sz, ln) :: r => .sls nx sz (.int .i64 0) ln (nc + 2) :: slsL r (nx + 1) (nc + 1)
def ResOK (sy : Nat → Value) : List (Nat × Nat × AV) → List LRes → Prop
 | [], [] => True
 | (c, sz, ln) :: ls, r :: rs => sy c = .agg r.L.toArray ∧ r.sz = sz ∧ r.L.length = r.n * r.sz ∧ (∀ v ∈ r.L, v.oneCell' = true) ∧ nz sy ln = some (r.n : Int) ∧ ResOK sy ls rs
 | _, _ => False
theorem grow_all {G : Gl} {W : Nat} {w : World} : ∀ {ls : List (Nat × Nat × AV)} {rs : List LRes} {zs : List Value} {av : List Nat} {σ : Sg} {s : St}, Ds G σ s.ms w → (∀ k, Im σ s.ms k → k < W ∨ k ∈ av) → (∀ k, G.old k → k < W) → FrAll W w rs zs av → ResOK G.sy ls rs → s.nx + ls.length ≤ topName →
  ∃ σ', Ds G σ' (growL (ls.map fun x => (x.1, x.2.1)) s).ms w ∧ Vs σ' (slsL ls s.nx s.nc) zs ∧ (∀ n, n < s.nx → σ'.bl n = σ.bl n) ∧ (∀ n, n < s.nc → σ'.cp n = σ.cp n) ∧ σ'.sy = σ.sy ∧ σ.le σ' ∧ s.nx ≤ (growL (ls.map fun x => (x.1, x.2.1)) s).nx ∧ s.nc ≤ (growL (ls.map fun x => (x.1, x.2.1)) s).nc ∧ ∀ k, Im σ' (growL (ls.map fun x => (x.1, x.2.1)) s).ms k → W ≤ k ∨ Im σ s.ms k := by
 intro ls
 induction ls with
 | nil =>
  intro rs zs av σ s d hI ho hF hR hx
  cases rs with
  | cons r rs => exact hR.elim
  | nil =>
   cases zs with
   | cons z zs => exact hF.elim
   | nil => exact ⟨σ, d, by simp [slsL, Vs], fun _ _ => rfl, fun _ _ => rfl, rfl, Sg.le_refl _, Nat.le_refl _, Nat.le_refl _, fun k h => .inr h⟩
 | cons x ls ih =>
  obtain ⟨c, sz, ln⟩ := x
  intro rs zs av σ s d hI ho hF hR hx
  cases rs with
  | nil => exact hR.elim
  | cons r rs =>
  cases zs with
  | nil => exact hF.elim
  | cons z zs =>
  obtain ⟨r1, r2, r3, r4, r5, hR⟩ := hR
  have hms := newL_ms (s := s) (sz := sz) (c' := c) (by simp only [List.length_cons] at hx; omega)
  simp only [List.length_cons] at hx
  rcases hF with ⟨h0, ⟨a, hz⟩, hF⟩ | ⟨b, hb, hW, ⟨o, κ, cl, ty, fr, s1, s2, s3, s4, s5, s6⟩, hF⟩
  ·have hL : r.L = [] := List.eq_nil_of_length_eq_zero (by rw [r3, h0, Nat.zero_mul])
   obtain ⟨d2, x2⟩ := d.addNil (ab := .lst c sz (s.nc + 1)) (by show σ.sy c = _; rw [d.sy, r1, hL])
   rw [show s.ms.nx = s.nx from rfl, show s.ms.nc = s.nc from rfl, show s.ms.g = s.mem.get from rfl] at d2 x2
   rw [← hms] at d2 x2
   have hfn : σ.bl s.nx = none := d.fresh _ (Nat.le_refl _)
   have hIm : ∀ k, Im σ ({ mem := Mm.put (some (.lst c sz (Nat.succ s.nc))) s.mem s.nx, nx := Nat.succ s.nx, nc := Nat.succ s.nc } : St).ms k → Im σ s.ms k := by
    rintro k ⟨m, ab, p, e1, e2, e3⟩
    rw [hms] at e1
    change (if m = s.nx then _ else _) = some ab at e1
    have hm : m ≠ s.nx := by rintro rfl; rw [hfn] at e2; cases e2
    rw [if_neg hm] at e1
    exact ⟨m, ab, p, e1, e2, e3⟩
   obtain ⟨σ', g1, g2, g3, g4, g5, g6, g7, g8, g9⟩ := ih d2 (fun k hk => hI k (hIm k hk)) ho hF hR (by show Nat.succ s.nx + _ ≤ _; omega)
   refine ⟨σ', g1, ?_, fun n hn => g3 n (Nat.lt_succ_of_lt hn), fun n hn => g4 n (Nat.lt_succ_of_lt hn), g5, g6, Nat.le_trans (Nat.le_succ _) g7, Nat.le_trans (Nat.le_succ _) g8, fun k hk => (g9 k hk).elim .inl fun h => .inr (hIm k h)⟩
   ·simp only [slsL, Vs]
    refine ⟨z, zs, rfl, ?_, g2⟩
    simp only [V]
    refine ⟨0, r.n, rfl, by rw [g5, d.sy]; exact r5, .inl ⟨h0, a, hz⟩⟩
  ·have hbI : ¬ Im σ s.ms b := fun h => (hI b h).elim (fun h => absurd hW (Nat.not_le_of_lt h)) hb
   have hbO : ¬ G.old b := fun h => absurd hW (Nat.not_le_of_lt (ho b h))
   obtain ⟨σ1, n1, n2, n3, n4, d2⟩ := d.name (c := c) (sz := sz) (e := κ - r.n) s3 s4 r1 (by simpa using r4) (by
    rw [List.size_toArray, r3, ← r2, Nat.add_assoc, ← Nat.add_mul, Nat.add_sub_cancel' s2]; exact s5) (by simpa using s6) hbI hbO
   rw [show s.ms.nx = s.nx from rfl] at n1 d2
   rw [show s.ms.nc = s.nc from rfl] at n2 d2
   rw [show s.ms.g = s.mem.get from rfl] at d2
   rw [← hms] at d2
   have hIm : ∀ k, Im σ1 ({ mem := Mm.put (some (.lst c sz (Nat.succ s.nc))) s.mem s.nx, nx := Nat.succ s.nx, nc := Nat.succ s.nc } : St).ms k → k = b ∨ Im σ s.ms k := by
    rintro k ⟨m, ab, p, e1, e2, e3⟩
    rw [hms] at e1
    change (if m = s.nx then _ else _) = some ab at e1
    rw [n1] at e2
    change (if m = s.nx then _ else _) = some p at e2
    by_cases hm : m = s.nx
    ·rw [if_pos hm] at e2; cases e2; exact .inl e3.symm
    ·rw [if_neg hm] at e1 e2; exact .inr ⟨m, ab, p, e1, e2, e3⟩
   obtain ⟨σ', g1, g2, g3, g4, g5, g6, g7, g8, g9⟩ := ih (av := b :: av) d2 (fun k hk => (hIm k hk).elim (fun h => .inr (by rw [h]; exact List.mem_cons_self)) (fun h => (hI k h).imp id (List.mem_cons_of_mem _))) ho hF hR (by show Nat.succ s.nx + _ ≤ _; omega)
   refine ⟨σ', g1, ?_, fun n hn => ?_, fun n hn => ?_, g5.trans n3, Sg.le_trans n4 g6, Nat.le_trans (Nat.le_succ _) g7, Nat.le_trans (Nat.le_succ _) g8, fun k hk => (g9 k hk).elim .inl fun h => (hIm k h).imp (fun h => by rw [h]; exact hW) id⟩
   ·simp only [slsL, Vs]
    refine ⟨z, zs, rfl, ?_, g2⟩
    simp only [V]
    refine ⟨0, r.n, rfl, by rw [g5, n3, d.sy]; exact r5, .inr ⟨(b, o), κ, g6.1 _ _ (by rw [n1]; exact if_pos rfl), by simpa using s1, .inr (.inr ⟨s.nc, κ - r.n, rfl, g6.2.1 _ _ (by rw [n2]; exact if_pos rfl), by omega⟩)⟩⟩
   ·rw [g3 n (Nat.lt_succ_of_lt hn), n1]
    show (if n = s.nx then _ else _) = _
    rw [if_neg (by omega)]
   ·rw [g4 n (Nat.lt_succ_of_lt hn), n2]
    show (if n = s.nc then _ else _) = _
    rw [if_neg (by omega)]
end
end Go.Proofs.YtocabeobfbhajaaGreatDoor.Sx
end
section
set_option linter.unusedVariables false
set_option linter.unusedSimpArgs false
set_option linter.unusedSectionVars false
namespace Go.Proofs.YtocabeobfbhajaaGreatDoor.Sx
noncomputable section
open Go Go.RowKit
def isLs : AV → Bool
 | .sls _ _ _ _ _ => true
 | .ns => true
 | .sl _ _ _ _ _ => true
 | _ => false
def ivQ (sy : Nat → Value) (v : AV) (zs : List Value) : Option (Value × List Value) := match isLs v with
 | true => match zs with
  | z :: r => some (z, r)
  | [] => none
 | false => match iv sy v with
  | some x => some (x, zs)
  | none => none
def ivsQ (sy : Nat → Value) : List AV → List Value → Option (List Value × List Value)
 | [], zs => some ([], zs)
 | .bs n N :: r, zs => match ivsQ sy r zs with
  | some (l, t) => some (bcs n N ++ l, t)
  | none => none
 | v :: r, zs => match ivQ sy v zs with
  | some (x, t) => match ivsQ sy r t with
   | some (l, t') => some (x :: l, t')
   | none => none
  | none => none
def vvQ (sy : Nat → Value) (v : AV) (zs : List Value) : Option (Value × List Value) := match v with
 | .agg cs => match ivsQ sy cs zs with
  | some (l, t) => some (.agg l.toArray, t)
  | none => none
 | v => ivQ sy v zs
def vvsQ (sy : Nat → Value) : List AV → List Value → Option (List Value × List Value)
 | [], zs => some ([], zs)
 | v :: r, zs => match vvQ sy v zs with
  | some (x, t) => match vvsQ sy r t with
   | some (l, t') => some (x :: l, t')
   | none => none
  | none => none
def vtQ (sy : Nat → Value) (v : AV) (zs : List Value) : Option (Value × List Value) := match v with
 | .tup vs => match vvsQ sy vs zs with
  | some (l, t) => some (.tuple l.toArray, t)
  | none => none
 | v => vvQ sy v zs
def slsI (v : AV) : List AV := match isLs v with
 | true => [v]
 | false => []
def slsIs : List AV → List AV
 | [] => []
 | v :: r => slsI v ++ slsIs r
def slsV : AV → List AV
 | .agg cs => slsIs cs
 | v => slsI v
def slsVs : List AV → List AV
 | [] => []
 | v :: r => slsV v ++ slsVs r
def slsT : AV → List AV
 | .tup vs => slsVs vs
 | v => slsV v
theorem Vs_split {σ : Sg} : ∀ {a b : List AV} {z : List Value}, Vs σ (a ++ b) z → ∃ x y, z = x ++ y ∧ Vs σ a x ∧ Vs σ b y
 | [], b, z, h => ⟨[], z, rfl, by simp [Vs], h⟩
 | v :: a, b, z, h => by
  simp only [List.cons_append, Vs] at h
  obtain ⟨u, l, rfl, h1, h2⟩ := h
  obtain ⟨x, y, rfl, g1, g2⟩ := Vs_split h2
  exact ⟨u :: x, y, rfl, by simp only [Vs]; exact ⟨u, x, rfl, h1, g1⟩, g2⟩
theorem Vs_length {σ : Sg} : ∀ {a : List AV} {x : List Value}, Vs σ a x → x.length = a.length
 | [], x, h => by simp only [Vs] at h; subst h; rfl
 | v :: a, x, h => by
  simp only [Vs] at h
  obtain ⟨z, l, rfl, h1, h2⟩ := h
  simp [Vs_length h2]
theorem ivQ_of {σ : Sg} {v : AV} {u : Value} (h : V σ v u) : ∃ zs, Vs σ (slsI v) zs ∧ ∀ t x t', ivQ σ.sy v (zs ++ t) = some (x, t') → u = x ∧ t' = t := by
 unfold slsI ivQ
 cases hl : isLs v
 ·refine ⟨[], by simp [Vs], fun t x t' e => ?_⟩
  simp only [List.nil_append] at e
  cases he : iv σ.sy v with
  | none => rw [he] at e; cases e
  | some y => rw [he] at e; cases e; exact ⟨iv_of h he, rfl⟩
 ·refine ⟨[u], by simp only [Vs]; exact ⟨u, [], rfl, h, rfl⟩, fun t x t' e => ?_⟩
  cases e
  exact ⟨rfl, rfl⟩
theorem ivsQ_cons {sy : Nat → Value} {v : AV} {r : List AV} {zs : List Value} (h : ∀ n N, v ≠ .bs n N) : ivsQ sy (v :: r) zs = (match ivQ sy v zs with
  | some (x, t) => match ivsQ sy r t with
   | some (l, t') => some (x :: l, t')
   | none => none
  | none => none) := by
 cases v <;> first | rfl | exact absurd rfl (h _ _)
theorem ivsQ_of {σ : Sg} : ∀ {cs : List AV} {l : List Value}, Cs σ cs l → ∃ zs, Vs σ (slsIs cs) zs ∧ ∀ t x t', ivsQ σ.sy cs (zs ++ t) = some (x, t') → l = x ∧ t' = t
 | [], l, h => by
  simp only [Cs] at h
  subst h
  exact ⟨[], by simp [slsIs, Vs], fun t x t' e => by cases e; exact ⟨rfl, rfl⟩⟩
 | v :: r, l, h => by
  rcases Cs_cons.1 h with ⟨n, N, l', rfl, rfl, h2⟩ | ⟨y, l', rfl, rfl, h2⟩ | ⟨y, l', rfl, h1, h2⟩
  ·obtain ⟨zs, g1, g2⟩ := ivsQ_of h2
   refine ⟨zs, by simpa [slsIs, slsI, isLs] using g1, fun t x t' e => ?_⟩
   unfold ivsQ at e
   split at e
   case h_2 => cases e
   rename_i he
   cases e
   obtain ⟨e1, e2⟩ := g2 _ _ _ he
   exact ⟨by rw [e1], e2⟩
  ·obtain ⟨zs, g1, g2⟩ := ivsQ_of h2
   refine ⟨zs, by simpa [slsIs, slsI, isLs] using g1, fun t x t' e => ?_⟩
   unfold ivsQ at e
   simp [ivQ, isLs, iv] at e
  ·obtain ⟨z1, g1, g2⟩ := ivQ_of h1
   obtain ⟨z2, g3, g4⟩ := ivsQ_of h2
   refine ⟨z1 ++ z2, by simp only [slsIs]; exact Vs_append g1 g3, fun t x t' e => ?_⟩
   rw [ivsQ_cons (by rintro n N rfl; simp [V] at h1)] at e
   ·split at e
    case h_2 => cases e
    rename_i x1 t1 he1
    rw [List.append_assoc] at he1
    obtain ⟨e1, e2⟩ := g2 _ _ _ he1
    subst e2
    split at e
    case h_2 => cases e
    rename_i he2
    cases e
    obtain ⟨e3, e4⟩ := g4 _ _ _ he2
    exact ⟨by rw [e1, e3], e4⟩
theorem vvQ_of {σ : Sg} {v : AV} {u : Value} (h : V σ v u) : ∃ zs, Vs σ (slsV v) zs ∧ ∀ t x t', vvQ σ.sy v (zs ++ t) = some (x, t') → u = x ∧ t' = t := by
 by_cases hv : ∃ cs, v = .agg cs
 ·obtain ⟨cs, rfl⟩ := hv
  simp only [V] at h
  obtain ⟨l, h1, rfl⟩ := h
  obtain ⟨zs, g1, g2⟩ := ivsQ_of h1
  refine ⟨zs, g1, fun t x t' e => ?_⟩
  simp only [vvQ] at e
  split at e
  case h_2 => cases e
  rename_i he
  cases e
  obtain ⟨e1, e2⟩ := g2 _ _ _ he
  exact ⟨by rw [e1], e2⟩
 ·obtain ⟨zs, g1, g2⟩ := ivQ_of h
  have e1 : slsV v = slsI v := by
   cases v <;> first | rfl | exact absurd ⟨_, rfl⟩ hv
  have e2 : ∀ zs, vvQ σ.sy v zs = ivQ σ.sy v zs := by
   intro zs
   cases v <;> first | rfl | exact absurd ⟨_, rfl⟩ hv
  exact ⟨zs, by rw [e1]; exact g1, fun t x t' e => g2 t x t' (by rw [← e2]; exact e)⟩
theorem vvsQ_of {σ : Sg} : ∀ {cs : List AV} {l : List Value}, Vs σ cs l → ∃ zs, Vs σ (slsVs cs) zs ∧ ∀ t x t', vvsQ σ.sy cs (zs ++ t) = some (x, t') → l = x ∧ t' = t
 | [], l, h => by
  simp only [Vs] at h
  subst h
  exact ⟨[], by simp [slsVs, Vs], fun t x t' e => by cases e; exact ⟨rfl, rfl⟩⟩
 | v :: r, l, h => by
  simp only [Vs] at h
  obtain ⟨y, l', rfl, h1, h2⟩ := h
  obtain ⟨z1, g1, g2⟩ := vvQ_of h1
  obtain ⟨z2, g3, g4⟩ := vvsQ_of h2
  refine ⟨z1 ++ z2, by simp only [slsVs]; exact Vs_append g1 g3, fun t x t' e => ?_⟩
  unfold vvsQ at e
  split at e
  case h_2 => cases e
  rename_i x1 t1 he1
  rw [List.append_assoc] at he1
  obtain ⟨e1, e2⟩ := g2 _ _ _ he1
  subst e2
  split at e
  case h_2 => cases e
  rename_i he2
  cases e
  obtain ⟨e3, e4⟩ := g4 _ _ _ he2
  exact ⟨by rw [e1, e3], e4⟩
theorem vtQ_of {σ : Sg} {v : AV} {u : Value} (h : V σ v u) : ∃ zs, Vs σ (slsT v) zs ∧ ∀ t x t', vtQ σ.sy v (zs ++ t) = some (x, t') → u = x ∧ t' = t := by
 by_cases hv : ∃ cs, v = .tup cs
 ·obtain ⟨cs, rfl⟩ := hv
  simp only [V] at h
  obtain ⟨l, h1, rfl⟩ := h
  obtain ⟨zs, g1, g2⟩ := vvsQ_of h1
  refine ⟨zs, g1, fun t x t' e => ?_⟩
  simp only [vtQ] at e
  split at e
  case h_2 => cases e
  rename_i he
  cases e
  obtain ⟨e1, e2⟩ := g2 _ _ _ he
  exact ⟨by rw [e1], e2⟩
 ·obtain ⟨zs, g1, g2⟩ := vvQ_of h
  have e1 : slsT v = slsV v := by
   cases v <;> first | rfl | exact absurd ⟨_, rfl⟩ hv
  have e2 : ∀ zs, vtQ σ.sy v zs = vvQ σ.sy v zs := by
   intro zs
   cases v <;> first | rfl | exact absurd ⟨_, rfl⟩ hv
  exact ⟨zs, by rw [e1]; exact g1, fun t x t' e => g2 t x t' (by rw [← e2]; exact e)⟩
def oneIn (sy : Nat → Value) : AV → Bool
 | .sym i => (sy i).oneCell'
 | _ => true
theorem iv_one {sy : Nat → Value} {v : AV} {x : Value} (e : iv sy v = some x) (h : oneIn sy v = true) : x.oneCell' = true := by
 cases v <;> simp only [iv, Option.some.injEq, reduceCtorEq] at e <;> subst e <;> first | exact h | rfl
theorem ivQ_to {σ : Sg} {v : AV} {zs t t' : List Value} {x : Value} (h : Vs σ (slsI v) zs) (e : ivQ σ.sy v (zs ++ t) = some (x, t')) (ho : oneIn σ.sy v = true) : V σ v x ∧ t' = t := by
 unfold slsI at h
 unfold ivQ at e
 cases hl : isLs v
 ·rw [hl] at h e
  simp only [Vs] at h
  subst h
  simp only [List.nil_append] at e
  cases he : iv σ.sy v with
  | none => rw [he] at e; cases e
  | some y =>
   rw [he] at e; cases e
   exact ⟨iv_to he (iv_one he ho), rfl⟩
 ·rw [hl] at h e
  simp only [Vs] at h
  obtain ⟨z, l, rfl, h1, rfl⟩ := h
  cases e
  exact ⟨h1, rfl⟩
theorem ivsQ_to {σ : Sg} : ∀ {cs : List AV} {zs t t' : List Value} {l : List Value}, Vs σ (slsIs cs) zs → ivsQ σ.sy cs (zs ++ t) = some (l, t') → cs.all (oneIn σ.sy) = true → Cs σ cs l ∧ t' = t
 | [], zs, t, t', l, h, e, _ => by
  simp only [slsIs, Vs] at h
  subst h
  cases e
  exact ⟨by simp [Cs], rfl⟩
 | v :: r, zs, t, t', l, h, e, ho => by
  simp only [List.all_cons, Bool.and_eq_true] at ho
  obtain ⟨z1, z2, rfl, h1, h2⟩ := Vs_split h
  by_cases hv : ∃ n N, v = .bs n N
  ·obtain ⟨n, N, rfl⟩ := hv
   have h1 : Vs σ [] z1 := h1
   simp only [Vs] at h1
   subst h1
   unfold ivsQ at e
   split at e
   case h_2 => cases e
   rename_i he
   cases e
   obtain ⟨g1, g2⟩ := ivsQ_to h2 he ho.2
   exact ⟨Cs_cons.2 (.inl ⟨n, N, _, rfl, rfl, g1⟩), g2⟩
  ·rw [ivsQ_cons (by rintro n N rfl; exact hv ⟨n, N, rfl⟩)] at e
   split at e
   case h_2 => cases e
   rename_i x1 t1 he1
   rw [List.append_assoc] at he1
   obtain ⟨g1, rfl⟩ := ivQ_to h1 he1 ho.1
   split at e
   case h_2 => cases e
   rename_i he2
   cases e
   obtain ⟨g3, g4⟩ := ivsQ_to h2 he2 ho.2
   exact ⟨Cs_cons.2 (.inr (.inr ⟨_, _, rfl, g1, g3⟩)), g4⟩
def oneVa (sy : Nat → Value) : AV → Bool
 | .agg cs => cs.all (oneIn sy)
 | v => oneIn sy v
def oneTu (sy : Nat → Value) : AV → Bool
 | .tup vs => vs.all (oneVa sy)
 | v => oneVa sy v
theorem vvQ_to {σ : Sg} {v : AV} {zs t t' : List Value} {x : Value} (h : Vs σ (slsV v) zs) (e : vvQ σ.sy v (zs ++ t) = some (x, t')) (ho : oneVa σ.sy v = true) : V σ v x ∧ t' = t := by
 by_cases hv : ∃ cs, v = .agg cs
 ·obtain ⟨cs, rfl⟩ := hv
  simp only [vvQ] at e
  split at e
  case h_2 => cases e
  rename_i he
  cases e
  obtain ⟨g1, g2⟩ := ivsQ_to h he ho
  exact ⟨by simp only [V]; exact ⟨_, g1, rfl⟩, g2⟩
 ·have e1 : slsV v = slsI v := by
   cases v <;> first | rfl | exact absurd ⟨_, rfl⟩ hv
  have e2 : ∀ zs, vvQ σ.sy v zs = ivQ σ.sy v zs := by
   intro zs
   cases v <;> first | rfl | exact absurd ⟨_, rfl⟩ hv
  have e3 : oneVa σ.sy v = oneIn σ.sy v := by
   cases v <;> first | rfl | exact absurd ⟨_, rfl⟩ hv
  rw [e1] at h
  rw [e2] at e
  exact ivQ_to h e (by rw [← e3]; exact ho)
theorem vvsQ_to {σ : Sg} : ∀ {cs : List AV} {zs t t' : List Value} {l : List Value}, Vs σ (slsVs cs) zs → vvsQ σ.sy cs (zs ++ t) = some (l, t') → cs.all (oneVa σ.sy) = true → Vs σ cs l ∧ t' = t
 | [], zs, t, t', l, h, e, _ => by
  simp only [slsVs, Vs] at h
  subst h
  cases e
  exact ⟨by simp [Vs], rfl⟩
 | v :: r, zs, t, t', l, h, e, ho => by
  simp only [List.all_cons, Bool.and_eq_true] at ho
  obtain ⟨z1, z2, rfl, h1, h2⟩ := Vs_split h
  unfold vvsQ at e
  split at e
  case h_2 => cases e
  rename_i x1 t1 he1
  rw [List.append_assoc] at he1
  obtain ⟨g1, rfl⟩ := vvQ_to h1 he1 ho.1
  split at e
  case h_2 => cases e
  rename_i he2
  cases e
  obtain ⟨g3, g4⟩ := vvsQ_to h2 he2 ho.2
  exact ⟨by simp only [Vs]; exact ⟨_, _, rfl, g1, g3⟩, g4⟩
theorem vtQ_to {σ : Sg} {v : AV} {zs t t' : List Value} {x : Value} (h : Vs σ (slsT v) zs) (e : vtQ σ.sy v (zs ++ t) = some (x, t')) (ho : oneTu σ.sy v = true) : V σ v x ∧ t' = t := by
 by_cases hv : ∃ cs, v = .tup cs
 ·obtain ⟨cs, rfl⟩ := hv
  simp only [vtQ] at e
  split at e
  case h_2 => cases e
  rename_i he
  cases e
  obtain ⟨g1, g2⟩ := vvsQ_to h he ho
  exact ⟨by simp only [V]; exact ⟨_, g1, rfl⟩, g2⟩
 ·have e1 : slsT v = slsV v := by
   cases v <;> first | rfl | exact absurd ⟨_, rfl⟩ hv
  have e2 : ∀ zs, vtQ σ.sy v zs = vvQ σ.sy v zs := by
   intro zs
   cases v <;> first | rfl | exact absurd ⟨_, rfl⟩ hv
  have e3 : oneTu σ.sy v = oneVa σ.sy v := by
   cases v <;> first | rfl | exact absurd ⟨_, rfl⟩ hv
  rw [e1] at h
  rw [e2] at e
  exact vvQ_to h e (by rw [← e3]; exact ho)
structure QL where
 tag : Nat
 vs : List AV
 cs : List AV
 nx : Nat
 nc : Nat
 r : AV
 ls : List (Nat × Nat × AV)
noncomputable def lookL (l : List QL) (tag : Nat) (vs cs : List AV) (nx nc : Nat) : Option QL := match l with
 | [] => none
 | e :: r => match Nat.beq e.tag tag, eqAVs e.vs vs, eqAVs e.cs cs, Nat.beq e.nx nx, Nat.beq e.nc nc with
  | true, true, true, true, true => some e
  | _, _, _, _, _ => lookL r tag vs cs nx nc
theorem lookL_ok {tag : Nat} {vs cs : List AV} {nx nc : Nat} {v : QL} : ∀ {l : List QL}, lookL l tag vs cs nx nc = some v → v ∈ l ∧ v.tag = tag ∧ v.vs = vs ∧ v.cs = cs ∧ v.nx = nx ∧ v.nc = nc
 | [], h => by cases h
 | e :: r, h => by
  unfold lookL at h
  split at h
  ·rename_i h1 h2 h3 h4 h5
   cases h
   exact ⟨List.mem_cons_self, Nat.eq_of_beq_eq_true h1, eqAVs_ok _ _ h2, eqAVs_ok _ _ h3, Nat.eq_of_beq_eq_true h4, Nat.eq_of_beq_eq_true h5⟩
  ·exact ⟨List.mem_cons_of_mem _ (lookL_ok h).1, (lookL_ok h).2⟩
noncomputable def growLs : List (Nat × Nat × AV) → St → St
 | [], s => s
 | x :: r, s => growLs r { mem := Mm.put (some (.lst x.1 x.2.1 (Nat.succ s.nc))) s.mem s.nx, nx := Nat.succ s.nx, nc := Nat.succ s.nc }
theorem growLs_eq : ∀ (ls : List (Nat × Nat × AV)) (s : St), growLs ls s = growL (ls.map fun x => (x.1, x.2.1)) s
 | [], s => rfl
 | (c, sz, ln) :: r, s => growLs_eq r _
noncomputable def sumB (l : List QE) (m : List QL) (f : Nat) (vs : List AV) (s : St) : Option (R (EE × St)) := match lookL m f vs (keyC s vs) s.nx s.nc with
 | some e => some (.ok (.ret e.r, growLs e.ls s))
 | none => sumT l f vs s
def COKL (G : Gl) (P : Program) (e : QL) : Prop := ∀ σ s w xs, Ds G σ s.ms w → Vs σ e.vs xs → keyC s e.vs = e.cs → s.nx = e.nx → s.nc = e.nc → Calls P e.tag xs.toArray w fun ec w' => ∃ σ', EV σ' (.ret e.r) ec ∧ Ds G σ' (growLs e.ls s).ms w' ∧ Ex σ s.ms w σ' (growLs e.ls s).ms w'
def CsOKL (G : Gl) (P : Program) : List QL → Prop
 | [] => True
 | e :: r => COKL G P e ∧ CsOKL G P r
theorem CsOKL.mem {G : Gl} {P : Program} : ∀ {l : List QL}, CsOKL G P l → ∀ e ∈ l, COKL G P e
 | e :: r, h, x, hx => by
  rcases List.mem_cons.1 hx with rfl | hx
  ·exact h.1
  ·exact h.2.mem x hx
theorem sumB_ok {G : Gl} {P : Program} {l : List QE} {m : List QL} (h : CsOK G P l) (hm : CsOKL G P m) : ∀ f vs s e s', sumB l m f vs s = some (.ok (e, s')) → ∀ σ w xs, Ds G σ s.ms w → Vs σ vs xs → Calls P f xs.toArray w fun ec w' => ∃ σ', EV σ' e ec ∧ Ds G σ' s'.ms w' ∧ Ex σ s.ms w σ' s'.ms w' := by
 intro f vs s e s' hs σ w xs hd hv
 unfold sumB at hs
 split at hs
 ·rename_i q hq
  cases hs
  obtain ⟨h1, h2, h3, h4, h5, h6⟩ := lookL_ok hq
  have := hm.mem _ h1 σ s w xs hd (by rw [h3]; exact hv) (by rw [h3, h4]) h5.symm h6.symm
  rw [h2] at this
  exact this
 ·exact h.sum f vs s e s' hs σ w xs hd hv
theorem EnvOK.syM {E : Env} (ok : EnvOK E) {G : Gl} {l cal : List QE} {cm : List QL} {lps : List LE} (hq : QsOK G E.P l) (hc : CsOK G E.P cal) (hm : CsOKL G E.P cm) (hl : LpsOK (E.sy G l (sumB cal cm) (lpA lps)) lps) : EnvOK (E.sy G l (sumB cal cm) (lpA lps)) :=
 EnvOK.sy ok hq (sumB_ok hc hm) fun f fn c h1 h2 => LpsOK.fn hl f fn c h1 h2
theorem q_callT {G : Gl} {P : Program} {f : Nat} {vs cs : List AV} {r : AV} {z : Value} {Q : World → List Value → Prop} (hs : SpecL G vs cs Q) (hr : vtQ G.sy r [] = some (z, [])) (hl : slsT r = []) (ho : oneTu G.sy r = true)
  (h : ∀ w xs, OldAt G w → Q w xs → Calls P f xs.toArray w fun ec w' => ec = .returned z ∧ Chg (fun _ => False) w w') : COK G P ⟨f, [.tup vs, .tup cs], r⟩ := by
 refine ⟨vs, cs, rfl, fun σ s w xs d hv hk => ?_⟩
 refine (h w xs (fun k hk => ⟨(d.old k hk).1, (d.old k hk).2.1⟩) (hs.get d hv hk)).mono fun ec w' ⟨h1, h2⟩ => ⟨⟨z, h1, ?_⟩, h2⟩
 exact (vtQ_to (zs := []) (t := []) (by rw [hl]; simp [Vs]) (by rw [d.sy]; exact hr) (by rw [d.sy]; exact ho)).1
theorem slsL_length : ∀ (ls : List (Nat × Nat × AV)) (a b : Nat), (slsL ls a b).length = ls.length
 | [], _, _ => rfl
 | (c, sz, ln) :: r, a, b => by simp [slsL, slsL_length r]
theorem q_callN {G : Gl} {P : Program} {f : Nat} {vs cs : List AV} {nx nc : Nat} {r : AV} {ls : List (Nat × Nat × AV)} {rs : List LRes} {F : List Value → Value} {Q : World → List Value → Prop} (hs : SpecL G vs cs Q) (hb : Nat.ble (nx + ls.length) topName = true) (hl : slsT r = slsL ls nx nc) (hr : ResOK G.sy ls rs) (ho : oneTu G.sy r = true) (hF : ∀ zs, zs.length = ls.length → vtQ G.sy r zs = some (F zs, []))
  (h : ∀ w xs, OldAt G w → Q w xs → Calls P f xs.toArray w fun ec w' => ∃ zs, ec = .returned (F zs) ∧ FrAll w.heap.size w' rs zs [] ∧ Chg (fun _ => False) w w') : COKL G P ⟨f, vs, cs, nx, nc, r, ls⟩ := by
 intro σ s w xs d hv hk h1 h2
 have hO : OldAt G w := fun k hk => ⟨(d.old k hk).1, (d.old k hk).2.1⟩
 refine (h w xs hO (hs.get d hv hk)).mono fun ec w' ⟨zs, g1, g2, g3⟩ => ?_
 obtain ⟨d2, x2⟩ := d.quiet g3
 have h1 : s.nx = nx := h1
 have h2 : s.nc = nc := h2
 obtain ⟨σ', e1, e2, e3, e4, e5, e6, e7, e8, e9⟩ := grow_all (ls := ls) (W := w.heap.size) d2 (fun k hk => .inl (by
  obtain ⟨m, ab, p, a1, a2, a3⟩ := hk
  obtain ⟨ob, b1, _⟩ := d.blkP a1 a2
  rw [← a3]; exact lt_of_get b1)) (fun k hk => (hO k hk).1) g2 hr (by rw [h1]; exact Nat.le_of_ble_eq_true hb)
 rw [← growLs_eq] at e1 e7 e8 e9
 refine ⟨σ', ⟨F zs, ?_, g1⟩, e1, ⟨e3, e4, e5, e7, e8, fun k hk => (e9 k hk).imp id id, ?_⟩⟩
 ·have hlen : zs.length = ls.length := by
   have := Vs_length e2
   rw [this]
   exact slsL_length ls _ _
  have hsy : σ'.sy = G.sy := e5.trans d.sy
  exact (vtQ_to (t := []) (by rw [hl, ← h1, ← h2]; exact e2) (by rw [List.append_nil, hsy]; exact hF zs hlen) (by rw [hsy]; exact ho)).1
 ·exact g3.mono fun _ _ hk => hk.elim
end
end Go.Proofs.YtocabeobfbhajaaGreatDoor.Sx
end
section
set_option linter.unusedVariables false
set_option linter.unusedSimpArgs false
set_option linter.unusedSectionVars false
namespace Go.Proofs.YtocabeobfbhajaaGreatDoor.Sx
noncomputable section
open Go Go.RowKit
def isAB (x : Option AB) (ab : AB) : Bool := match x with
 | some (.lst c sz y) => match ab with
  | .lst c' sz' y' => match Nat.beq c c', Nat.beq sz sz', Nat.beq y y' with
   | true, true, true => true
   | _, _, _ => false
  | _ => false
 | some (.cells cs y z) => match ab with
  | .cells cs' y' z' => match eqAVs cs cs', Nat.beq y y', Nat.beq z z' with
   | true, true, true => true
   | _, _, _ => false
  | _ => false
 | _ => false
theorem isAB_ok {x : Option AB} {ab : AB} (h : isAB x ab = true) : x = some ab := by
 unfold isAB at h
 split at h
 ·split at h
  ·split at h
   ·rename_i h1 h2 h3
    rw [Nat.eq_of_beq_eq_true h1, Nat.eq_of_beq_eq_true h2, Nat.eq_of_beq_eq_true h3]
   ·cases h
  ·cases h
 ·split at h
  ·split at h
   ·rename_i h1 h2 h3
    rw [eqAVs_ok _ _ h1, Nat.eq_of_beq_eq_true h2, Nat.eq_of_beq_eq_true h3]
   ·cases h
  ·cases h
 ·cases h
noncomputable def isABs (s : St) : List (Nat × AB) → Bool
 | [] => true
 | x :: r => match isAB (s.mem.get x.1) x.2 with
  | true => isABs s r
  | false => false
noncomputable def isRL (v : AV) (bs : List (Nat × AB)) (x : R (EE × St)) : Bool := match x with
 | .ok (.ret u, s) => match eqAV u v with
  | true => isABs s bs
  | false => false
 | _ => false
theorem isRL_ok {v : AV} {bs : List (Nat × AB)} {x : R (EE × St)} (h : isRL v bs x = true) : ∃ s, x = .ok (.ret v, s) ∧ isABs s bs = true := by
 unfold isRL at h
 cases x with
 | no c => cases h
 | ok r =>
  obtain ⟨e, s⟩ := r
  cases e with
  | pan v => cases h
  | ret u =>
   dsimp only at h
   split at h
   ·rename_i h1
    rw [eqAV_ok _ _ h1]; exact ⟨s, rfl, h⟩
   ·cases h
def LsOK (sy : Nat → Value) : List Nat → List AV → List LRes → List (Nat × AB) → Prop
 | _, [], [], [] => True
 | used, .ns :: vs, r :: rs, bs => r.n = 0 ∧ LsOK sy used vs rs bs
 | used, .sls b sz o ln x :: vs, r :: rs, (b', ab) :: bs => (b' = b ∧ b ∉ used ∧ (∃ c y, ab = .lst c sz y ∧ sy c = .agg r.L.toArray ∧ (x = 0 ∨ x = y + 1 ∧ 1 ≤ y)) ∧ nz sy o = some ((0 : Nat) : Int) ∧ nz sy ln = some (r.n : Int) ∧ r.sz = sz ∧ r.L.length = r.n * r.sz) ∧ LsOK sy (b :: used) vs rs bs
 | used, .sl b o n c x :: vs, r :: rs, (b', ab) :: bs => (b' = b ∧ b ∉ used ∧ o = 0 ∧ c = n ∧ r.n = n ∧ r.L.length = n * r.sz ∧ ∃ cs y z, ab = .cells cs y z ∧ ivs sy cs = some r.L ∧ (x = 0 ∨ x = y ∧ z = r.sz)) ∧ LsOK sy (b :: used) vs rs bs
 | _, _, _, _ => False
theorem fr_all {G : Gl} {σ : Sg} {s : St} {w : World} {W : Nat} (d : Ds G σ s.ms w) (hI : ∀ k, Im σ s.ms k → W ≤ k) : ∀ {vs : List AV} {rs : List LRes} {bs : List (Nat × AB)} {zs : List Value} {av used : List Nat}, LsOK σ.sy used vs rs bs → isABs s bs = true → Vs σ vs zs → (∀ a ∈ av, ∃ m ab p, m ∈ used ∧ s.ms.g m = some ab ∧ σ.bl m = some p ∧ p.1 = a) → FrAll W w rs zs av
 | [], rs, bs, zs, av, used, hl, hb, hv, ha => by
  simp only [Vs] at hv
  subst hv
  cases rs with
  | nil => trivial
  | cons r rs => cases bs <;> exact hl.elim
 | v :: vs, [], bs, zs, av, used, hl, hb, hv, ha => by
  cases v <;> cases bs <;> exact hl.elim
 | v :: vs, r :: rs, bs, zs, av, used, hl, hb, hv, ha => by
  simp only [Vs] at hv
  obtain ⟨z, zs, rfl, h1, h2⟩ := hv
  by_cases hn : v = .ns
  ·subst hn
   have hl : r.n = 0 ∧ LsOK σ.sy used vs rs bs := by cases bs <;> exact hl
   simp only [V] at h1
   exact .inl ⟨hl.1, ⟨none, h1⟩, fr_all d hI hl.2 hb h2 ha⟩
  ·cases bs with
   | nil => cases v <;> first | exact hl.elim | exact absurd rfl hn
   | cons x bs =>
    obtain ⟨b', ab⟩ := x
    have hb' : isAB (s.mem.get b') ab = true ∧ isABs s bs = true := by
     unfold isABs at hb
     split at hb
     ·rename_i h; exact ⟨h, hb⟩
     ·cases hb
    have hg := isAB_ok hb'.1
    cases v <;> first | exact hl.elim | skip
    case ns => exact absurd rfl hn
    case sls b sz o ln x =>
     obtain ⟨⟨rfl, hu, ⟨c, y, rfl, hc, hx⟩, ho, hln, hsz, hL⟩, hl⟩ := hl
     simp only [V] at h1
     obtain ⟨oz, n, e1, e2, h1⟩ := h1
     rw [ho] at e1
     rw [hln] at e2
     have t1 : oz = 0 := by injection e1 with e1; omega
     have t2 : n = r.n := by injection e2 with e2; omega
     subst t1; subst t2
     rcases h1 with ⟨h0, aa, rfl⟩ | ⟨p, κ, hp, rfl, hK⟩
     ·exact .inl ⟨h0, ⟨aa, rfl⟩, fr_all d hI hl hb'.2 h2 fun a h => (ha a h).imp fun m ⟨ab, p, k1, k2⟩ => ⟨ab, p, List.mem_cons_of_mem _ k1, k2⟩⟩
     ·obtain ⟨ob, hob, cl, ty, fr, rfl, hfr, l, ext, k1, k2, k3, k4, k5⟩ := d.blkP hg hp
      have hl' : l = r.L.toArray := by rw [hc] at k1; cases k1; rfl
      subst hl'
      refine .inr ⟨p.1, fun hm => ?_, hI _ ⟨_, _, p, hg, hp, rfl⟩, ⟨p.2, κ, cl, ty, fr, by simp, ?_, hob, hfr, ?_, by simpa using k5⟩, fr_all d hI hl hb'.2 h2 fun a h => ?_⟩
      ·obtain ⟨m, ab, q, j1, j2, j3, j4⟩ := ha _ hm
       exact d.inj m b' ab _ q p (by rintro rfl; exact hu j1) j2 hg j3 hp j4
      ·rcases hK with ⟨_, e⟩ | ⟨_, e⟩ | ⟨_, _, _, _, e⟩ <;> omega
      ·rw [List.size_toArray, hL] at k4
       rcases hx with rfl | ⟨rfl, hy⟩
       ·rcases hK with ⟨_, e⟩ | ⟨e, _⟩ | ⟨_, _, e, _⟩
        ·subst e; omega
        ·cases e
        ·omega
       ·rcases hK with ⟨e, _⟩ | ⟨e, e'⟩ | ⟨i, k, e, e', e''⟩
        ·omega
        ·omega
        ·rcases k3 with ⟨k3, _⟩ | ⟨i', k', k3, k6, k7⟩
         ·omega
         ·have : i = i' := by omega
          subst this
          rw [e'] at k6
          cases k6
          rw [e'', Nat.add_mul, hsz, ← k7]
          rw [hsz] at k4
          omega
      ·rcases List.mem_cons.1 h with rfl | h
       ·exact ⟨b', _, p, List.mem_cons_self, hg, hp, rfl⟩
       ·exact (ha a h).imp fun m ⟨ab, p, k1, k2⟩ => ⟨ab, p, List.mem_cons_of_mem _ k1, k2⟩
    case sl b o n c x =>
     obtain ⟨⟨rfl, hu, rfl, rfl, hn', hL, cs, y, zz, rfl, hcs, hx⟩, hl⟩ := hl
     simp only [V] at h1
     obtain ⟨p, κ, hp, rfl, hK⟩ := h1
     obtain ⟨ob, hob, cl, ty, fr, rfl, hfr, l, ext, k1, k3, k4, k5⟩ := d.blkP hg hp
     have hl' : l = r.L := ivs_of k1 hcs
     subst hl'
     refine .inr ⟨p.1, fun hm => ?_, hI _ ⟨_, _, p, hg, hp, rfl⟩, ⟨p.2, κ, cl, ty, fr, by rw [hn']; simp, ?_, hob, hfr, ?_, by simpa using k5⟩, fr_all d hI hl hb'.2 h2 fun a h => ?_⟩
     ·obtain ⟨m, ab, q, j1, j2, j3, j4⟩ := ha _ hm
      exact d.inj m b' ab _ q p (by rintro rfl; exact hu j1) j2 hg j3 hp j4
     ·rcases hK with ⟨_, e⟩ | ⟨_, _, _, _, e⟩ <;> omega
     ·rw [hL] at k4
      rcases hx with rfl | ⟨rfl, rfl⟩
      ·rcases hK with ⟨_, e⟩ | ⟨_, _, e, _⟩
       ·subst e; omega
       ·omega
      ·rcases hK with ⟨e, e'⟩ | ⟨i, k, e, e', e''⟩
       ·subst e'; omega
       ·rcases k3 with ⟨k3, _⟩ | ⟨i', k', k3, k6, k7⟩
        ·omega
        ·have : i = i' := by omega
         subst this
         rw [e'] at k6
         cases k6
         rw [e'', Nat.add_mul, ← k7]
         omega
     ·rcases List.mem_cons.1 h with rfl | h
      ·exact ⟨b', _, p, List.mem_cons_self, hg, hp, rfl⟩
      ·exact (ha a h).imp fun m ⟨ab, p, k1, k2⟩ => ⟨ab, p, List.mem_cons_of_mem _ k1, k2⟩
theorem leafLL {E : Env} {n0 : Nat} {Y : Nat → Value} {w : World} (hG : E.G = Gw n0 Y w) (ok : EnvOK E) (hrd : E.rd = none) {f lf n : Nat} {vs : List AV} {v : AV} {xs : List Value} {bs : List (Nat × AB)} {rs : List LRes}
  (hv : vvs Y vs = some xs) (ho : onesL vs xs = true) (h : isRL v bs (funA E (drwA E) lf n (.fn f) vs ⟨Mm.lf, n0, 0⟩) = true) (hl : LsOK Y [] (slsT v) rs bs) :
  Calls E.P f xs.toArray w fun e w' => ∃ zs, zs.length = (slsT v).length ∧ (∀ x, vtQ Y v zs = some (x, []) → e = .returned x) ∧ FrAll w.heap.size w' rs zs [] ∧ Chg (fun _ => False) w w' := by
 have hd := Ds.bareW n0 Y w
 rw [← hG] at hd
 obtain ⟨s', h, hb⟩ := isRL_ok h
 have hno : ∀ k, ¬ Im (⟨fun m => if m < n0 then some (m, 0) else none, fun _ => none, Y⟩ : Sg) (⟨Mm.lf, n0, 0⟩ : St).ms k := by
  rintro k ⟨m, ab, p, e1, _⟩
  rw [show (⟨Mm.lf, n0, 0⟩ : St).ms.g m = none from Mm.get_lf m] at e1
  cases e1
 refine ((funA_sound hrd ok lf n).1 f vs _ (.ret v) s' h _ w xs hd (vvs_to (by exact hv) ho)).mono fun e w' ⟨σ', g1, g2, g3⟩ => ?_
 obtain ⟨y, hy, rfl⟩ := g1
 have hsy : σ'.sy = Y := g3.sy
 obtain ⟨zs, k1, k2⟩ := vtQ_of hy
 refine ⟨zs, Vs_length k1, fun x hx => ?_, fr_all g2 (fun k hk => (g3.im k hk).elim id fun h => (hno k h).elim) (by rw [hsy]; exact hl) hb k1 (fun a h => by cases h), g3.chg.mono fun k _ hk => (hno k hk).elim⟩
 rw [(k2 [] x [] (by rw [List.append_nil, hsy]; exact hx)).1]
end
end Go.Proofs.YtocabeobfbhajaaGreatDoor.Sx
end
section
set_option linter.unusedVariables false
set_option linter.unusedSectionVars false
namespace Go.Proofs.YtocabeobfbhajaaGreatDoor.Sx
noncomputable section
open Go Go.RowKit
theorem QsOK.nil {G : Gl} {P : Program} : QsOK G P [] := trivial
theorem QsOK.cons {G : Gl} {P : Program} {e : QE} {l : List QE} (h : QOK G P e) (t : QsOK G P l) : QsOK G P (e :: l) := ⟨h, t⟩
theorem QsOK.app {G : Gl} {P : Program} : ∀ {l m : List QE}, QsOK G P l → QsOK G P m → QsOK G P (l ++ m)
 | [], _, _, h => h
 | _ :: _, _, h, g => ⟨h.1, h.2.app g⟩
theorem CsOK.nil {G : Gl} {P : Program} : CsOK G P [] := trivial
theorem CsOK.cons {G : Gl} {P : Program} {e : QE} {l : List QE} (h : COK G P e) (t : CsOK G P l) : CsOK G P (e :: l) := ⟨h, t⟩
theorem CsOK.app {G : Gl} {P : Program} : ∀ {l m : List QE}, CsOK G P l → CsOK G P m → CsOK G P (l ++ m)
 | [], _, _, h => h
 | _ :: _, _, h, g => ⟨h.1, h.2.app g⟩
theorem CsOKL.nil {G : Gl} {P : Program} : CsOKL G P [] := trivial
theorem CsOKL.cons {G : Gl} {P : Program} {e : QL} {l : List QL} (h : COKL G P e) (t : CsOKL G P l) : CsOKL G P (e :: l) := ⟨h, t⟩
theorem CsOKL.app {G : Gl} {P : Program} : ∀ {l m : List QL}, CsOKL G P l → CsOKL G P m → CsOKL G P (l ++ m)
 | [], _, _, h => h
 | _ :: _, _, h, g => ⟨h.1, h.2.app g⟩
theorem qsN {G : Gl} {P : Program} : QsOK G P [] := trivial
theorem qsC {G : Gl} {P : Program} {e : QE} {l : List QE} (h : QOK G P e) (t : QsOK G P l) : QsOK G P (e :: l) := ⟨h, t⟩
theorem qsA {G : Gl} {P : Program} {l m : List QE} (h : QsOK G P l) (g : QsOK G P m) : QsOK G P (l ++ m) := h.app g
theorem csN {G : Gl} {P : Program} : CsOK G P [] := trivial
theorem csC {G : Gl} {P : Program} {e : QE} {l : List QE} (h : COK G P e) (t : CsOK G P l) : CsOK G P (e :: l) := ⟨h, t⟩
theorem csA {G : Gl} {P : Program} {l m : List QE} (h : CsOK G P l) (g : CsOK G P m) : CsOK G P (l ++ m) := h.app g
theorem cmN {G : Gl} {P : Program} : CsOKL G P [] := trivial
theorem cmC {G : Gl} {P : Program} {e : QL} {l : List QL} (h : COKL G P e) (t : CsOKL G P l) : CsOKL G P (e :: l) := ⟨h, t⟩
theorem cmA {G : Gl} {P : Program} {l m : List QL} (h : CsOKL G P l) (g : CsOKL G P m) : CsOKL G P (l ++ m) := h.app g
def Ev (E : Env) (n : Nat) (L : List Value) (w : World) (t c : List QE) (m : List QL) (p : List LE) : Env := E.sy (Gw n (syL L) w) t (sumB c m) (lpA p)
def LpsA (E : Env) (n : Nat) (L : List Value) (w : World) (l : List LE) : Prop := ∀ (t c : List QE) (m : List QL) (p : List LE), LpsOK (Ev E n L w t c m p) l
theorem Ev.ok {E : Env} (ok : EnvOK E) {n : Nat} {L : List Value} {w : World} {t c : List QE} {m : List QL} {p : List LE} (hq : QsOK (Gw n (syL L) w) E.P t) (hc : CsOK (Gw n (syL L) w) E.P c) (hm : CsOKL (Gw n (syL L) w) E.P m) (hl : LpsA E n L w p) : EnvOK (Ev E n L w t c m p) := EnvOK.syM ok hq hc hm (hl t c m p)
theorem LpsA.nil {E : Env} {n : Nat} {L : List Value} {w : World} : LpsA E n L w [] := fun _ _ _ _ => trivial
theorem LpsOK.app {E : Env} : ∀ {l m : List LE}, LpsOK E l → LpsOK E m → LpsOK E (l ++ m)
 | [], _, _, h => h
 | _ :: _, _, h, g => ⟨h.1, h.2.app g⟩
theorem LpsA.app {E : Env} {n : Nat} {L : List Value} {w : World} {l m : List LE} (h : LpsA E n L w l) (g : LpsA E n L w m) : LpsA E n L w (l ++ m) := fun t c k p => (h t c k p).app (g t c k p)
theorem lpN {E : Env} {n : Nat} {L : List Value} {w : World} : LpsA E n L w [] := LpsA.nil
theorem lpA_ {E : Env} {n : Nat} {L : List Value} {w : World} {l m : List LE} (h : LpsA E n L w l) (g : LpsA E n L w m) : LpsA E n L w (l ++ m) := h.app g
def RndS (P : Program) (n f k : Nat) (w : World) (H X : Head) (Lh L : List Value) (x : XE) : Prop := ∀ (σ0 : Sg) (w0 : World) (I0 : Nat → Prop) (a : Act) (w1 : World), Hd (Gw n (syL []) w) H (ntF P f) σ0 w0 I0 (syL Lh) a w1 →
 (loopF P f k).wpIn (Wd none) 0 P (fun e a' w' => e = exitOf x ∧ Hd (Gw n (syL []) w) X (ntF P f) σ0 w0 I0 (syL L) a' w') a w1
def RdsS (P : Program) (n f k : Nat) (w : World) (H X : Head) (Lh L : List Value) (x : XE) (fu : Nat) : Prop := ∀ (σ0 : Sg) (w0 : World) (I0 : Nat → Prop) (a : Act) (w1 : World), Hd (Gw n (syL []) w) H (ntF P f) σ0 w0 I0 (syL Lh) a w1 →
 Code.roundsIn (Wd none) 0 P (loopF P f k) (fun e a' w' => e = exitOf x ∧ Hd (Gw n (syL []) w) X (ntF P f) σ0 w0 I0 (syL L) a' w') fu a w1
theorem rndS {E : Env} {n0 f k : Nat} {w : World} {H X : Head} {Lh L L' : List Value} {x : XE} {t c : List QE} {m : List QL} {p : List LE} (lf n Kh : Nat) (r : Rn) (nils : List Nat) (ok : EnvOK E) (hq : QsOK (Gw n0 (syL L) w) E.P t) (hc : CsOK (Gw n0 (syL L) w) E.P c) (hm : CsOKL (Gw n0 (syL L) w) E.P m) (hp : LpsA E n0 L w p)
  (hG : syL L 0 = .agg #[] ∧ E.rd = none) (hnt : (Nat.ble (ntF E.P f) 512 && lowH H Kh && Nat.ble n0 H.n0 && Nat.beq X.n0 H.n0 && Nat.beq X.c0 H.c0) = true)
  (ck : chkR X r nils x (execL (lpA p f) (loopF E.P f k) (Ev E n0 L w t c m p) (funA (Ev E n0 L w t c m p) (drwA (Ev E n0 L w t c m p)) lf n) (drwA (Ev E n0 L w t c m p)) (ntF E.P f) lf H.T [] H.st) = true)
  (agh : Lh.take Kh = L.take Kh) (ag : L.take r.K = L'.take r.K) (hv : OutsOK (syL L) (syL L') r.K r.outs) : RndS E.P n0 f k w H X Lh L' x := by
 simp only [Bool.and_eq_true] at hnt
 obtain ⟨⟨⟨⟨h1, h2⟩, h3⟩, h4⟩, h5⟩ := hnt
 exact fun σ0 w0 I0 a w1 hH => round_step (E := Ev E n0 L w t c m p) (G := Gw n0 (syL []) w) rfl hG.1 hG.2 (Ev.ok ok hq hc hm hp) h1 (hp t c m p) ck h2 (agreeL agh) (Nat.eq_of_beq_eq_true h4) (Nat.eq_of_beq_eq_true h5) h3 (agreeL ag) hv hH
theorem rndGo {P : Program} {n f k : Nat} {w : World} {H X : Head} {Lh La Lo : List Value} {x : XE} {fu : Nat} (h : RndS P n f k w H H Lh La .normal) (g : RdsS P n f k w H X La Lo x fu) : RdsS P n f k w H X Lh Lo x (fu + 1) :=
 fun σ0 w0 I0 a w1 hH => rounds_go (h σ0 w0 I0 a w1 hH) (g σ0 w0 I0)
theorem rndEnd {P : Program} {n f k : Nat} {w : World} {H X : Head} {Lh Lo : List Value} {x : XE} {fu : Nat} (hx : exitOf x ≠ .normal) (h : RndS P n f k w H X Lh Lo x) : RdsS P n f k w H X Lh Lo x (fu + 1) :=
 fun σ0 w0 I0 a w1 hH => rounds_end hx (h σ0 w0 I0 a w1 hH) fun a' w' hI => ⟨rfl, hI⟩
theorem loopS {E : Env} {n0 f k : Nat} {w : World} {H X : Head} {L0 Lo L : List Value} {x : XE} {r : Rn} {nils : List Nat} (hG : syL L 0 = .agg #[]) (hx : match x with | .pan _ => false | _ => true)
  (hnt : (Nat.ble n0 H.n0 && Nat.beq X.n0 H.n0 && Nat.beq X.c0 H.c0 && lowH X X.K' && nodupN ((loopsOf (bodyF E.P f)).map fstR)) = true) (ag : L.take r.K = L0.take r.K) (hv : OutsOK (syL L) (syL L0) r.K r.outs) (ago : Lo.take X.K' = L.take X.K') {fu : Nat} (g : RdsS E.P n0 f k w H X L0 Lo x fu) :
  LpsA E n0 L w [⟨f, k, lpG H r nils X x⟩] := by
 simp only [Bool.and_eq_true] at hnt
 obtain ⟨⟨⟨⟨h1, h2⟩, h3⟩, h4⟩, h5⟩ := hnt
 exact fun t c m p => ⟨loop_step (E := Ev E n0 L w t c m p) (G := Gw n0 (syL []) w) rfl hG hx h1 (Nat.eq_of_beq_eq_true h2) (Nat.eq_of_beq_eq_true h3) h4 (agreeL ag) hv (agreeL ago) (n := fu) g h5, trivial⟩
theorem leafS {E : Env} {n0 : Nat} {L : List Value} {w : World} {t c : List QE} {m : List QL} {p : List LE} {f : Nat} {vs : List AV} {v : AV} {xs : List Value} {x : Value} (lf n : Nat) (ok : EnvOK E) (hq : QsOK (Gw n0 (syL L) w) E.P t) (hc : CsOK (Gw n0 (syL L) w) E.P c) (hm : CsOKL (Gw n0 (syL L) w) E.P m) (hp : LpsA E n0 L w p) (hrd : E.rd = none)
  (hv : vvs (syL L) vs = some xs) (ho : onesL vs xs = true) (h : isR v (funA (Ev E n0 L w t c m p) (drwA (Ev E n0 L w t c m p)) lf n (.fn f) vs ⟨Mm.lf, n0, 0⟩) = true) (hx : vt (syL L) v = some x) : Calls E.P f xs.toArray w fun e w' => e = .returned x ∧ Chg (fun _ => False) w w' :=
 leafL (E := Ev E n0 L w t c m p) rfl (Ev.ok ok hq hc hm hp) hrd hv ho h hx
end
end Go.Proofs.YtocabeobfbhajaaGreatDoor.Sx
end
section
set_option linter.unusedVariables false
set_option linter.unusedSimpArgs false
namespace Go.Proofs.YtocabeobfbhajaaGreatDoor.Sx
noncomputable section
open Go Go.RowKit
noncomputable def cntA (N c n : Nat) : Nat := Nat.rec (motive := fun _ => Nat) 0 (fun i ih => Bool.rec (motive := fun _ => Nat) ih (Nat.succ ih) (Nat.beq (bget N i) c)) n
noncomputable def ixbA (N c n : Nat) : Nat → Int := Nat.rec (motive := fun _ => Nat → Int) (fun _ => .negSucc 0) (fun _ ih i => Bool.rec (motive := fun _ => Int) (ih (Nat.succ i)) (.ofNat i) (Nat.beq (bget N i) c)) n
theorem unpack_map (n N : Nat) : unpack n N = (List.range n).map fun i => UInt8.ofNat (bget N i) := by
 apply List.ext_getElem?
 intro i
 rcases Nat.lt_or_ge i n with h | h
 ·rw [unpack_bget n N i h, List.getElem?_map, List.getElem?_range h]; rfl
 ·rw [List.getElem?_eq_none (by rw [unpack_length]; exact h), List.getElem?_eq_none (by simpa using h)]
theorem beq_byte {a b : Nat} (ha : a < 256) (hb : b < 256) : (UInt8.ofNat a == UInt8.ofNat b) = Nat.beq a b := by
 cases h : Nat.beq a b with
 | true => rw [Nat.eq_of_beq_eq_true h]; simp
 | false =>
  have hne := beq_false_ne h
  simp only [beq_eq_false_iff_ne, ne_eq]
  intro e
  have := congrArg UInt8.toNat e
  simp at this
  omega
theorem cntA_ok (N c : Nat) (hc : c < 256) : ∀ n, cntA N c n = Lib.countByte (unpack n N) (UInt8.ofNat c)
 | 0 => by rw [unpack_map]; rfl
 | n + 1 => by
  have ih := cntA_ok N c hc n
  rw [unpack_map] at ih ⊢
  unfold Lib.countByte at ih ⊢
  rw [List.range_succ, List.map_append, List.count_append, ← ih]
  show Bool.rec (motive := fun _ => Nat) (cntA N c n) (Nat.succ (cntA N c n)) (Nat.beq (bget N n) c) = _
  simp only [List.map_cons, List.map_nil, List.count_cons, List.count_nil, beq_byte (bget_lt N n) hc]
  cases Nat.beq (bget N n) c <;> simp
theorem ixbA_ok (N c : Nat) (hc : c < 256) : ∀ n i, ixbA N c n i = (if Lib.indexByte ((List.range' i n).map fun i => UInt8.ofNat (bget N i)) (UInt8.ofNat c) = -1 then -1 else Lib.indexByte ((List.range' i n).map fun i => UInt8.ofNat (bget N i)) (UInt8.ofNat c) + i)
 | 0, i => rfl
 | n + 1, i => by
  have ih := ixbA_ok N c hc n (i + 1)
  show Bool.rec (motive := fun _ => Int) (ixbA N c n (Nat.succ i)) (.ofNat i) (Nat.beq (bget N i) c) = _
  simp only [List.range'_succ, List.map_cons, Lib.indexByte, beq_byte (bget_lt N i) hc]
  cases Nat.beq (bget N i) c with
  | true => simp
  | false =>
   simp only [Bool.false_eq_true, if_false]
   rw [show Nat.succ i = i + 1 from rfl, ih]
   have hge := Lib.indexByte_ge ((List.range' (i + 1) n).map fun i => UInt8.ofNat (bget N i)) (UInt8.ofNat c)
   generalize Lib.indexByte ((List.range' (i + 1) n).map fun i => UInt8.ofNat (bget N i)) (UInt8.ofNat c) = q at hge ⊢
   by_cases hq : q = -1
   ·subst hq; simp
   ·simp only [hq, if_false, beq_iff_eq]
    rw [if_neg (by omega)]
    omega
noncomputable def bytesX (ic ix f : Nat) (vs : List AV) : R AV := match vs with
 | [.str n N, .int .u8 (.ofNat c)] => match Nat.ble c 255 with
  | true => match Nat.beq f ic with
   | true => .ok (.int .i64 (.ofNat (cntA N c n)))
   | false => match Nat.beq f ix with
    | true => .ok (.int .i64 (ixbA N c n 0))
    | false => .no 990
  | false => .no 991
 | _ => .no 992
def ExtF (P : Program) (f : Nat) (e : Array Value → Sem Value) : Prop := ∃ fn, P.funcs[f]? = some fn ∧ (fn.name == "runtime.NumGoroutine") = false ∧ fn.body.isNone = true ∧ Extern.findNext fn = none ∧ Extern.find fn = some e
theorem bytesX_ok {P : Program} {ic ix f : Nat} {vs : List AV} {v : AV} (hc : ExtF P ic Extern.BytealgCount.count) (hx : ExtF P ix Extern.BytealgIndexByte.indexByte) (h : bytesX ic ix f vs = .ok v) {σ : Sg} {xs : List Value} (hv : Vs σ vs xs) (w : World) :
  ∃ x, (callFunc f xs.toArray).run P w = .ok (.value x) w ∧ V σ v x := by
 unfold bytesX at h
 split at h
 case h_2 => cases h
 rename_i n N c
 split at h
 case h_2 => cases h
 rename_i hb
 have hc' : c < 256 := by have := Nat.le_of_ble_eq_true hb; omega
 simp only [Vs, V] at hv
 obtain ⟨x1, l1, rfl, rfl, x2, l2, rfl, rfl, rfl⟩ := hv
 have hcc : ((Int.ofNat c).toNat).toUInt8 = UInt8.ofNat c := rfl
 split at h
 ·rename_i hf
  have := Nat.eq_of_beq_eq_true hf
  subst this
  cases h
  obtain ⟨fn, a1, a2, a3, a4, a5⟩ := hc
  rw [run_callFunc_extern a1 a2 a3 a4 a5, Lib.run_countString]
  refine ⟨_, rfl, ?_⟩
  simp only [V]
  rw [cntA_ok N c hc' n, hcc]
  rfl
 ·split at h
  case h_2 => cases h
  rename_i hf
  have := Nat.eq_of_beq_eq_true hf
  subst this
  cases h
  obtain ⟨fn, a1, a2, a3, a4, a5⟩ := hx
  rw [run_callFunc_extern a1 a2 a3 a4 a5, Lib.run_indexByteString]
  refine ⟨_, rfl, ?_⟩
  simp only [V]
  rw [ixbA_ok N c hc' n 0, hcc, unpack_map, List.range_eq_range']
  congr 1
  simp only [Int.ofNat_zero, Int.add_zero]
  split
  ·rename_i e; exact e
  ·rfl
end
end Go.Proofs.YtocabeobfbhajaaGreatDoor.Sx
end
section
namespace Go.Proofs.YtocabeobfbhajaaGreatDoor.Sx
open Go Go.Proofs
theorem plainAll : Tryz.prog.funcs.toList.all (fun fn => !(fn.name == "runtime.NumGoroutine")) = true := by decide +kernel
theorem plainT : Plain Tryz.prog := fun f fn h => by
 have h1 : fn ∈ Tryz.prog.funcs.toList := by
  rw [← Array.getElem?_toList] at h
  exact List.mem_of_getElem? h
 have := List.all_eq_true.1 plainAll fn h1
 simpa using this
theorem mixedT : Tryz.prog.follows .mixedOrders = true := by decide +kernel
theorem extC : ExtF Tryz.prog 312 Extern.BytealgCount.count := ⟨_, Tryz.func312, by decide +kernel, by decide +kernel, by kernel_rfl, by kernel_rfl⟩
theorem extI : ExtF Tryz.prog 334 Extern.BytealgIndexByte.indexByte := ⟨_, Tryz.func334, by decide +kernel, by decide +kernel, by kernel_rfl, by kernel_rfl⟩
def G0 (n : Nat) : Gl := ⟨n, fun _ => undef, #[], fun _ => False⟩
noncomputable def E0 : Env := { G := G0 8, P := Tryz.prog, ext := bytesX 312 334, sum := fun _ _ _ => none, rd := none }
theorem ok0 : EnvOK E0 := ⟨plainT, mixedT, fun _ _ _ _ _ _ h _ _ hv w => bytesX_ok extC extI h hv w, fun _ _ _ _ _ h => (nomatch h), fun _ _ _ h => (nomatch h), fun _ _ _ _ h => (nomatch h), fun _ _ _ _ h => (nomatch h), fun _ _ c _ _ => LpOK_none c⟩
end Go.Proofs.YtocabeobfbhajaaGreatDoor.Sx
end
section
set_option linter.unusedVariables false
set_option linter.unusedSimpArgs false
set_option maxRecDepth 100000
set_option maxHeartbeats 0
namespace Go.Proofs.YtocabeobfbhajaaGreatDoor.Sx
open Go Go.Proofs Go.Proofs.YtocabeobfbhajaaGreatDoor Go.Proofs.YtocabeobfbhajaaGreatDoor.Sx
structure pO_A where
 a_l : Option Addr
 b_l : Nat
 o_l : Nat
 κ_l : Nat
 l : List Po
 c : Po
def pO_h0  (A : pO_A) (w : World) : Prop := LstAt poC w A.a_l A.b_l A.o_l A.l ∧ (((A.l.length : Nat) : Int) ≤ ((A.κ_l : Nat) : Int)) ∧ (((A.l.length : Nat) : Int) ≤ 1000)
def pO_s0  (A : pO_A) (w : World) (R : List Value) : List Value := (.agg #[] :: .slice A.a_l A.l.length A.κ_l :: poV A.c ++ .int .i64 ((A.l.length : Nat) : Int) :: R)
def pO_t0 : List QE := [⟨6000000000 + 38, [.sym 1], .sym 13⟩]
theorem pO_q0  (A : pO_A) (w : World) (H0 : pO_h0 A w) (R : List Value) : QsOK (Gw 8 (syL (pO_s0 A w R)) w) Tryz.prog pO_t0 := by have ⟨H_l, h0, h1⟩ := H0; exact (qsC (q_lenB rfl rfl rfl (by kernel_rfl)) qsN)
def pO_L0_P  (A : pO_A) (w : World) (v00 : Int) (v01 : Int) : List Value := (pO_s0 A w (.int .i64 v00 :: .int .i64 v01 :: []))
def pO_L0_H : Head := (⟨[(0, .sym 1), (1, .agg [.sym 2, .sym 3, .sym 4, .sym 5, .sym 6, .sym 7, .sym 8, .sym 9, .sym 10, .sym 11, .sym 12]), (3, .ptr 8 0), (4, .int .i64 0), (5, .sym 14), (8, .ptr 8 10), (9, .sym 12), (10, .sym 1), (11, .sym 13), (12, .sym 15)], [(8, .cells [.sym 2, .sym 3, .sym 4, .sym 5, .sym 6, .sym 7, .sym 8, .sym 9, .sym 10, .sym 11, .sym 12] 0 0)], 9, 9, 0, 0, 14, 16⟩ : Head)
def pO_L0_R : Rn := ⟨9, [], 0, [], 14, [.sym 12, .int .i64 0]⟩
def pO_L0_X0 : Head := (⟨[(0, .sym 1), (1, .agg [.sym 2, .sym 3, .sym 4, .sym 5, .sym 6, .sym 7, .sym 8, .sym 9, .sym 10, .sym 11, .sym 12]), (3, .ptr 8 0), (4, .int .i64 0), (5, .sym 14), (8, .ptr 8 10), (9, .sym 12), (10, .sym 1)], [(8, .cells [.sym 2, .sym 3, .sym 4, .sym 5, .sym 6, .sym 7, .sym 8, .sym 9, .sym 10, .sym 11, .sym 12] 0 0)], 9, 9, 0, 0, 14, 15⟩ : Head)
def pO_h1  (A : pO_A) (w : World) (v00 : Int) (v01 : Int) : Prop := pO_h0 A w ∧ (0 ≤ v01 ∧ v01 ≤ ((A.l.length : Nat) : Int)) ∧ (v01 < ((A.l.length : Nat) : Int))
def pO_s1  (A : pO_A) (w : World) (v00 : Int) (v01 : Int) (R : List Value) : List Value := (pO_s0 A w (.int .i64 v00 :: .int .i64 v01 :: .pointer (some ⟨A.b_l, A.o_l + (v01 : Int).toNat * 11, none⟩) :: poV (at_ A.l v01) ++ R))
def pO_t1 : List QE := (pO_t0 ++ [⟨tagB .lss, [.sym 15, .sym 13], .bool true⟩, ⟨2000000000 + 38, [.sym 1, .sym 15], .sym 16⟩, ⟨8000000000 + 25, [.sym 16], .agg [.sym 17, .sym 18, .sym 19, .sym 20, .sym 21, .sym 22, .sym 23, .sym 24, .sym 25, .sym 26, .sym 27]⟩])
theorem pO_q1  (A : pO_A) (w : World) (v00 : Int) (v01 : Int) (H1 : pO_h1 A w v00 v01) (R : List Value) : QsOK (Gw 8 (syL (pO_s1 A w v00 v01 R)) w) Tryz.prog pO_t1 := by have ⟨H0, h2, h3⟩ := H1; have ⟨H_l, h0, h1⟩ := H0; exact (qsA (pO_q0 A w H0 _) (qsC (q_t .lss rfl rfl rfl h3) (qsC (q_idxO (C := poC) H_l (sz := 11) (m := v01) rfl rfl rfl ⟨by omega, by rw [(rfl : ((A.l.length : Nat) : Int) = _)]; omega⟩ (by have := (rfl : ((A.l.length : Nat) : Int) = _); omega) rfl (by kernel_rfl)) (qsC (q_rowO (C := poC) H_l (i := v01) ⟨by omega, by rw [(rfl : ((A.l.length : Nat) : Int) = _)]; omega⟩ rfl rfl rfl rfl (by kernel_rfl)) qsN))))
theorem pO_L0_0  (A : pO_A) (w : World) (v00 : Int) (v01 : Int) (H1 : pO_h1 A w v00 v01) (h4 : (at_ A.l v01).kind = 4) (h5 : (at_ A.l v01).of.reeve = A.c.reeve) (h6 : (at_ A.l v01).of.number = A.c.number) : RndS Tryz.prog 8 100 3 w pO_L0_H pO_L0_H (pO_L0_P A w v00 v01) (pO_L0_P A w ((IntKind.wrap .i64 (v00 - (at_ A.l v01).amount))) (v01 + 1)) .normal := by have ⟨H0, h2, h3⟩ := H1; have ⟨H_l, h0, h1⟩ := H0; exact rndS (E := E0) (n0 := 8) (L := (pO_s1 A w v00 v01 (.int .i64 ((IntKind.wrap .i64 (v00 - (at_ A.l v01).amount))) :: .int .i64 (v01 + 1) :: []))) (t := (pO_t1 ++ [⟨tagB .eql, [.sym 20, .int .u8 4], .bool true⟩, ⟨20, [.sym 23, .sym 2], .bool true⟩, ⟨20, [.sym 24, .sym 3], .bool true⟩, ⟨tagB .sub, [.sym 14, .sym 27], .sym 28⟩, ⟨tagB .add, [.sym 15, .int .i64 1], .sym 29⟩])) 60 60 16 ⟨9, [], 0, [], 14, [.sym 28, .sym 29]⟩ [] ok0 (qsA (pO_q1 A w v00 v01 H1 _) (qsC (q_t .eql rfl rfl rfl h4) (qsC (q_it rfl rfl h5) (qsC (q_it rfl rfl h6) (qsC (q_sub rfl rfl rfl) (qsC (q_addI rfl rfl rfl (show -9223372036854775808 ≤ (v01 + 1) ∧ (v01 + 1) ≤ 9223372036854775807 by omega)) qsN)))))) csN cmN lpN ⟨rfl, rfl⟩ (by kernel_rfl) (by kernel_rfl) rfl rfl ⟨rfl, rfl, trivial⟩
theorem pO_L0_1  (A : pO_A) (w : World) (v00 : Int) (v01 : Int) (H1 : pO_h1 A w v00 v01) (h4 : (at_ A.l v01).kind = 4) (h5 : (at_ A.l v01).of.reeve = A.c.reeve) (h6 : ¬ ((at_ A.l v01).of.number = A.c.number)) : RndS Tryz.prog 8 100 3 w pO_L0_H pO_L0_H (pO_L0_P A w v00 v01) (pO_L0_P A w v00 (v01 + 1)) .normal := by have ⟨H0, h2, h3⟩ := H1; have ⟨H_l, h0, h1⟩ := H0; exact rndS (E := E0) (n0 := 8) (L := (pO_s1 A w v00 v01 (.int .i64 (v01 + 1) :: []))) (t := (pO_t1 ++ [⟨tagB .eql, [.sym 20, .int .u8 4], .bool true⟩, ⟨20, [.sym 23, .sym 2], .bool true⟩, ⟨20, [.sym 24, .sym 3], .bool false⟩, ⟨tagB .add, [.sym 15, .int .i64 1], .sym 28⟩])) 60 60 16 ⟨9, [], 0, [], 14, [.sym 14, .sym 28]⟩ [] ok0 (qsA (pO_q1 A w v00 v01 H1 _) (qsC (q_t .eql rfl rfl rfl h4) (qsC (q_it rfl rfl h5) (qsC (q_if rfl rfl h6) (qsC (q_addI rfl rfl rfl (show -9223372036854775808 ≤ (v01 + 1) ∧ (v01 + 1) ≤ 9223372036854775807 by omega)) qsN))))) csN cmN lpN ⟨rfl, rfl⟩ (by kernel_rfl) (by kernel_rfl) rfl rfl ⟨rfl, rfl, trivial⟩
theorem pO_L0_2  (A : pO_A) (w : World) (v00 : Int) (v01 : Int) (H1 : pO_h1 A w v00 v01) (h4 : (at_ A.l v01).kind = 4) (h5 : ¬ ((at_ A.l v01).of.reeve = A.c.reeve)) : RndS Tryz.prog 8 100 3 w pO_L0_H pO_L0_H (pO_L0_P A w v00 v01) (pO_L0_P A w v00 (v01 + 1)) .normal := by have ⟨H0, h2, h3⟩ := H1; have ⟨H_l, h0, h1⟩ := H0; exact rndS (E := E0) (n0 := 8) (L := (pO_s1 A w v00 v01 (.int .i64 (v01 + 1) :: []))) (t := (pO_t1 ++ [⟨tagB .eql, [.sym 20, .int .u8 4], .bool true⟩, ⟨20, [.sym 23, .sym 2], .bool false⟩, ⟨tagB .add, [.sym 15, .int .i64 1], .sym 28⟩])) 60 60 16 ⟨9, [], 0, [], 14, [.sym 14, .sym 28]⟩ [] ok0 (qsA (pO_q1 A w v00 v01 H1 _) (qsC (q_t .eql rfl rfl rfl h4) (qsC (q_if rfl rfl h5) (qsC (q_addI rfl rfl rfl (show -9223372036854775808 ≤ (v01 + 1) ∧ (v01 + 1) ≤ 9223372036854775807 by omega)) qsN)))) csN cmN lpN ⟨rfl, rfl⟩ (by kernel_rfl) (by kernel_rfl) rfl rfl ⟨rfl, rfl, trivial⟩
theorem pO_L0_3  (A : pO_A) (w : World) (v00 : Int) (v01 : Int) (H1 : pO_h1 A w v00 v01) (h4 : ¬ ((at_ A.l v01).kind = 4)) (h5 : (at_ A.l v01).kind = 5) (h6 : (at_ A.l v01).of.reeve = A.c.reeve) (h7 : (at_ A.l v01).of.number = A.c.number) : RndS Tryz.prog 8 100 3 w pO_L0_H pO_L0_H (pO_L0_P A w v00 v01) (pO_L0_P A w ((IntKind.wrap .i64 (v00 - (at_ A.l v01).amount))) (v01 + 1)) .normal := by have ⟨H0, h2, h3⟩ := H1; have ⟨H_l, h0, h1⟩ := H0; exact rndS (E := E0) (n0 := 8) (L := (pO_s1 A w v00 v01 (.int .i64 ((IntKind.wrap .i64 (v00 - (at_ A.l v01).amount))) :: .int .i64 (v01 + 1) :: []))) (t := (pO_t1 ++ [⟨tagB .eql, [.sym 20, .int .u8 4], .bool false⟩, ⟨tagB .eql, [.sym 20, .int .u8 5], .bool true⟩, ⟨20, [.sym 23, .sym 2], .bool true⟩, ⟨20, [.sym 24, .sym 3], .bool true⟩, ⟨tagB .sub, [.sym 14, .sym 27], .sym 28⟩, ⟨tagB .add, [.sym 15, .int .i64 1], .sym 29⟩])) 60 60 16 ⟨9, [], 0, [], 14, [.sym 28, .sym 29]⟩ [] ok0 (qsA (pO_q1 A w v00 v01 H1 _) (qsC (q_f .eql rfl rfl rfl h4) (qsC (q_t .eql rfl rfl rfl h5) (qsC (q_it rfl rfl h6) (qsC (q_it rfl rfl h7) (qsC (q_sub rfl rfl rfl) (qsC (q_addI rfl rfl rfl (show -9223372036854775808 ≤ (v01 + 1) ∧ (v01 + 1) ≤ 9223372036854775807 by omega)) qsN))))))) csN cmN lpN ⟨rfl, rfl⟩ (by kernel_rfl) (by kernel_rfl) rfl rfl ⟨rfl, rfl, trivial⟩
theorem pO_L0_4  (A : pO_A) (w : World) (v00 : Int) (v01 : Int) (H1 : pO_h1 A w v00 v01) (h4 : ¬ ((at_ A.l v01).kind = 4)) (h5 : (at_ A.l v01).kind = 5) (h6 : (at_ A.l v01).of.reeve = A.c.reeve) (h7 : ¬ ((at_ A.l v01).of.number = A.c.number)) : RndS Tryz.prog 8 100 3 w pO_L0_H pO_L0_H (pO_L0_P A w v00 v01) (pO_L0_P A w v00 (v01 + 1)) .normal := by have ⟨H0, h2, h3⟩ := H1; have ⟨H_l, h0, h1⟩ := H0; exact rndS (E := E0) (n0 := 8) (L := (pO_s1 A w v00 v01 (.int .i64 (v01 + 1) :: []))) (t := (pO_t1 ++ [⟨tagB .eql, [.sym 20, .int .u8 4], .bool false⟩, ⟨tagB .eql, [.sym 20, .int .u8 5], .bool true⟩, ⟨20, [.sym 23, .sym 2], .bool true⟩, ⟨20, [.sym 24, .sym 3], .bool false⟩, ⟨tagB .add, [.sym 15, .int .i64 1], .sym 28⟩])) 60 60 16 ⟨9, [], 0, [], 14, [.sym 14, .sym 28]⟩ [] ok0 (qsA (pO_q1 A w v00 v01 H1 _) (qsC (q_f .eql rfl rfl rfl h4) (qsC (q_t .eql rfl rfl rfl h5) (qsC (q_it rfl rfl h6) (qsC (q_if rfl rfl h7) (qsC (q_addI rfl rfl rfl (show -9223372036854775808 ≤ (v01 + 1) ∧ (v01 + 1) ≤ 9223372036854775807 by omega)) qsN)))))) csN cmN lpN ⟨rfl, rfl⟩ (by kernel_rfl) (by kernel_rfl) rfl rfl ⟨rfl, rfl, trivial⟩
theorem pO_L0_5  (A : pO_A) (w : World) (v00 : Int) (v01 : Int) (H1 : pO_h1 A w v00 v01) (h4 : ¬ ((at_ A.l v01).kind = 4)) (h5 : (at_ A.l v01).kind = 5) (h6 : ¬ ((at_ A.l v01).of.reeve = A.c.reeve)) : RndS Tryz.prog 8 100 3 w pO_L0_H pO_L0_H (pO_L0_P A w v00 v01) (pO_L0_P A w v00 (v01 + 1)) .normal := by have ⟨H0, h2, h3⟩ := H1; have ⟨H_l, h0, h1⟩ := H0; exact rndS (E := E0) (n0 := 8) (L := (pO_s1 A w v00 v01 (.int .i64 (v01 + 1) :: []))) (t := (pO_t1 ++ [⟨tagB .eql, [.sym 20, .int .u8 4], .bool false⟩, ⟨tagB .eql, [.sym 20, .int .u8 5], .bool true⟩, ⟨20, [.sym 23, .sym 2], .bool false⟩, ⟨tagB .add, [.sym 15, .int .i64 1], .sym 28⟩])) 60 60 16 ⟨9, [], 0, [], 14, [.sym 14, .sym 28]⟩ [] ok0 (qsA (pO_q1 A w v00 v01 H1 _) (qsC (q_f .eql rfl rfl rfl h4) (qsC (q_t .eql rfl rfl rfl h5) (qsC (q_if rfl rfl h6) (qsC (q_addI rfl rfl rfl (show -9223372036854775808 ≤ (v01 + 1) ∧ (v01 + 1) ≤ 9223372036854775807 by omega)) qsN))))) csN cmN lpN ⟨rfl, rfl⟩ (by kernel_rfl) (by kernel_rfl) rfl rfl ⟨rfl, rfl, trivial⟩
theorem pO_L0_6  (A : pO_A) (w : World) (v00 : Int) (v01 : Int) (H1 : pO_h1 A w v00 v01) (h4 : ¬ ((at_ A.l v01).kind = 4)) (h5 : ¬ ((at_ A.l v01).kind = 5)) : RndS Tryz.prog 8 100 3 w pO_L0_H pO_L0_H (pO_L0_P A w v00 v01) (pO_L0_P A w v00 (v01 + 1)) .normal := by have ⟨H0, h2, h3⟩ := H1; have ⟨H_l, h0, h1⟩ := H0; exact rndS (E := E0) (n0 := 8) (L := (pO_s1 A w v00 v01 (.int .i64 (v01 + 1) :: []))) (t := (pO_t1 ++ [⟨tagB .eql, [.sym 20, .int .u8 4], .bool false⟩, ⟨tagB .eql, [.sym 20, .int .u8 5], .bool false⟩, ⟨tagB .add, [.sym 15, .int .i64 1], .sym 28⟩])) 60 60 16 ⟨9, [], 0, [], 14, [.sym 14, .sym 28]⟩ [] ok0 (qsA (pO_q1 A w v00 v01 H1 _) (qsC (q_f .eql rfl rfl rfl h4) (qsC (q_f .eql rfl rfl rfl h5) (qsC (q_addI rfl rfl rfl (show -9223372036854775808 ≤ (v01 + 1) ∧ (v01 + 1) ≤ 9223372036854775807 by omega)) qsN)))) csN cmN lpN ⟨rfl, rfl⟩ (by kernel_rfl) (by kernel_rfl) rfl rfl ⟨rfl, rfl, trivial⟩
theorem pO_L0_7  (A : pO_A) (w : World) (v00 : Int) (v01 : Int) (H0 : pO_h0 A w) (h2 : 0 ≤ v01 ∧ v01 ≤ ((A.l.length : Nat) : Int)) (h3 : ¬ (v01 < ((A.l.length : Nat) : Int))) : RndS Tryz.prog 8 100 3 w pO_L0_H pO_L0_X0 (pO_L0_P A w v00 v01) (pO_s0 A w (.int .i64 (v00) :: [])) (.exit 0) := by have ⟨H_l, h0, h1⟩ := H0; exact rndS (E := E0) (n0 := 8) (L := (pO_s0 A w (.int .i64 v00 :: .int .i64 v01 :: []))) (t := (pO_t0 ++ [⟨tagB .lss, [.sym 15, .sym 13], .bool false⟩])) 60 60 16 ⟨9, [], 0, [], 14, [.sym 14]⟩ [] ok0 (qsA (pO_q0 A w H0 _) (qsC (q_f .lss rfl rfl rfl h3) qsN)) csN cmN lpN ⟨rfl, rfl⟩ (by kernel_rfl) (by kernel_rfl) rfl rfl ⟨rfl, trivial⟩
def pO_L0  (A : pO_A) (w : World) : Nat → Int → Int → Option (Nat × Int × Unit)
 | 0, _, _ => none
 | fu_ + 1, v00, v01 => (if v01 < ((A.l.length : Nat) : Int) then (if (at_ A.l v01).kind = 4 then (if (at_ A.l v01).of.reeve = A.c.reeve then (if (at_ A.l v01).of.number = A.c.number then pO_L0 A w fu_ ((IntKind.wrap .i64 (v00 - (at_ A.l v01).amount))) (v01 + 1) else pO_L0 A w fu_ v00 (v01 + 1)) else pO_L0 A w fu_ v00 (v01 + 1)) else (if (at_ A.l v01).kind = 5 then (if (at_ A.l v01).of.reeve = A.c.reeve then (if (at_ A.l v01).of.number = A.c.number then pO_L0 A w fu_ ((IntKind.wrap .i64 (v00 - (at_ A.l v01).amount))) (v01 + 1) else pO_L0 A w fu_ v00 (v01 + 1)) else pO_L0 A w fu_ v00 (v01 + 1)) else pO_L0 A w fu_ v00 (v01 + 1))) else some (0, v00, ()))
theorem pO_L0_ok  (A : pO_A) (w : World) (H0 : pO_h0 A w) : ∀ (fu_ : Nat) (v00 : Int) (v01 : Int), (0 ≤ v01 ∧ v01 ≤ ((A.l.length : Nat) : Int)) → ((((A.l.length : Nat) : Int) - v01) : Int) < fu_ → ∃ o, pO_L0 A w fu_ v00 v01 = some o ∧ ((o.1 = 0 ∧ True ∧ RdsS Tryz.prog 8 100 3 w pO_L0_H pO_L0_X0 (pO_L0_P A w v00 v01) (pO_s0 A w (.int .i64 o.2.1 :: [])) (.exit 0) fu_)) := by
 have ⟨H_l, h0, h1⟩ := H0; intro fu_
 induction fu_ with
 | zero => intro v00 v01 _ hm; exfalso; omega
 | succ fu_ ih =>
  intro v00 v01 h2 hm
  rw [pO_L0]
  by_cases h3 : v01 < ((A.l.length : Nat) : Int)
  ·simp only [if_pos h3]
   by_cases h4 : (at_ A.l v01).kind = 4
   ·simp only [if_pos h4]
    by_cases h5 : (at_ A.l v01).of.reeve = A.c.reeve
    ·simp only [if_pos h5]
     by_cases h6 : (at_ A.l v01).of.number = A.c.number
     ·simp only [if_pos h6]
      obtain ⟨o, g1, g2⟩ := ih ((IntKind.wrap .i64 (v00 - (at_ A.l v01).amount))) (v01 + 1) (by first | trivial | omega | (simp only [List.length_append, List.length_cons, List.length_nil, List.length_set]; omega)) (by first | trivial | omega | (simp only [List.length_append, List.length_cons, List.length_nil, List.length_set]; omega))
      refine ⟨o, g1, ?_⟩
      rcases g2 with ⟨ge, gi, gg⟩
      ·exact ⟨ge, gi, rndGo (pO_L0_0 A w v00 v01 ⟨⟨H_l, h0, h1⟩, h2, h3⟩ h4 h5 h6) gg⟩
     ·simp only [if_neg h6]
      obtain ⟨o, g1, g2⟩ := ih v00 (v01 + 1) (by first | trivial | omega | (simp only [List.length_append, List.length_cons, List.length_nil, List.length_set]; omega)) (by first | trivial | omega | (simp only [List.length_append, List.length_cons, List.length_nil, List.length_set]; omega))
      refine ⟨o, g1, ?_⟩
      rcases g2 with ⟨ge, gi, gg⟩
      ·exact ⟨ge, gi, rndGo (pO_L0_1 A w v00 v01 ⟨⟨H_l, h0, h1⟩, h2, h3⟩ h4 h5 h6) gg⟩
    ·simp only [if_neg h5]
     obtain ⟨o, g1, g2⟩ := ih v00 (v01 + 1) (by first | trivial | omega | (simp only [List.length_append, List.length_cons, List.length_nil, List.length_set]; omega)) (by first | trivial | omega | (simp only [List.length_append, List.length_cons, List.length_nil, List.length_set]; omega))
     refine ⟨o, g1, ?_⟩
     rcases g2 with ⟨ge, gi, gg⟩
     ·exact ⟨ge, gi, rndGo (pO_L0_2 A w v00 v01 ⟨⟨H_l, h0, h1⟩, h2, h3⟩ h4 h5) gg⟩
   ·simp only [if_neg h4]
    by_cases h5 : (at_ A.l v01).kind = 5
    ·simp only [if_pos h5]
     by_cases h6 : (at_ A.l v01).of.reeve = A.c.reeve
     ·simp only [if_pos h6]
      by_cases h7 : (at_ A.l v01).of.number = A.c.number
      ·simp only [if_pos h7]
       obtain ⟨o, g1, g2⟩ := ih ((IntKind.wrap .i64 (v00 - (at_ A.l v01).amount))) (v01 + 1) (by first | trivial | omega | (simp only [List.length_append, List.length_cons, List.length_nil, List.length_set]; omega)) (by first | trivial | omega | (simp only [List.length_append, List.length_cons, List.length_nil, List.length_set]; omega))
       refine ⟨o, g1, ?_⟩
       rcases g2 with ⟨ge, gi, gg⟩
       ·exact ⟨ge, gi, rndGo (pO_L0_3 A w v00 v01 ⟨⟨H_l, h0, h1⟩, h2, h3⟩ h4 h5 h6 h7) gg⟩
      ·simp only [if_neg h7]
       obtain ⟨o, g1, g2⟩ := ih v00 (v01 + 1) (by first | trivial | omega | (simp only [List.length_append, List.length_cons, List.length_nil, List.length_set]; omega)) (by first | trivial | omega | (simp only [List.length_append, List.length_cons, List.length_nil, List.length_set]; omega))
       refine ⟨o, g1, ?_⟩
       rcases g2 with ⟨ge, gi, gg⟩
       ·exact ⟨ge, gi, rndGo (pO_L0_4 A w v00 v01 ⟨⟨H_l, h0, h1⟩, h2, h3⟩ h4 h5 h6 h7) gg⟩
     ·simp only [if_neg h6]
      obtain ⟨o, g1, g2⟩ := ih v00 (v01 + 1) (by first | trivial | omega | (simp only [List.length_append, List.length_cons, List.length_nil, List.length_set]; omega)) (by first | trivial | omega | (simp only [List.length_append, List.length_cons, List.length_nil, List.length_set]; omega))
      refine ⟨o, g1, ?_⟩
      rcases g2 with ⟨ge, gi, gg⟩
      ·exact ⟨ge, gi, rndGo (pO_L0_5 A w v00 v01 ⟨⟨H_l, h0, h1⟩, h2, h3⟩ h4 h5 h6) gg⟩
    ·simp only [if_neg h5]
     obtain ⟨o, g1, g2⟩ := ih v00 (v01 + 1) (by first | trivial | omega | (simp only [List.length_append, List.length_cons, List.length_nil, List.length_set]; omega)) (by first | trivial | omega | (simp only [List.length_append, List.length_cons, List.length_nil, List.length_set]; omega))
     refine ⟨o, g1, ?_⟩
     rcases g2 with ⟨ge, gi, gg⟩
     ·exact ⟨ge, gi, rndGo (pO_L0_6 A w v00 v01 ⟨⟨H_l, h0, h1⟩, h2, h3⟩ h4 h5) gg⟩
  ·simp only [if_neg h3]
   exact ⟨(0, v00, ()), rfl, ⟨rfl, (show True by first | trivial | omega | (simp only [List.length_append, List.length_cons, List.length_nil, List.length_set]; omega)), rndEnd (by intro h; cases h) (pO_L0_7 A w v00 v01 ⟨H_l, h0, h1⟩ h2 h3)⟩⟩
theorem pO_0  (A : pO_A) (w : World) (x0_00 : Int) (H0 : pO_h0 A w) (h2 : pO_L0 A w (((((A.l.length : Nat) : Int) - 0) : Int).toNat + 1) A.c.amount 0 = some (0, x0_00, ())) (h3 : True) : Calls Tryz.prog 100 #[.slice A.a_l A.l.length A.κ_l, A.c.val] w fun e w' => e = .returned (.int .i64 (max x0_00 0)) ∧ Chg (fun _ => False) w w' :=
 by have ⟨H_l, h0, h1⟩ := H0; exact leafS (E := E0) (n0 := 8) (L := (pO_s0 A w (.int .i64 x0_00 :: .int .i64 (max x0_00 0) :: []))) (t := (pO_t0 ++ [⟨6200000000, [.sym 14, .int .i64 0], .sym 15⟩])) (p := [⟨100, 3, lpG pO_L0_H pO_L0_R [] pO_L0_X0 (.exit 0)⟩]) 60 60 ok0 (qsA (pO_q0 A w H0 _) (qsC (q_max rfl rfl rfl) qsN)) csN cmN (by exact loopS (E := E0) (r := pO_L0_R) (L0 := (pO_L0_P A w A.c.amount 0)) (Lo := (pO_s0 A w (.int .i64 x0_00 :: []))) rfl rfl (by kernel_rfl) rfl ⟨rfl, rfl, trivial⟩ rfl (by obtain ⟨o, g1, g2⟩ := pO_L0_ok A w ⟨H_l, h0, h1⟩ (((((A.l.length : Nat) : Int) - 0) : Int).toNat + 1) A.c.amount 0 (by first | trivial | omega | (simp only [List.length_append, List.length_cons, List.length_nil, List.length_set]; omega)) (by first | omega | (simp only [List.length_append, List.length_cons, List.length_nil, List.length_set]; omega)); rw [h2] at g1; cases g1; obtain ⟨-, -, gg⟩ := g2; exact gg)) rfl (vs := [.sym 1, .agg [.sym 2, .sym 3, .sym 4, .sym 5, .sym 6, .sym 7, .sym 8, .sym 9, .sym 10, .sym 11, .sym 12]]) (v := .sym 15) rfl rfl (by kernel_rfl) rfl
def pO_r  (A : pO_A) (w : World) : Int := (match pO_L0 A w (((((A.l.length : Nat) : Int) - 0) : Int).toNat + 1) A.c.amount 0 with | some (0, x0_00, _) => (max x0_00 0) | _ => default)
theorem pO_any  (A : pO_A) (w : World) (H_l : LstAt poC w A.a_l A.b_l A.o_l A.l) (h0 : ((A.l.length : Nat) : Int) ≤ ((A.κ_l : Nat) : Int)) (h1 : ((A.l.length : Nat) : Int) ≤ 1000) : Calls Tryz.prog 100 #[.slice A.a_l A.l.length A.κ_l, A.c.val] w fun e w' => e = .returned (.int .i64 (pO_r A w)) ∧ Chg (fun _ => False) w w' := by
 unfold pO_r
 obtain ⟨⟨q2, x0_00, _⟩, h2, hk2⟩ := pO_L0_ok A w ⟨H_l, h0, h1⟩ (((((A.l.length : Nat) : Int) - 0) : Int).toNat + 1) A.c.amount 0 (by first | trivial | omega | (simp only [List.length_append, List.length_cons, List.length_nil, List.length_set]; omega)) (by first | omega | (simp only [List.length_append, List.length_cons, List.length_nil, List.length_set]; omega))
 simp only [h2]
 rcases hk2 with ⟨he2, h3, -⟩
 ·have he2 : q2 = 0 := he2
  subst he2
  exact pO_0 A w x0_00 ⟨H_l, h0, h1⟩ h2 h3
theorem pO_L0_n (A : pO_A) (w : World) : ∀ (n : Nat) (v i : Int), (0 ≤ i ∧ i ≤ (A.l.length : Int)) → (A.l.length : Int) - i < n → pO_L0 A w n v i = some (0, (A.l.drop i.toNat).foldl (owedF A.c) v, ()) := by
 intro n
 induction n with
 | zero => intros; omega
 | succ n ih =>
  intro v i h0 hm
  rw [pO_L0]
  by_cases hi : i < (A.l.length : Int)
  ·have e := fun v => ih v (i + 1) (by omega) (by omega)
   rw [if_pos hi, drop_at ⟨h0.1, hi⟩, List.foldl_cons]
   simp only [e, owedF]
   repeat' split
   all_goals first | rfl | (exfalso; simp_all; done)
  ·rw [if_neg hi, drop_end hi]; rfl
theorem pOwed_r_n (A : pO_A) (w : World) : pO_r A w = owedN A.l A.c := by
 unfold pO_r owedN
 rw [pO_L0_n _ _ _ _ _ (by omega) (by omega)]
 rfl
theorem pOwed_n {a_l : Option Addr} {b_l o_l κ_l : Nat} {l : List Po} {w : World} (H : LstAt poC w a_l b_l o_l l) (h0 : l.length ≤ κ_l) (h1 : ((l.length : Nat) : Int) ≤ 1000) (c : Po) : Calls Tryz.prog 100 #[.slice a_l l.length κ_l, c.val] w fun e w' => e = .returned (.int .i64 (owedN l c)) ∧ Chg (fun _ => False) w w' := by
 have := pO_any ⟨a_l, b_l, o_l, κ_l, l, c⟩ w H (by show ((l.length : Nat) : Int) ≤ ((κ_l : Nat) : Int); omega) h1
 rw [pOwed_r_n] at this
 exact this
end Go.Proofs.YtocabeobfbhajaaGreatDoor.Sx
end
section
set_option linter.unusedVariables false
set_option linter.unusedSimpArgs false
set_option maxRecDepth 100000
set_option maxHeartbeats 0
namespace Go.Proofs.YtocabeobfbhajaaGreatDoor.Sx
open Go Go.Proofs Go.Proofs.YtocabeobfbhajaaGreatDoor Go.Proofs.YtocabeobfbhajaaGreatDoor.Sx
structure pF_A where
 a_l : Option Addr
 b_l : Nat
 o_l : Nat
 κ_l : Nat
 l : List Po
 p : Po
def pF_h0  (A : pF_A) (w : World) : Prop := LstAt poC w A.a_l A.b_l A.o_l A.l ∧ (((A.l.length : Nat) : Int) ≤ ((A.κ_l : Nat) : Int)) ∧ (((A.l.length : Nat) : Int) ≤ 1000) ∧ ((A.p.kind = 4 ∨ A.p.kind = 5) → 1 ≤ A.p.of.number ∧ A.p.of.number < A.p.number) ∧ (1 ≤ A.p.kind ∧ A.p.kind ≤ 5) ∧ (A.p.number = (((A.l.length : Nat) : Int) + 1)) ∧ ((A.p).kind = 1 ∨ (A.p).kind = 2)
def pF_s0  (A : pF_A) (w : World) (R : List Value) : List Value := (.agg #[] :: .slice A.a_l A.l.length A.κ_l :: poV A.p ++ .int .i64 ((A.l.length : Nat) : Int) :: .int .i64 ((((A.l.length : Nat) : Int) + 1)) :: R)
def pF_t0 : List QE := [⟨6000000000 + 38, [.sym 1], .sym 13⟩, ⟨tagB .add, [.sym 13, .int .i64 1], .sym 14⟩, ⟨tagB .neq, [.sym 3, .sym 14], .bool false⟩]
theorem pF_q0  (A : pF_A) (w : World) (H0 : pF_h0 A w) (R : List Value) : QsOK (Gw 8 (syL (pF_s0 A w R)) w) Tryz.prog pF_t0 := by have ⟨H_l, h0, h1, h2, h3, h4, h5⟩ := H0; exact (qsC (q_lenB rfl rfl rfl (by kernel_rfl)) (qsC (q_addI rfl rfl rfl (show -9223372036854775808 ≤ (((A.l.length : Nat) : Int) + 1) ∧ (((A.l.length : Nat) : Int) + 1) ≤ 9223372036854775807 by omega)) (qsC (q_f .neq rfl rfl rfl (fun h => h h4)) qsN)))
def pF_c0 : List QE := [⟨112, [.tup [.agg [.sym 2, .sym 3, .sym 4, .sym 5, .sym 6, .sym 7, .sym 8, .sym 9, .sym 10, .sym 11, .sym 12]], .tup []], (.bool true)⟩]
theorem pF_d0  (A : pF_A) (w : World) (H0 : pF_h0 A w) (R : List Value) : CsOK (Gw 8 (syL (pF_s0 A w R)) w) Tryz.prog pF_c0 := by have ⟨H_l, h0, h1, h2, h3, h4, h5⟩ := H0; exact (csC (q_callT (.val _ _ _ _ _ rfl .nil) rfl rfl rfl (fun w xs hw hq => by obtain ⟨_, rfl, rfl⟩ := hq; have hb := decide_eq_true h5; rw [← hb]; exact pCharge_n _ _)) csN)
def pF_L0_P  (A : pF_A) (w : World) (v00 : Int) : List Value := (pF_s0 A w (.int .i64 v00 :: []))
def pF_L0_H : Head := (⟨[(0, .sym 1), (1, .fn (.func 245) [] [.ptr 8 0]), (4, .int .i64 0), (6, .sym 1), (7, .sym 13), (8, .sym 15)], [(8, .cells [.sym 2, .sym 3, .sym 4, .sym 5, .sym 6, .sym 7, .sym 8, .sym 9, .sym 10, .sym 11, .sym 12] 0 0)], 9, 9, 0, 0, 15, 16⟩ : Head)
def pF_L0_R : Rn := ⟨9, [], 0, [], 15, [.int .i64 0]⟩
def pF_L0_X0 : Head := (⟨[(0, .sym 1), (4, .sym 15), (6, .sym 1)], [(8, .cells [.sym 2, .sym 3, .sym 4, .sym 5, .sym 6, .sym 7, .sym 8, .sym 9, .sym 10, .sym 11, .sym 12] 0 0)], 9, 9, 0, 0, 15, 16⟩ : Head)
def pF_L0_X1 : Head := (⟨[(0, .sym 1), (4, .int .i64 0), (6, .sym 1)], [(8, .cells [.sym 2, .sym 3, .sym 4, .sym 5, .sym 6, .sym 7, .sym 8, .sym 9, .sym 10, .sym 11, .sym 12] 0 0)], 9, 9, 0, 0, 15, 15⟩ : Head)
def pF_h1  (A : pF_A) (w : World) (v00 : Int) : Prop := pF_h0 A w ∧ (0 ≤ v00 ∧ v00 ≤ ((A.l.length : Nat) : Int)) ∧ (v00 < ((A.l.length : Nat) : Int))
def pF_s1  (A : pF_A) (w : World) (v00 : Int) (R : List Value) : List Value := (pF_s0 A w (.int .i64 v00 :: .pointer (some ⟨A.b_l, A.o_l + (v00 : Int).toNat * 11, none⟩) :: poV (at_ A.l v00) ++ R))
def pF_t1 : List QE := (pF_t0 ++ [⟨tagB .lss, [.sym 15, .sym 13], .bool true⟩, ⟨2000000000 + 38, [.sym 1, .sym 15], .sym 16⟩, ⟨8000000000 + 25, [.sym 16], .agg [.sym 17, .sym 18, .sym 19, .sym 20, .sym 21, .sym 22, .sym 23, .sym 24, .sym 25, .sym 26, .sym 27]⟩])
theorem pF_q1  (A : pF_A) (w : World) (v00 : Int) (H1 : pF_h1 A w v00) (R : List Value) : QsOK (Gw 8 (syL (pF_s1 A w v00 R)) w) Tryz.prog pF_t1 := by have ⟨H0, h6, h7⟩ := H1; have ⟨H_l, h0, h1, h2, h3, h4, h5⟩ := H0; exact (qsA (pF_q0 A w H0 _) (qsC (q_t .lss rfl rfl rfl h7) (qsC (q_idxO (C := poC) H_l (sz := 11) (m := v00) rfl rfl rfl ⟨by omega, by rw [(rfl : ((A.l.length : Nat) : Int) = _)]; omega⟩ (by have := (rfl : ((A.l.length : Nat) : Int) = _); omega) rfl (by kernel_rfl)) (qsC (q_rowO (C := poC) H_l (i := v00) ⟨by omega, by rw [(rfl : ((A.l.length : Nat) : Int) = _)]; omega⟩ rfl rfl rfl rfl (by kernel_rfl)) qsN))))
def pF_c1 : List QE := pF_c0
theorem pF_d1  (A : pF_A) (w : World) (v00 : Int) (H1 : pF_h1 A w v00) (R : List Value) : CsOK (Gw 8 (syL (pF_s1 A w v00 R)) w) Tryz.prog pF_c1 := by have ⟨H0, h6, h7⟩ := H1; have ⟨H_l, h0, h1, h2, h3, h4, h5⟩ := H0; exact (pF_d0 A w H0 _)
theorem pF_L0_0  (A : pF_A) (w : World) (v00 : Int) (H1 : pF_h1 A w v00) (h8 : (at_ A.l v00).kind = A.p.kind) (h9 : (at_ A.l v00).cse = A.p.cse) : RndS Tryz.prog 8 202 2 w pF_L0_H pF_L0_X0 (pF_L0_P A w v00) (pF_s0 A w (.int .i64 (v00) :: [])) .ret := by have ⟨H0, h6, h7⟩ := H1; have ⟨H_l, h0, h1, h2, h3, h4, h5⟩ := H0; exact rndS (E := E0) (n0 := 8) (L := (pF_s1 A w v00 [])) (t := (pF_t1 ++ [⟨tagB .eql, [.sym 20, .sym 5], .bool true⟩, ⟨tagB .eql, [.sym 21, .sym 6], .bool true⟩])) (c := pF_c1) 60 60 16 ⟨9, [], 0, [], 15, [.sym 15]⟩ [] ok0 (qsA (pF_q1 A w v00 H1 _) (qsC (q_t .eql rfl rfl rfl h8) (qsC (q_t .eql rfl rfl rfl h9) qsN))) (pF_d1 A w v00 H1 _) cmN lpN ⟨rfl, rfl⟩ (by kernel_rfl) (by kernel_rfl) rfl rfl ⟨rfl, trivial⟩
theorem pF_L0_1  (A : pF_A) (w : World) (v00 : Int) (H1 : pF_h1 A w v00) (h8 : (at_ A.l v00).kind = A.p.kind) (h9 : ¬ ((at_ A.l v00).cse = A.p.cse)) : RndS Tryz.prog 8 202 2 w pF_L0_H pF_L0_H (pF_L0_P A w v00) (pF_L0_P A w (v00 + 1)) .normal := by have ⟨H0, h6, h7⟩ := H1; have ⟨H_l, h0, h1, h2, h3, h4, h5⟩ := H0; exact rndS (E := E0) (n0 := 8) (L := (pF_s1 A w v00 (.int .i64 (v00 + 1) :: []))) (t := (pF_t1 ++ [⟨tagB .eql, [.sym 20, .sym 5], .bool true⟩, ⟨tagB .eql, [.sym 21, .sym 6], .bool false⟩, ⟨tagB .add, [.sym 15, .int .i64 1], .sym 28⟩])) (c := pF_c1) 60 60 16 ⟨9, [], 0, [], 15, [.sym 28]⟩ [] ok0 (qsA (pF_q1 A w v00 H1 _) (qsC (q_t .eql rfl rfl rfl h8) (qsC (q_f .eql rfl rfl rfl h9) (qsC (q_addI rfl rfl rfl (show -9223372036854775808 ≤ (v00 + 1) ∧ (v00 + 1) ≤ 9223372036854775807 by omega)) qsN)))) (pF_d1 A w v00 H1 _) cmN lpN ⟨rfl, rfl⟩ (by kernel_rfl) (by kernel_rfl) rfl rfl ⟨rfl, trivial⟩
theorem pF_L0_2  (A : pF_A) (w : World) (v00 : Int) (H1 : pF_h1 A w v00) (h8 : ¬ ((at_ A.l v00).kind = A.p.kind)) : RndS Tryz.prog 8 202 2 w pF_L0_H pF_L0_H (pF_L0_P A w v00) (pF_L0_P A w (v00 + 1)) .normal := by have ⟨H0, h6, h7⟩ := H1; have ⟨H_l, h0, h1, h2, h3, h4, h5⟩ := H0; exact rndS (E := E0) (n0 := 8) (L := (pF_s1 A w v00 (.int .i64 (v00 + 1) :: []))) (t := (pF_t1 ++ [⟨tagB .eql, [.sym 20, .sym 5], .bool false⟩, ⟨tagB .add, [.sym 15, .int .i64 1], .sym 28⟩])) (c := pF_c1) 60 60 16 ⟨9, [], 0, [], 15, [.sym 28]⟩ [] ok0 (qsA (pF_q1 A w v00 H1 _) (qsC (q_f .eql rfl rfl rfl h8) (qsC (q_addI rfl rfl rfl (show -9223372036854775808 ≤ (v00 + 1) ∧ (v00 + 1) ≤ 9223372036854775807 by omega)) qsN))) (pF_d1 A w v00 H1 _) cmN lpN ⟨rfl, rfl⟩ (by kernel_rfl) (by kernel_rfl) rfl rfl ⟨rfl, trivial⟩
theorem pF_L0_3  (A : pF_A) (w : World) (v00 : Int) (H0 : pF_h0 A w) (h6 : 0 ≤ v00 ∧ v00 ≤ ((A.l.length : Nat) : Int)) (h7 : ¬ (v00 < ((A.l.length : Nat) : Int))) : RndS Tryz.prog 8 202 2 w pF_L0_H pF_L0_X1 (pF_L0_P A w v00) (pF_s0 A w []) (.exit 0) := by have ⟨H_l, h0, h1, h2, h3, h4, h5⟩ := H0; exact rndS (E := E0) (n0 := 8) (L := (pF_s0 A w (.int .i64 v00 :: []))) (t := (pF_t0 ++ [⟨tagB .lss, [.sym 15, .sym 13], .bool false⟩])) (c := pF_c0) 60 60 16 ⟨9, [], 0, [], 15, []⟩ [] ok0 (qsA (pF_q0 A w H0 _) (qsC (q_f .lss rfl rfl rfl h7) qsN)) (pF_d0 A w H0 _) cmN lpN ⟨rfl, rfl⟩ (by kernel_rfl) (by kernel_rfl) rfl rfl trivial
def pF_L0  (A : pF_A) (w : World) : Nat → Int → Option (Nat × Int × Unit)
 | 0, _ => none
 | fu_ + 1, v00 => (if v00 < ((A.l.length : Nat) : Int) then (if (at_ A.l v00).kind = A.p.kind then (if (at_ A.l v00).cse = A.p.cse then some (0, v00, ()) else pF_L0 A w fu_ (v00 + 1)) else pF_L0 A w fu_ (v00 + 1)) else some (1, default, ()))
theorem pF_L0_ok  (A : pF_A) (w : World) (H0 : pF_h0 A w) : ∀ (fu_ : Nat) (v00 : Int), (0 ≤ v00 ∧ v00 ≤ ((A.l.length : Nat) : Int)) → ((((A.l.length : Nat) : Int) - v00) : Int) < fu_ → ∃ o, pF_L0 A w fu_ v00 = some o ∧ ((o.1 = 0 ∧ (0 ≤ o.2.1 ∧ o.2.1 < ((A.l.length : Nat) : Int) ∧ o.2.1 ≤ ((A.l.length : Nat) : Int)) ∧ RdsS Tryz.prog 8 202 2 w pF_L0_H pF_L0_X0 (pF_L0_P A w v00) (pF_s0 A w (.int .i64 o.2.1 :: [])) .ret fu_) ∨ (o.1 = 1 ∧ True ∧ RdsS Tryz.prog 8 202 2 w pF_L0_H pF_L0_X1 (pF_L0_P A w v00) (pF_s0 A w []) (.exit 0) fu_)) := by
 have ⟨H_l, h0, h1, h2, h3, h4, h5⟩ := H0; intro fu_
 induction fu_ with
 | zero => intro v00 _ hm; exfalso; omega
 | succ fu_ ih =>
  intro v00 h6 hm
  rw [pF_L0]
  by_cases h7 : v00 < ((A.l.length : Nat) : Int)
  ·simp only [if_pos h7]
   by_cases h8 : (at_ A.l v00).kind = A.p.kind
   ·simp only [if_pos h8]
    by_cases h9 : (at_ A.l v00).cse = A.p.cse
    ·simp only [if_pos h9]
     exact ⟨(0, v00, ()), rfl, .inl ⟨rfl, (show 0 ≤ v00 ∧ v00 < ((A.l.length : Nat) : Int) ∧ v00 ≤ ((A.l.length : Nat) : Int) by first | trivial | omega | (simp only [List.length_append, List.length_cons, List.length_nil, List.length_set]; omega)), rndEnd (by intro h; cases h) (pF_L0_0 A w v00 ⟨⟨H_l, h0, h1, h2, h3, h4, h5⟩, h6, h7⟩ h8 h9)⟩⟩
    ·simp only [if_neg h9]
     obtain ⟨o, g1, g2⟩ := ih (v00 + 1) (by first | trivial | omega | (simp only [List.length_append, List.length_cons, List.length_nil, List.length_set]; omega)) (by first | trivial | omega | (simp only [List.length_append, List.length_cons, List.length_nil, List.length_set]; omega))
     refine ⟨o, g1, ?_⟩
     rcases g2 with ⟨ge, gi, gg⟩ | ⟨ge, gi, gg⟩
     ·exact .inl ⟨ge, gi, rndGo (pF_L0_1 A w v00 ⟨⟨H_l, h0, h1, h2, h3, h4, h5⟩, h6, h7⟩ h8 h9) gg⟩
     ·exact .inr (⟨ge, gi, rndGo (pF_L0_1 A w v00 ⟨⟨H_l, h0, h1, h2, h3, h4, h5⟩, h6, h7⟩ h8 h9) gg⟩)
   ·simp only [if_neg h8]
    obtain ⟨o, g1, g2⟩ := ih (v00 + 1) (by first | trivial | omega | (simp only [List.length_append, List.length_cons, List.length_nil, List.length_set]; omega)) (by first | trivial | omega | (simp only [List.length_append, List.length_cons, List.length_nil, List.length_set]; omega))
    refine ⟨o, g1, ?_⟩
    rcases g2 with ⟨ge, gi, gg⟩ | ⟨ge, gi, gg⟩
    ·exact .inl ⟨ge, gi, rndGo (pF_L0_2 A w v00 ⟨⟨H_l, h0, h1, h2, h3, h4, h5⟩, h6, h7⟩ h8) gg⟩
    ·exact .inr (⟨ge, gi, rndGo (pF_L0_2 A w v00 ⟨⟨H_l, h0, h1, h2, h3, h4, h5⟩, h6, h7⟩ h8) gg⟩)
  ·simp only [if_neg h7]
   exact ⟨(1, default, ()), rfl, .inr (⟨rfl, (show True by first | trivial | omega | (simp only [List.length_append, List.length_cons, List.length_nil, List.length_set]; omega)), rndEnd (by intro h; cases h) (pF_L0_3 A w v00 ⟨H_l, h0, h1, h2, h3, h4, h5⟩ h6 h7)⟩)⟩
def pF_h2  (A : pF_A) (w : World) : Prop := LstAt poC w A.a_l A.b_l A.o_l A.l ∧ (((A.l.length : Nat) : Int) ≤ ((A.κ_l : Nat) : Int)) ∧ (((A.l.length : Nat) : Int) ≤ 1000) ∧ ((A.p.kind = 4 ∨ A.p.kind = 5) → 1 ≤ A.p.of.number ∧ A.p.of.number < A.p.number) ∧ (1 ≤ A.p.kind ∧ A.p.kind ≤ 5) ∧ (A.p.number = (((A.l.length : Nat) : Int) + 1)) ∧ (¬ ((A.p).kind = 1 ∨ (A.p).kind = 2))
def pF_s2  (A : pF_A) (w : World) (R : List Value) : List Value := (.agg #[] :: .slice A.a_l A.l.length A.κ_l :: poV A.p ++ .int .i64 ((A.l.length : Nat) : Int) :: .int .i64 ((((A.l.length : Nat) : Int) + 1)) :: R)
def pF_t2 : List QE := [⟨6000000000 + 38, [.sym 1], .sym 13⟩, ⟨tagB .add, [.sym 13, .int .i64 1], .sym 14⟩, ⟨tagB .neq, [.sym 3, .sym 14], .bool false⟩]
theorem pF_q2  (A : pF_A) (w : World) (H2 : pF_h2 A w) (R : List Value) : QsOK (Gw 8 (syL (pF_s2 A w R)) w) Tryz.prog pF_t2 := by have ⟨H_l, h0, h1, h2, h3, h4, h5⟩ := H2; exact (qsC (q_lenB rfl rfl rfl (by kernel_rfl)) (qsC (q_addI rfl rfl rfl (show -9223372036854775808 ≤ (((A.l.length : Nat) : Int) + 1) ∧ (((A.l.length : Nat) : Int) + 1) ≤ 9223372036854775807 by omega)) (qsC (q_f .neq rfl rfl rfl (fun h => h h4)) qsN)))
def pF_c2 : List QE := [⟨112, [.tup [.agg [.sym 2, .sym 3, .sym 4, .sym 5, .sym 6, .sym 7, .sym 8, .sym 9, .sym 10, .sym 11, .sym 12]], .tup []], (.bool false)⟩]
theorem pF_d2  (A : pF_A) (w : World) (H2 : pF_h2 A w) (R : List Value) : CsOK (Gw 8 (syL (pF_s2 A w R)) w) Tryz.prog pF_c2 := by have ⟨H_l, h0, h1, h2, h3, h4, h5⟩ := H2; exact (csC (q_callT (.val _ _ _ _ _ rfl .nil) rfl rfl rfl (fun w xs hw hq => by obtain ⟨_, rfl, rfl⟩ := hq; have hb := decide_eq_false h5; rw [← hb]; exact pCharge_n _ _)) csN)
def pF_h5  (A : pF_A) (w : World) : Prop := pF_h2 A w ∧ (¬ (A.p.kind = 3)) ∧ (A.p.by_.reeve = 0) ∧ (¬ (A.p.by_.number = 0))
def pF_s5  (A : pF_A) (w : World) (R : List Value) : List Value := (pF_s2 A w R)
def pF_t5 : List QE := (pF_t2 ++ [⟨tagB .eql, [.sym 5, .int .u8 3], .bool false⟩, ⟨20, [.sym 10, .int .i64 0], .bool true⟩, ⟨20, [.sym 11, .int .i64 0], .bool false⟩])
theorem pF_q5  (A : pF_A) (w : World) (H5 : pF_h5 A w) (R : List Value) : QsOK (Gw 8 (syL (pF_s5 A w R)) w) Tryz.prog pF_t5 := by have ⟨H2, h6, h7, h8⟩ := H5; have ⟨H_l, h0, h1, h2, h3, h4, h5⟩ := H2; exact (qsA (pF_q2 A w H2 _) (qsC (q_f .eql rfl rfl rfl h6) (qsC (q_it rfl rfl h7) (qsC (q_if rfl rfl h8) qsN))))
def pF_c5 : List QE := pF_c2
theorem pF_d5  (A : pF_A) (w : World) (H5 : pF_h5 A w) (R : List Value) : CsOK (Gw 8 (syL (pF_s5 A w R)) w) Tryz.prog pF_c5 := by have ⟨H2, h6, h7, h8⟩ := H5; have ⟨H_l, h0, h1, h2, h3, h4, h5⟩ := H2; exact (pF_d2 A w H2 _)
def pF_L1_P  (A : pF_A) (w : World) (v10 : Int) : List Value := (pF_s5 A w (.int .i64 v10 :: []))
def pF_L1_H : Head := (⟨[(0, .sym 1), (1, .fn (.func 246) [] [.ptr 8 0]), (4, .int .i64 0), (6, .sym 1), (7, .sym 13), (8, .sym 15)], [(8, .cells [.sym 2, .sym 3, .sym 4, .sym 5, .sym 6, .sym 7, .sym 8, .sym 9, .sym 10, .sym 11, .sym 12] 0 0)], 9, 9, 0, 0, 15, 16⟩ : Head)
def pF_L1_R : Rn := ⟨9, [], 0, [], 15, [.int .i64 0]⟩
def pF_L1_X0 : Head := (⟨[(0, .sym 1), (4, .sym 15), (6, .sym 1)], [(8, .cells [.sym 2, .sym 3, .sym 4, .sym 5, .sym 6, .sym 7, .sym 8, .sym 9, .sym 10, .sym 11, .sym 12] 0 0)], 9, 9, 0, 0, 15, 16⟩ : Head)
def pF_L1_X1 : Head := (⟨[(0, .sym 1), (4, .int .i64 0), (6, .sym 1)], [(8, .cells [.sym 2, .sym 3, .sym 4, .sym 5, .sym 6, .sym 7, .sym 8, .sym 9, .sym 10, .sym 11, .sym 12] 0 0)], 9, 9, 0, 0, 15, 15⟩ : Head)
def pF_h6  (A : pF_A) (w : World) (v10 : Int) : Prop := pF_h5 A w ∧ (0 ≤ v10 ∧ v10 ≤ ((A.l.length : Nat) : Int)) ∧ (v10 < ((A.l.length : Nat) : Int))
def pF_s6  (A : pF_A) (w : World) (v10 : Int) (R : List Value) : List Value := (pF_s5 A w (.int .i64 v10 :: .pointer (some ⟨A.b_l, A.o_l + (v10 : Int).toNat * 11, none⟩) :: poV (at_ A.l v10) ++ R))
def pF_t6 : List QE := (pF_t5 ++ [⟨tagB .lss, [.sym 15, .sym 13], .bool true⟩, ⟨2000000000 + 38, [.sym 1, .sym 15], .sym 16⟩, ⟨8000000000 + 25, [.sym 16], .agg [.sym 17, .sym 18, .sym 19, .sym 20, .sym 21, .sym 22, .sym 23, .sym 24, .sym 25, .sym 26, .sym 27]⟩])
theorem pF_q6  (A : pF_A) (w : World) (v10 : Int) (H6 : pF_h6 A w v10) (R : List Value) : QsOK (Gw 8 (syL (pF_s6 A w v10 R)) w) Tryz.prog pF_t6 := by have ⟨H5, h9, h10⟩ := H6; have ⟨H2, h6, h7, h8⟩ := H5; have ⟨H_l, h0, h1, h2, h3, h4, h5⟩ := H2; exact (qsA (pF_q5 A w H5 _) (qsC (q_t .lss rfl rfl rfl h10) (qsC (q_idxO (C := poC) H_l (sz := 11) (m := v10) rfl rfl rfl ⟨by omega, by rw [(rfl : ((A.l.length : Nat) : Int) = _)]; omega⟩ (by have := (rfl : ((A.l.length : Nat) : Int) = _); omega) rfl (by kernel_rfl)) (qsC (q_rowO (C := poC) H_l (i := v10) ⟨by omega, by rw [(rfl : ((A.l.length : Nat) : Int) = _)]; omega⟩ rfl rfl rfl rfl (by kernel_rfl)) qsN))))
def pF_c6 : List QE := pF_c5
theorem pF_d6  (A : pF_A) (w : World) (v10 : Int) (H6 : pF_h6 A w v10) (R : List Value) : CsOK (Gw 8 (syL (pF_s6 A w v10 R)) w) Tryz.prog pF_c6 := by have ⟨H5, h9, h10⟩ := H6; have ⟨H2, h6, h7, h8⟩ := H5; have ⟨H_l, h0, h1, h2, h3, h4, h5⟩ := H2; exact (pF_d5 A w H5 _)
theorem pF_L1_0  (A : pF_A) (w : World) (v10 : Int) (H6 : pF_h6 A w v10) (h11 : (at_ A.l v10).kind = 4) (h12 : (at_ A.l v10).by_.reeve = A.p.by_.reeve) (h13 : (at_ A.l v10).by_.number = A.p.by_.number) : RndS Tryz.prog 8 202 2 w pF_L1_H pF_L1_X0 (pF_L1_P A w v10) (pF_s5 A w (.int .i64 (v10) :: [])) .ret := by have ⟨H5, h9, h10⟩ := H6; have ⟨H2, h6, h7, h8⟩ := H5; have ⟨H_l, h0, h1, h2, h3, h4, h5⟩ := H2; exact rndS (E := E0) (n0 := 8) (L := (pF_s6 A w v10 [])) (t := (pF_t6 ++ [⟨tagB .eql, [.sym 20, .int .u8 4], .bool true⟩, ⟨20, [.sym 25, .sym 10], .bool true⟩, ⟨20, [.sym 26, .sym 11], .bool true⟩])) (c := pF_c6) 60 60 16 ⟨9, [], 0, [], 15, [.sym 15]⟩ [] ok0 (qsA (pF_q6 A w v10 H6 _) (qsC (q_t .eql rfl rfl rfl h11) (qsC (q_it rfl rfl h12) (qsC (q_it rfl rfl h13) qsN)))) (pF_d6 A w v10 H6 _) cmN lpN ⟨rfl, rfl⟩ (by kernel_rfl) (by kernel_rfl) rfl rfl ⟨rfl, trivial⟩
theorem pF_L1_1  (A : pF_A) (w : World) (v10 : Int) (H6 : pF_h6 A w v10) (h11 : (at_ A.l v10).kind = 4) (h12 : (at_ A.l v10).by_.reeve = A.p.by_.reeve) (h13 : ¬ ((at_ A.l v10).by_.number = A.p.by_.number)) : RndS Tryz.prog 8 202 2 w pF_L1_H pF_L1_H (pF_L1_P A w v10) (pF_L1_P A w (v10 + 1)) .normal := by have ⟨H5, h9, h10⟩ := H6; have ⟨H2, h6, h7, h8⟩ := H5; have ⟨H_l, h0, h1, h2, h3, h4, h5⟩ := H2; exact rndS (E := E0) (n0 := 8) (L := (pF_s6 A w v10 (.int .i64 (v10 + 1) :: []))) (t := (pF_t6 ++ [⟨tagB .eql, [.sym 20, .int .u8 4], .bool true⟩, ⟨20, [.sym 25, .sym 10], .bool true⟩, ⟨20, [.sym 26, .sym 11], .bool false⟩, ⟨tagB .add, [.sym 15, .int .i64 1], .sym 28⟩])) (c := pF_c6) 60 60 16 ⟨9, [], 0, [], 15, [.sym 28]⟩ [] ok0 (qsA (pF_q6 A w v10 H6 _) (qsC (q_t .eql rfl rfl rfl h11) (qsC (q_it rfl rfl h12) (qsC (q_if rfl rfl h13) (qsC (q_addI rfl rfl rfl (show -9223372036854775808 ≤ (v10 + 1) ∧ (v10 + 1) ≤ 9223372036854775807 by omega)) qsN))))) (pF_d6 A w v10 H6 _) cmN lpN ⟨rfl, rfl⟩ (by kernel_rfl) (by kernel_rfl) rfl rfl ⟨rfl, trivial⟩
theorem pF_L1_2  (A : pF_A) (w : World) (v10 : Int) (H6 : pF_h6 A w v10) (h11 : (at_ A.l v10).kind = 4) (h12 : ¬ ((at_ A.l v10).by_.reeve = A.p.by_.reeve)) : RndS Tryz.prog 8 202 2 w pF_L1_H pF_L1_H (pF_L1_P A w v10) (pF_L1_P A w (v10 + 1)) .normal := by have ⟨H5, h9, h10⟩ := H6; have ⟨H2, h6, h7, h8⟩ := H5; have ⟨H_l, h0, h1, h2, h3, h4, h5⟩ := H2; exact rndS (E := E0) (n0 := 8) (L := (pF_s6 A w v10 (.int .i64 (v10 + 1) :: []))) (t := (pF_t6 ++ [⟨tagB .eql, [.sym 20, .int .u8 4], .bool true⟩, ⟨20, [.sym 25, .sym 10], .bool false⟩, ⟨tagB .add, [.sym 15, .int .i64 1], .sym 28⟩])) (c := pF_c6) 60 60 16 ⟨9, [], 0, [], 15, [.sym 28]⟩ [] ok0 (qsA (pF_q6 A w v10 H6 _) (qsC (q_t .eql rfl rfl rfl h11) (qsC (q_if rfl rfl h12) (qsC (q_addI rfl rfl rfl (show -9223372036854775808 ≤ (v10 + 1) ∧ (v10 + 1) ≤ 9223372036854775807 by omega)) qsN)))) (pF_d6 A w v10 H6 _) cmN lpN ⟨rfl, rfl⟩ (by kernel_rfl) (by kernel_rfl) rfl rfl ⟨rfl, trivial⟩
theorem pF_L1_3  (A : pF_A) (w : World) (v10 : Int) (H6 : pF_h6 A w v10) (h11 : ¬ ((at_ A.l v10).kind = 4)) : RndS Tryz.prog 8 202 2 w pF_L1_H pF_L1_H (pF_L1_P A w v10) (pF_L1_P A w (v10 + 1)) .normal := by have ⟨H5, h9, h10⟩ := H6; have ⟨H2, h6, h7, h8⟩ := H5; have ⟨H_l, h0, h1, h2, h3, h4, h5⟩ := H2; exact rndS (E := E0) (n0 := 8) (L := (pF_s6 A w v10 (.int .i64 (v10 + 1) :: []))) (t := (pF_t6 ++ [⟨tagB .eql, [.sym 20, .int .u8 4], .bool false⟩, ⟨tagB .add, [.sym 15, .int .i64 1], .sym 28⟩])) (c := pF_c6) 60 60 16 ⟨9, [], 0, [], 15, [.sym 28]⟩ [] ok0 (qsA (pF_q6 A w v10 H6 _) (qsC (q_f .eql rfl rfl rfl h11) (qsC (q_addI rfl rfl rfl (show -9223372036854775808 ≤ (v10 + 1) ∧ (v10 + 1) ≤ 9223372036854775807 by omega)) qsN))) (pF_d6 A w v10 H6 _) cmN lpN ⟨rfl, rfl⟩ (by kernel_rfl) (by kernel_rfl) rfl rfl ⟨rfl, trivial⟩
theorem pF_L1_4  (A : pF_A) (w : World) (v10 : Int) (H5 : pF_h5 A w) (h9 : 0 ≤ v10 ∧ v10 ≤ ((A.l.length : Nat) : Int)) (h10 : ¬ (v10 < ((A.l.length : Nat) : Int))) : RndS Tryz.prog 8 202 2 w pF_L1_H pF_L1_X1 (pF_L1_P A w v10) (pF_s5 A w []) (.exit 0) := by have ⟨H2, h6, h7, h8⟩ := H5; have ⟨H_l, h0, h1, h2, h3, h4, h5⟩ := H2; exact rndS (E := E0) (n0 := 8) (L := (pF_s5 A w (.int .i64 v10 :: []))) (t := (pF_t5 ++ [⟨tagB .lss, [.sym 15, .sym 13], .bool false⟩])) (c := pF_c5) 60 60 16 ⟨9, [], 0, [], 15, []⟩ [] ok0 (qsA (pF_q5 A w H5 _) (qsC (q_f .lss rfl rfl rfl h10) qsN)) (pF_d5 A w H5 _) cmN lpN ⟨rfl, rfl⟩ (by kernel_rfl) (by kernel_rfl) rfl rfl trivial
def pF_L1  (A : pF_A) (w : World) : Nat → Int → Option (Nat × Int × Unit)
 | 0, _ => none
 | fu_ + 1, v10 => (if v10 < ((A.l.length : Nat) : Int) then (if (at_ A.l v10).kind = 4 then (if (at_ A.l v10).by_.reeve = A.p.by_.reeve then (if (at_ A.l v10).by_.number = A.p.by_.number then some (0, v10, ()) else pF_L1 A w fu_ (v10 + 1)) else pF_L1 A w fu_ (v10 + 1)) else pF_L1 A w fu_ (v10 + 1)) else some (1, default, ()))
theorem pF_L1_ok  (A : pF_A) (w : World) (H5 : pF_h5 A w) : ∀ (fu_ : Nat) (v10 : Int), (0 ≤ v10 ∧ v10 ≤ ((A.l.length : Nat) : Int)) → ((((A.l.length : Nat) : Int) - v10) : Int) < fu_ → ∃ o, pF_L1 A w fu_ v10 = some o ∧ ((o.1 = 0 ∧ (0 ≤ o.2.1 ∧ o.2.1 < ((A.l.length : Nat) : Int) ∧ o.2.1 ≤ ((A.l.length : Nat) : Int)) ∧ RdsS Tryz.prog 8 202 2 w pF_L1_H pF_L1_X0 (pF_L1_P A w v10) (pF_s5 A w (.int .i64 o.2.1 :: [])) .ret fu_) ∨ (o.1 = 1 ∧ True ∧ RdsS Tryz.prog 8 202 2 w pF_L1_H pF_L1_X1 (pF_L1_P A w v10) (pF_s5 A w []) (.exit 0) fu_)) := by
 have ⟨H2, h6, h7, h8⟩ := H5; have ⟨H_l, h0, h1, h2, h3, h4, h5⟩ := H2; intro fu_
 induction fu_ with
 | zero => intro v10 _ hm; exfalso; omega
 | succ fu_ ih =>
  intro v10 h9 hm
  rw [pF_L1]
  by_cases h10 : v10 < ((A.l.length : Nat) : Int)
  ·simp only [if_pos h10]
   by_cases h11 : (at_ A.l v10).kind = 4
   ·simp only [if_pos h11]
    by_cases h12 : (at_ A.l v10).by_.reeve = A.p.by_.reeve
    ·simp only [if_pos h12]
     by_cases h13 : (at_ A.l v10).by_.number = A.p.by_.number
     ·simp only [if_pos h13]
      exact ⟨(0, v10, ()), rfl, .inl ⟨rfl, (show 0 ≤ v10 ∧ v10 < ((A.l.length : Nat) : Int) ∧ v10 ≤ ((A.l.length : Nat) : Int) by first | trivial | omega | (simp only [List.length_append, List.length_cons, List.length_nil, List.length_set]; omega)), rndEnd (by intro h; cases h) (pF_L1_0 A w v10 ⟨⟨⟨H_l, h0, h1, h2, h3, h4, h5⟩, h6, h7, h8⟩, h9, h10⟩ h11 h12 h13)⟩⟩
     ·simp only [if_neg h13]
      obtain ⟨o, g1, g2⟩ := ih (v10 + 1) (by first | trivial | omega | (simp only [List.length_append, List.length_cons, List.length_nil, List.length_set]; omega)) (by first | trivial | omega | (simp only [List.length_append, List.length_cons, List.length_nil, List.length_set]; omega))
      refine ⟨o, g1, ?_⟩
      rcases g2 with ⟨ge, gi, gg⟩ | ⟨ge, gi, gg⟩
      ·exact .inl ⟨ge, gi, rndGo (pF_L1_1 A w v10 ⟨⟨⟨H_l, h0, h1, h2, h3, h4, h5⟩, h6, h7, h8⟩, h9, h10⟩ h11 h12 h13) gg⟩
      ·exact .inr (⟨ge, gi, rndGo (pF_L1_1 A w v10 ⟨⟨⟨H_l, h0, h1, h2, h3, h4, h5⟩, h6, h7, h8⟩, h9, h10⟩ h11 h12 h13) gg⟩)
    ·simp only [if_neg h12]
     obtain ⟨o, g1, g2⟩ := ih (v10 + 1) (by first | trivial | omega | (simp only [List.length_append, List.length_cons, List.length_nil, List.length_set]; omega)) (by first | trivial | omega | (simp only [List.length_append, List.length_cons, List.length_nil, List.length_set]; omega))
     refine ⟨o, g1, ?_⟩
     rcases g2 with ⟨ge, gi, gg⟩ | ⟨ge, gi, gg⟩
     ·exact .inl ⟨ge, gi, rndGo (pF_L1_2 A w v10 ⟨⟨⟨H_l, h0, h1, h2, h3, h4, h5⟩, h6, h7, h8⟩, h9, h10⟩ h11 h12) gg⟩
     ·exact .inr (⟨ge, gi, rndGo (pF_L1_2 A w v10 ⟨⟨⟨H_l, h0, h1, h2, h3, h4, h5⟩, h6, h7, h8⟩, h9, h10⟩ h11 h12) gg⟩)
   ·simp only [if_neg h11]
    obtain ⟨o, g1, g2⟩ := ih (v10 + 1) (by first | trivial | omega | (simp only [List.length_append, List.length_cons, List.length_nil, List.length_set]; omega)) (by first | trivial | omega | (simp only [List.length_append, List.length_cons, List.length_nil, List.length_set]; omega))
    refine ⟨o, g1, ?_⟩
    rcases g2 with ⟨ge, gi, gg⟩ | ⟨ge, gi, gg⟩
    ·exact .inl ⟨ge, gi, rndGo (pF_L1_3 A w v10 ⟨⟨⟨H_l, h0, h1, h2, h3, h4, h5⟩, h6, h7, h8⟩, h9, h10⟩ h11) gg⟩
    ·exact .inr (⟨ge, gi, rndGo (pF_L1_3 A w v10 ⟨⟨⟨H_l, h0, h1, h2, h3, h4, h5⟩, h6, h7, h8⟩, h9, h10⟩ h11) gg⟩)
  ·simp only [if_neg h10]
   exact ⟨(1, default, ()), rfl, .inr (⟨rfl, (show True by first | trivial | omega | (simp only [List.length_append, List.length_cons, List.length_nil, List.length_set]; omega)), rndEnd (by intro h; cases h) (pF_L1_4 A w v10 ⟨⟨H_l, h0, h1, h2, h3, h4, h5⟩, h6, h7, h8⟩ h9 h10)⟩)⟩
def pF_h8  (A : pF_A) (w : World) : Prop := pF_h2 A w ∧ (¬ (A.p.kind = 3)) ∧ (¬ (A.p.by_.reeve = 0))
def pF_s8  (A : pF_A) (w : World) (R : List Value) : List Value := (pF_s2 A w R)
def pF_t8 : List QE := (pF_t2 ++ [⟨tagB .eql, [.sym 5, .int .u8 3], .bool false⟩, ⟨20, [.sym 10, .int .i64 0], .bool false⟩])
theorem pF_q8  (A : pF_A) (w : World) (H8 : pF_h8 A w) (R : List Value) : QsOK (Gw 8 (syL (pF_s8 A w R)) w) Tryz.prog pF_t8 := by have ⟨H2, h6, h7⟩ := H8; have ⟨H_l, h0, h1, h2, h3, h4, h5⟩ := H2; exact (qsA (pF_q2 A w H2 _) (qsC (q_f .eql rfl rfl rfl h6) (qsC (q_if rfl rfl h7) qsN)))
def pF_c8 : List QE := pF_c2
theorem pF_d8  (A : pF_A) (w : World) (H8 : pF_h8 A w) (R : List Value) : CsOK (Gw 8 (syL (pF_s8 A w R)) w) Tryz.prog pF_c8 := by have ⟨H2, h6, h7⟩ := H8; have ⟨H_l, h0, h1, h2, h3, h4, h5⟩ := H2; exact (pF_d2 A w H2 _)
def pF_L2_P  (A : pF_A) (w : World) (v20 : Int) : List Value := (pF_s8 A w (.int .i64 v20 :: []))
def pF_L2_H : Head := (⟨[(0, .sym 1), (1, .fn (.func 246) [] [.ptr 8 0]), (4, .int .i64 0), (6, .sym 1), (7, .sym 13), (8, .sym 15)], [(8, .cells [.sym 2, .sym 3, .sym 4, .sym 5, .sym 6, .sym 7, .sym 8, .sym 9, .sym 10, .sym 11, .sym 12] 0 0)], 9, 9, 0, 0, 15, 16⟩ : Head)
def pF_L2_R : Rn := ⟨9, [], 0, [], 15, [.int .i64 0]⟩
def pF_L2_X0 : Head := (⟨[(0, .sym 1), (4, .sym 15), (6, .sym 1)], [(8, .cells [.sym 2, .sym 3, .sym 4, .sym 5, .sym 6, .sym 7, .sym 8, .sym 9, .sym 10, .sym 11, .sym 12] 0 0)], 9, 9, 0, 0, 15, 16⟩ : Head)
def pF_L2_X1 : Head := (⟨[(0, .sym 1), (4, .int .i64 0), (6, .sym 1)], [(8, .cells [.sym 2, .sym 3, .sym 4, .sym 5, .sym 6, .sym 7, .sym 8, .sym 9, .sym 10, .sym 11, .sym 12] 0 0)], 9, 9, 0, 0, 15, 15⟩ : Head)
def pF_h9  (A : pF_A) (w : World) (v20 : Int) : Prop := pF_h8 A w ∧ (0 ≤ v20 ∧ v20 ≤ ((A.l.length : Nat) : Int)) ∧ (v20 < ((A.l.length : Nat) : Int))
def pF_s9  (A : pF_A) (w : World) (v20 : Int) (R : List Value) : List Value := (pF_s8 A w (.int .i64 v20 :: .pointer (some ⟨A.b_l, A.o_l + (v20 : Int).toNat * 11, none⟩) :: poV (at_ A.l v20) ++ R))
def pF_t9 : List QE := (pF_t8 ++ [⟨tagB .lss, [.sym 15, .sym 13], .bool true⟩, ⟨2000000000 + 38, [.sym 1, .sym 15], .sym 16⟩, ⟨8000000000 + 25, [.sym 16], .agg [.sym 17, .sym 18, .sym 19, .sym 20, .sym 21, .sym 22, .sym 23, .sym 24, .sym 25, .sym 26, .sym 27]⟩])
theorem pF_q9  (A : pF_A) (w : World) (v20 : Int) (H9 : pF_h9 A w v20) (R : List Value) : QsOK (Gw 8 (syL (pF_s9 A w v20 R)) w) Tryz.prog pF_t9 := by have ⟨H8, h8, h9⟩ := H9; have ⟨H2, h6, h7⟩ := H8; have ⟨H_l, h0, h1, h2, h3, h4, h5⟩ := H2; exact (qsA (pF_q8 A w H8 _) (qsC (q_t .lss rfl rfl rfl h9) (qsC (q_idxO (C := poC) H_l (sz := 11) (m := v20) rfl rfl rfl ⟨by omega, by rw [(rfl : ((A.l.length : Nat) : Int) = _)]; omega⟩ (by have := (rfl : ((A.l.length : Nat) : Int) = _); omega) rfl (by kernel_rfl)) (qsC (q_rowO (C := poC) H_l (i := v20) ⟨by omega, by rw [(rfl : ((A.l.length : Nat) : Int) = _)]; omega⟩ rfl rfl rfl rfl (by kernel_rfl)) qsN))))
def pF_c9 : List QE := pF_c8
theorem pF_d9  (A : pF_A) (w : World) (v20 : Int) (H9 : pF_h9 A w v20) (R : List Value) : CsOK (Gw 8 (syL (pF_s9 A w v20 R)) w) Tryz.prog pF_c9 := by have ⟨H8, h8, h9⟩ := H9; have ⟨H2, h6, h7⟩ := H8; have ⟨H_l, h0, h1, h2, h3, h4, h5⟩ := H2; exact (pF_d8 A w H8 _)
theorem pF_L2_0  (A : pF_A) (w : World) (v20 : Int) (H9 : pF_h9 A w v20) (h10 : (at_ A.l v20).kind = 4) (h11 : (at_ A.l v20).by_.reeve = A.p.by_.reeve) (h12 : (at_ A.l v20).by_.number = A.p.by_.number) : RndS Tryz.prog 8 202 2 w pF_L2_H pF_L2_X0 (pF_L2_P A w v20) (pF_s8 A w (.int .i64 (v20) :: [])) .ret := by have ⟨H8, h8, h9⟩ := H9; have ⟨H2, h6, h7⟩ := H8; have ⟨H_l, h0, h1, h2, h3, h4, h5⟩ := H2; exact rndS (E := E0) (n0 := 8) (L := (pF_s9 A w v20 [])) (t := (pF_t9 ++ [⟨tagB .eql, [.sym 20, .int .u8 4], .bool true⟩, ⟨20, [.sym 25, .sym 10], .bool true⟩, ⟨20, [.sym 26, .sym 11], .bool true⟩])) (c := pF_c9) 60 60 16 ⟨9, [], 0, [], 15, [.sym 15]⟩ [] ok0 (qsA (pF_q9 A w v20 H9 _) (qsC (q_t .eql rfl rfl rfl h10) (qsC (q_it rfl rfl h11) (qsC (q_it rfl rfl h12) qsN)))) (pF_d9 A w v20 H9 _) cmN lpN ⟨rfl, rfl⟩ (by kernel_rfl) (by kernel_rfl) rfl rfl ⟨rfl, trivial⟩
theorem pF_L2_1  (A : pF_A) (w : World) (v20 : Int) (H9 : pF_h9 A w v20) (h10 : (at_ A.l v20).kind = 4) (h11 : (at_ A.l v20).by_.reeve = A.p.by_.reeve) (h12 : ¬ ((at_ A.l v20).by_.number = A.p.by_.number)) : RndS Tryz.prog 8 202 2 w pF_L2_H pF_L2_H (pF_L2_P A w v20) (pF_L2_P A w (v20 + 1)) .normal := by have ⟨H8, h8, h9⟩ := H9; have ⟨H2, h6, h7⟩ := H8; have ⟨H_l, h0, h1, h2, h3, h4, h5⟩ := H2; exact rndS (E := E0) (n0 := 8) (L := (pF_s9 A w v20 (.int .i64 (v20 + 1) :: []))) (t := (pF_t9 ++ [⟨tagB .eql, [.sym 20, .int .u8 4], .bool true⟩, ⟨20, [.sym 25, .sym 10], .bool true⟩, ⟨20, [.sym 26, .sym 11], .bool false⟩, ⟨tagB .add, [.sym 15, .int .i64 1], .sym 28⟩])) (c := pF_c9) 60 60 16 ⟨9, [], 0, [], 15, [.sym 28]⟩ [] ok0 (qsA (pF_q9 A w v20 H9 _) (qsC (q_t .eql rfl rfl rfl h10) (qsC (q_it rfl rfl h11) (qsC (q_if rfl rfl h12) (qsC (q_addI rfl rfl rfl (show -9223372036854775808 ≤ (v20 + 1) ∧ (v20 + 1) ≤ 9223372036854775807 by omega)) qsN))))) (pF_d9 A w v20 H9 _) cmN lpN ⟨rfl, rfl⟩ (by kernel_rfl) (by kernel_rfl) rfl rfl ⟨rfl, trivial⟩
theorem pF_L2_2  (A : pF_A) (w : World) (v20 : Int) (H9 : pF_h9 A w v20) (h10 : (at_ A.l v20).kind = 4) (h11 : ¬ ((at_ A.l v20).by_.reeve = A.p.by_.reeve)) : RndS Tryz.prog 8 202 2 w pF_L2_H pF_L2_H (pF_L2_P A w v20) (pF_L2_P A w (v20 + 1)) .normal := by have ⟨H8, h8, h9⟩ := H9; have ⟨H2, h6, h7⟩ := H8; have ⟨H_l, h0, h1, h2, h3, h4, h5⟩ := H2; exact rndS (E := E0) (n0 := 8) (L := (pF_s9 A w v20 (.int .i64 (v20 + 1) :: []))) (t := (pF_t9 ++ [⟨tagB .eql, [.sym 20, .int .u8 4], .bool true⟩, ⟨20, [.sym 25, .sym 10], .bool false⟩, ⟨tagB .add, [.sym 15, .int .i64 1], .sym 28⟩])) (c := pF_c9) 60 60 16 ⟨9, [], 0, [], 15, [.sym 28]⟩ [] ok0 (qsA (pF_q9 A w v20 H9 _) (qsC (q_t .eql rfl rfl rfl h10) (qsC (q_if rfl rfl h11) (qsC (q_addI rfl rfl rfl (show -9223372036854775808 ≤ (v20 + 1) ∧ (v20 + 1) ≤ 9223372036854775807 by omega)) qsN)))) (pF_d9 A w v20 H9 _) cmN lpN ⟨rfl, rfl⟩ (by kernel_rfl) (by kernel_rfl) rfl rfl ⟨rfl, trivial⟩
theorem pF_L2_3  (A : pF_A) (w : World) (v20 : Int) (H9 : pF_h9 A w v20) (h10 : ¬ ((at_ A.l v20).kind = 4)) : RndS Tryz.prog 8 202 2 w pF_L2_H pF_L2_H (pF_L2_P A w v20) (pF_L2_P A w (v20 + 1)) .normal := by have ⟨H8, h8, h9⟩ := H9; have ⟨H2, h6, h7⟩ := H8; have ⟨H_l, h0, h1, h2, h3, h4, h5⟩ := H2; exact rndS (E := E0) (n0 := 8) (L := (pF_s9 A w v20 (.int .i64 (v20 + 1) :: []))) (t := (pF_t9 ++ [⟨tagB .eql, [.sym 20, .int .u8 4], .bool false⟩, ⟨tagB .add, [.sym 15, .int .i64 1], .sym 28⟩])) (c := pF_c9) 60 60 16 ⟨9, [], 0, [], 15, [.sym 28]⟩ [] ok0 (qsA (pF_q9 A w v20 H9 _) (qsC (q_f .eql rfl rfl rfl h10) (qsC (q_addI rfl rfl rfl (show -9223372036854775808 ≤ (v20 + 1) ∧ (v20 + 1) ≤ 9223372036854775807 by omega)) qsN))) (pF_d9 A w v20 H9 _) cmN lpN ⟨rfl, rfl⟩ (by kernel_rfl) (by kernel_rfl) rfl rfl ⟨rfl, trivial⟩
theorem pF_L2_4  (A : pF_A) (w : World) (v20 : Int) (H8 : pF_h8 A w) (h8 : 0 ≤ v20 ∧ v20 ≤ ((A.l.length : Nat) : Int)) (h9 : ¬ (v20 < ((A.l.length : Nat) : Int))) : RndS Tryz.prog 8 202 2 w pF_L2_H pF_L2_X1 (pF_L2_P A w v20) (pF_s8 A w []) (.exit 0) := by have ⟨H2, h6, h7⟩ := H8; have ⟨H_l, h0, h1, h2, h3, h4, h5⟩ := H2; exact rndS (E := E0) (n0 := 8) (L := (pF_s8 A w (.int .i64 v20 :: []))) (t := (pF_t8 ++ [⟨tagB .lss, [.sym 15, .sym 13], .bool false⟩])) (c := pF_c8) 60 60 16 ⟨9, [], 0, [], 15, []⟩ [] ok0 (qsA (pF_q8 A w H8 _) (qsC (q_f .lss rfl rfl rfl h9) qsN)) (pF_d8 A w H8 _) cmN lpN ⟨rfl, rfl⟩ (by kernel_rfl) (by kernel_rfl) rfl rfl trivial
def pF_L2  (A : pF_A) (w : World) : Nat → Int → Option (Nat × Int × Unit)
 | 0, _ => none
 | fu_ + 1, v20 => (if v20 < ((A.l.length : Nat) : Int) then (if (at_ A.l v20).kind = 4 then (if (at_ A.l v20).by_.reeve = A.p.by_.reeve then (if (at_ A.l v20).by_.number = A.p.by_.number then some (0, v20, ()) else pF_L2 A w fu_ (v20 + 1)) else pF_L2 A w fu_ (v20 + 1)) else pF_L2 A w fu_ (v20 + 1)) else some (1, default, ()))
theorem pF_L2_ok  (A : pF_A) (w : World) (H8 : pF_h8 A w) : ∀ (fu_ : Nat) (v20 : Int), (0 ≤ v20 ∧ v20 ≤ ((A.l.length : Nat) : Int)) → ((((A.l.length : Nat) : Int) - v20) : Int) < fu_ → ∃ o, pF_L2 A w fu_ v20 = some o ∧ ((o.1 = 0 ∧ (0 ≤ o.2.1 ∧ o.2.1 < ((A.l.length : Nat) : Int) ∧ o.2.1 ≤ ((A.l.length : Nat) : Int)) ∧ RdsS Tryz.prog 8 202 2 w pF_L2_H pF_L2_X0 (pF_L2_P A w v20) (pF_s8 A w (.int .i64 o.2.1 :: [])) .ret fu_) ∨ (o.1 = 1 ∧ True ∧ RdsS Tryz.prog 8 202 2 w pF_L2_H pF_L2_X1 (pF_L2_P A w v20) (pF_s8 A w []) (.exit 0) fu_)) := by
 have ⟨H2, h6, h7⟩ := H8; have ⟨H_l, h0, h1, h2, h3, h4, h5⟩ := H2; intro fu_
 induction fu_ with
 | zero => intro v20 _ hm; exfalso; omega
 | succ fu_ ih =>
  intro v20 h8 hm
  rw [pF_L2]
  by_cases h9 : v20 < ((A.l.length : Nat) : Int)
  ·simp only [if_pos h9]
   by_cases h10 : (at_ A.l v20).kind = 4
   ·simp only [if_pos h10]
    by_cases h11 : (at_ A.l v20).by_.reeve = A.p.by_.reeve
    ·simp only [if_pos h11]
     by_cases h12 : (at_ A.l v20).by_.number = A.p.by_.number
     ·simp only [if_pos h12]
      exact ⟨(0, v20, ()), rfl, .inl ⟨rfl, (show 0 ≤ v20 ∧ v20 < ((A.l.length : Nat) : Int) ∧ v20 ≤ ((A.l.length : Nat) : Int) by first | trivial | omega | (simp only [List.length_append, List.length_cons, List.length_nil, List.length_set]; omega)), rndEnd (by intro h; cases h) (pF_L2_0 A w v20 ⟨⟨⟨H_l, h0, h1, h2, h3, h4, h5⟩, h6, h7⟩, h8, h9⟩ h10 h11 h12)⟩⟩
     ·simp only [if_neg h12]
      obtain ⟨o, g1, g2⟩ := ih (v20 + 1) (by first | trivial | omega | (simp only [List.length_append, List.length_cons, List.length_nil, List.length_set]; omega)) (by first | trivial | omega | (simp only [List.length_append, List.length_cons, List.length_nil, List.length_set]; omega))
      refine ⟨o, g1, ?_⟩
      rcases g2 with ⟨ge, gi, gg⟩ | ⟨ge, gi, gg⟩
      ·exact .inl ⟨ge, gi, rndGo (pF_L2_1 A w v20 ⟨⟨⟨H_l, h0, h1, h2, h3, h4, h5⟩, h6, h7⟩, h8, h9⟩ h10 h11 h12) gg⟩
      ·exact .inr (⟨ge, gi, rndGo (pF_L2_1 A w v20 ⟨⟨⟨H_l, h0, h1, h2, h3, h4, h5⟩, h6, h7⟩, h8, h9⟩ h10 h11 h12) gg⟩)
    ·simp only [if_neg h11]
     obtain ⟨o, g1, g2⟩ := ih (v20 + 1) (by first | trivial | omega | (simp only [List.length_append, List.length_cons, List.length_nil, List.length_set]; omega)) (by first | trivial | omega | (simp only [List.length_append, List.length_cons, List.length_nil, List.length_set]; omega))
     refine ⟨o, g1, ?_⟩
     rcases g2 with ⟨ge, gi, gg⟩ | ⟨ge, gi, gg⟩
     ·exact .inl ⟨ge, gi, rndGo (pF_L2_2 A w v20 ⟨⟨⟨H_l, h0, h1, h2, h3, h4, h5⟩, h6, h7⟩, h8, h9⟩ h10 h11) gg⟩
     ·exact .inr (⟨ge, gi, rndGo (pF_L2_2 A w v20 ⟨⟨⟨H_l, h0, h1, h2, h3, h4, h5⟩, h6, h7⟩, h8, h9⟩ h10 h11) gg⟩)
   ·simp only [if_neg h10]
    obtain ⟨o, g1, g2⟩ := ih (v20 + 1) (by first | trivial | omega | (simp only [List.length_append, List.length_cons, List.length_nil, List.length_set]; omega)) (by first | trivial | omega | (simp only [List.length_append, List.length_cons, List.length_nil, List.length_set]; omega))
    refine ⟨o, g1, ?_⟩
    rcases g2 with ⟨ge, gi, gg⟩ | ⟨ge, gi, gg⟩
    ·exact .inl ⟨ge, gi, rndGo (pF_L2_3 A w v20 ⟨⟨⟨H_l, h0, h1, h2, h3, h4, h5⟩, h6, h7⟩, h8, h9⟩ h10) gg⟩
    ·exact .inr (⟨ge, gi, rndGo (pF_L2_3 A w v20 ⟨⟨⟨H_l, h0, h1, h2, h3, h4, h5⟩, h6, h7⟩, h8, h9⟩ h10) gg⟩)
  ·simp only [if_neg h9]
   exact ⟨(1, default, ()), rfl, .inr (⟨rfl, (show True by first | trivial | omega | (simp only [List.length_append, List.length_cons, List.length_nil, List.length_set]; omega)), rndEnd (by intro h; cases h) (pF_L2_4 A w v20 ⟨⟨H_l, h0, h1, h2, h3, h4, h5⟩, h6, h7⟩ h8 h9)⟩)⟩
theorem pF_0  (A : pF_A) (w : World) (x0_00 : Int) (H0 : pF_h0 A w) (h6 : pF_L0 A w (((((A.l.length : Nat) : Int) - 0) : Int).toNat + 1) 0 = some (0, x0_00, ())) (h7 : 0 ≤ x0_00 ∧ x0_00 < ((A.l.length : Nat) : Int) ∧ x0_00 ≤ ((A.l.length : Nat) : Int)) : Calls Tryz.prog 190 #[.slice A.a_l A.l.length A.κ_l, A.p.val] w fun e w' => e = .returned (.int .i64 6) ∧ Chg (fun _ => False) w w' :=
 by have ⟨H_l, h0, h1, h2, h3, h4, h5⟩ := H0; exact leafS (E := E0) (n0 := 8) (L := (pF_s0 A w (.int .i64 x0_00 :: []))) (t := (pF_t0 ++ [⟨tagB .geq, [.sym 15, .int .i64 0], .bool true⟩])) (c := pF_c0) (p := [⟨202, 2, lpG pF_L0_H pF_L0_R [] pF_L0_X0 .ret⟩]) 60 60 ok0 (qsA (pF_q0 A w H0 _) (qsC (q_t .geq rfl rfl rfl (show 0 ≤ x0_00 by omega)) qsN)) (pF_d0 A w H0 _) cmN (by exact loopS (E := E0) (r := pF_L0_R) (L0 := (pF_L0_P A w 0)) (Lo := (pF_s0 A w (.int .i64 x0_00 :: []))) rfl rfl (by kernel_rfl) rfl ⟨rfl, trivial⟩ rfl (by obtain ⟨o, g1, g2⟩ := pF_L0_ok A w ⟨H_l, h0, h1, h2, h3, h4, h5⟩ (((((A.l.length : Nat) : Int) - 0) : Int).toNat + 1) 0 (by first | trivial | omega | (simp only [List.length_append, List.length_cons, List.length_nil, List.length_set]; omega)) (by first | omega | (simp only [List.length_append, List.length_cons, List.length_nil, List.length_set]; omega)); rw [h6] at g1; cases g1; rcases g2 with ⟨ge, -, gg⟩ | ⟨ge, -, gg⟩; exact gg; exact absurd (show (0 : Nat) = 1 from ge) (by decide))) rfl (vs := [.sym 1, .agg [.sym 2, .sym 3, .sym 4, .sym 5, .sym 6, .sym 7, .sym 8, .sym 9, .sym 10, .sym 11, .sym 12]]) (v := .int .i64 6) rfl rfl (by kernel_rfl) rfl
theorem pF_1  (A : pF_A) (w : World) (x0_00 : Int) (H0 : pF_h0 A w) (h6 : pF_L0 A w (((((A.l.length : Nat) : Int) - 0) : Int).toNat + 1) 0 = some (1, x0_00, ())) (h7 : True) : Calls Tryz.prog 190 #[.slice A.a_l A.l.length A.κ_l, A.p.val] w fun e w' => e = .returned (.int .i64 0) ∧ Chg (fun _ => False) w w' :=
 by have ⟨H_l, h0, h1, h2, h3, h4, h5⟩ := H0; exact leafS (E := E0) (n0 := 8) (L := (pF_s0 A w [])) (t := pF_t0) (c := pF_c0) (p := [⟨202, 2, lpG pF_L0_H pF_L0_R [] pF_L0_X1 (.exit 0)⟩]) 60 60 ok0 (pF_q0 A w H0 _) (pF_d0 A w H0 _) cmN (by exact loopS (E := E0) (r := pF_L0_R) (L0 := (pF_L0_P A w 0)) (Lo := (pF_s0 A w [])) rfl rfl (by kernel_rfl) rfl ⟨rfl, trivial⟩ rfl (by obtain ⟨o, g1, g2⟩ := pF_L0_ok A w ⟨H_l, h0, h1, h2, h3, h4, h5⟩ (((((A.l.length : Nat) : Int) - 0) : Int).toNat + 1) 0 (by first | trivial | omega | (simp only [List.length_append, List.length_cons, List.length_nil, List.length_set]; omega)) (by first | omega | (simp only [List.length_append, List.length_cons, List.length_nil, List.length_set]; omega)); rw [h6] at g1; cases g1; rcases g2 with ⟨ge, -, gg⟩ | ⟨ge, -, gg⟩; exact absurd (show (1 : Nat) = 0 from ge) (by decide); exact gg)) rfl (vs := [.sym 1, .agg [.sym 2, .sym 3, .sym 4, .sym 5, .sym 6, .sym 7, .sym 8, .sym 9, .sym 10, .sym 11, .sym 12]]) (v := .int .i64 0) rfl rfl (by kernel_rfl) rfl
theorem pF_2  (A : pF_A) (w : World) (H2 : pF_h2 A w) (h6 : A.p.kind = 3) : Calls Tryz.prog 190 #[.slice A.a_l A.l.length A.κ_l, A.p.val] w fun e w' => e = .returned (.int .i64 0) ∧ Chg (fun _ => False) w w' :=
 by have ⟨H_l, h0, h1, h2, h3, h4, h5⟩ := H2; exact leafS (E := E0) (n0 := 8) (L := (pF_s2 A w [])) (t := (pF_t2 ++ [⟨tagB .eql, [.sym 5, .int .u8 3], .bool true⟩])) (c := pF_c2) 60 60 ok0 (qsA (pF_q2 A w H2 _) (qsC (q_t .eql rfl rfl rfl h6) qsN)) (pF_d2 A w H2 _) cmN lpN rfl (vs := [.sym 1, .agg [.sym 2, .sym 3, .sym 4, .sym 5, .sym 6, .sym 7, .sym 8, .sym 9, .sym 10, .sym 11, .sym 12]]) (v := .int .i64 0) rfl rfl (by kernel_rfl) rfl
def pF_h3  (A : pF_A) (w : World) : Prop := pF_h2 A w ∧ (¬ (A.p.kind = 3)) ∧ (A.p.by_.reeve = 0) ∧ (A.p.by_.number = 0)
def pF_s3  (A : pF_A) (w : World) (R : List Value) : List Value := (pF_s2 A w (.int .i64 (A.p.of.number - 1) :: .pointer (some ⟨A.b_l, A.o_l + ((A.p.of.number - 1) : Int).toNat * 11, none⟩) :: poV (at_ A.l (A.p.of.number - 1)) ++ R))
def pF_t3 : List QE := (pF_t2 ++ [⟨tagB .eql, [.sym 5, .int .u8 3], .bool false⟩, ⟨20, [.sym 10, .int .i64 0], .bool true⟩, ⟨20, [.sym 11, .int .i64 0], .bool true⟩, ⟨tagB .sub, [.sym 9, .int .i64 1], .sym 15⟩, ⟨2000000000 + 38, [.sym 1, .sym 15], .sym 16⟩, ⟨8000000000 + 25, [.sym 16], .agg [.sym 17, .sym 18, .sym 19, .sym 20, .sym 21, .sym 22, .sym 23, .sym 24, .sym 25, .sym 26, .sym 27]⟩])
theorem pF_q3  (A : pF_A) (w : World) (H3 : pF_h3 A w) (R : List Value) : QsOK (Gw 8 (syL (pF_s3 A w R)) w) Tryz.prog pF_t3 := by have ⟨H2, h6, h7, h8⟩ := H3; have ⟨H_l, h0, h1, h2, h3, h4, h5⟩ := H2; exact (qsA (pF_q2 A w H2 _) (qsC (q_f .eql rfl rfl rfl h6) (qsC (q_it rfl rfl h7) (qsC (q_it rfl rfl h8) (qsC (q_subI rfl rfl rfl (show -9223372036854775808 ≤ (A.p.of.number - 1) ∧ (A.p.of.number - 1) ≤ 9223372036854775807 by omega)) (qsC (q_idxO (C := poC) H_l (sz := 11) (m := (A.p.of.number - 1)) rfl rfl rfl ⟨by omega, by rw [(rfl : ((A.l.length : Nat) : Int) = _)]; omega⟩ (by have := (rfl : ((A.l.length : Nat) : Int) = _); omega) rfl (by kernel_rfl)) (qsC (q_rowO (C := poC) H_l (i := (A.p.of.number - 1)) ⟨by omega, by rw [(rfl : ((A.l.length : Nat) : Int) = _)]; omega⟩ rfl rfl rfl rfl (by kernel_rfl)) qsN)))))))
def pF_c3 : List QE := pF_c2
theorem pF_d3  (A : pF_A) (w : World) (H3 : pF_h3 A w) (R : List Value) : CsOK (Gw 8 (syL (pF_s3 A w R)) w) Tryz.prog pF_c3 := by have ⟨H2, h6, h7, h8⟩ := H3; have ⟨H_l, h0, h1, h2, h3, h4, h5⟩ := H2; exact (pF_d2 A w H2 _)
def pF_h4  (A : pF_A) (w : World) : Prop := pF_h3 A w ∧ ((at_ A.l (A.p.of.number - 1)).kind = 1 ∨ (at_ A.l (A.p.of.number - 1)).kind = 2) ∧ ((at_ A.l (A.p.of.number - 1)).owner = A.p.owner) ∧ (0 ≤ owedN A.l (at_ A.l (A.p.of.number - 1)))
def pF_s4  (A : pF_A) (w : World) (R : List Value) : List Value := (pF_s3 A w (.int .i64 ((owedN A.l (at_ A.l (A.p.of.number - 1)))) :: R))
def pF_t4 : List QE := (pF_t3 ++ [⟨tagB .neq, [.sym 22, .sym 7], .bool false⟩])
theorem pF_q4  (A : pF_A) (w : World) (H4 : pF_h4 A w) (R : List Value) : QsOK (Gw 8 (syL (pF_s4 A w R)) w) Tryz.prog pF_t4 := by have ⟨H3, h9, h10, h11⟩ := H4; have ⟨H2, h6, h7, h8⟩ := H3; have ⟨H_l, h0, h1, h2, h3, h4, h5⟩ := H2; exact (qsA (pF_q3 A w H3 _) (qsC (q_f .neq rfl rfl rfl (fun h => h h10)) qsN))
def pF_c4 : List QE := (pF_c3 ++ [⟨112, [.tup [.agg [.sym 17, .sym 18, .sym 19, .sym 20, .sym 21, .sym 22, .sym 23, .sym 24, .sym 25, .sym 26, .sym 27]], .tup []], (.bool true)⟩, ⟨100, [.tup [.sym 1, .agg [.sym 17, .sym 18, .sym 19, .sym 20, .sym 21, .sym 22, .sym 23, .sym 24, .sym 25, .sym 26, .sym 27]], .tup []], (.sym 28)⟩])
theorem pF_d4  (A : pF_A) (w : World) (H4 : pF_h4 A w) (R : List Value) : CsOK (Gw 8 (syL (pF_s4 A w R)) w) Tryz.prog pF_c4 := by have ⟨H3, h9, h10, h11⟩ := H4; have ⟨H2, h6, h7, h8⟩ := H3; have ⟨H_l, h0, h1, h2, h3, h4, h5⟩ := H2; exact (csA (pF_d3 A w H3 _) (csC (q_callT (.val _ _ _ _ _ rfl .nil) rfl rfl rfl (fun w xs hw hq => by obtain ⟨_, rfl, rfl⟩ := hq; have hb := decide_eq_true h9; rw [← hb]; exact pCharge_n _ _)) (csC (q_callT (.val _ _ _ _ _ rfl (.val _ _ _ _ _ rfl .nil)) rfl rfl rfl (fun w xs hw hq => by obtain ⟨_, rfl, _, rfl, rfl⟩ := hq; exact pOwed_n (LstAt.old H_l hw) (by first | omega | (simp only [List.length_take]; omega)) (show (((A.l).length : Nat) : Int) ≤ 1000 by omega) _)) csN)))
theorem pF_3  (A : pF_A) (w : World) (H4 : pF_h4 A w) (h12 : (owedN A.l (at_ A.l (A.p.of.number - 1))) < A.p.amount) : Calls Tryz.prog 190 #[.slice A.a_l A.l.length A.κ_l, A.p.val] w fun e w' => e = .returned (.int .i64 8) ∧ Chg (fun _ => False) w w' :=
 by have ⟨H3, h9, h10, h11⟩ := H4; have ⟨H2, h6, h7, h8⟩ := H3; have ⟨H_l, h0, h1, h2, h3, h4, h5⟩ := H2; exact leafS (E := E0) (n0 := 8) (L := (pF_s4 A w [])) (t := (pF_t4 ++ [⟨tagB .gtr, [.sym 12, .sym 28], .bool true⟩])) (c := pF_c4) 60 60 ok0 (qsA (pF_q4 A w H4 _) (qsC (q_t .gtr rfl rfl rfl h12) qsN)) (pF_d4 A w H4 _) cmN lpN rfl (vs := [.sym 1, .agg [.sym 2, .sym 3, .sym 4, .sym 5, .sym 6, .sym 7, .sym 8, .sym 9, .sym 10, .sym 11, .sym 12]]) (v := .int .i64 8) rfl rfl (by kernel_rfl) rfl
theorem pF_4  (A : pF_A) (w : World) (H4 : pF_h4 A w) (h12 : ¬ ((owedN A.l (at_ A.l (A.p.of.number - 1))) < A.p.amount)) : Calls Tryz.prog 190 #[.slice A.a_l A.l.length A.κ_l, A.p.val] w fun e w' => e = .returned (.int .i64 0) ∧ Chg (fun _ => False) w w' :=
 by have ⟨H3, h9, h10, h11⟩ := H4; have ⟨H2, h6, h7, h8⟩ := H3; have ⟨H_l, h0, h1, h2, h3, h4, h5⟩ := H2; exact leafS (E := E0) (n0 := 8) (L := (pF_s4 A w [])) (t := (pF_t4 ++ [⟨tagB .gtr, [.sym 12, .sym 28], .bool false⟩])) (c := pF_c4) 60 60 ok0 (qsA (pF_q4 A w H4 _) (qsC (q_f .gtr rfl rfl rfl h12) qsN)) (pF_d4 A w H4 _) cmN lpN rfl (vs := [.sym 1, .agg [.sym 2, .sym 3, .sym 4, .sym 5, .sym 6, .sym 7, .sym 8, .sym 9, .sym 10, .sym 11, .sym 12]]) (v := .int .i64 0) rfl rfl (by kernel_rfl) rfl
theorem pF_5  (A : pF_A) (w : World) (H3 : pF_h3 A w) (h9 : (at_ A.l (A.p.of.number - 1)).kind = 1 ∨ (at_ A.l (A.p.of.number - 1)).kind = 2) (h10 : ¬ ((at_ A.l (A.p.of.number - 1)).owner = A.p.owner)) : Calls Tryz.prog 190 #[.slice A.a_l A.l.length A.κ_l, A.p.val] w fun e w' => e = .returned (.int .i64 5) ∧ Chg (fun _ => False) w w' :=
 by have ⟨H2, h6, h7, h8⟩ := H3; have ⟨H_l, h0, h1, h2, h3, h4, h5⟩ := H2; exact leafS (E := E0) (n0 := 8) (L := (pF_s3 A w [])) (t := (pF_t3 ++ [⟨tagB .neq, [.sym 22, .sym 7], .bool true⟩])) (c := (pF_c3 ++ [⟨112, [.tup [.agg [.sym 17, .sym 18, .sym 19, .sym 20, .sym 21, .sym 22, .sym 23, .sym 24, .sym 25, .sym 26, .sym 27]], .tup []], (.bool true)⟩])) 60 60 ok0 (qsA (pF_q3 A w H3 _) (qsC (q_t .neq rfl rfl rfl h10) qsN)) (csA (pF_d3 A w H3 _) (csC (q_callT (.val _ _ _ _ _ rfl .nil) rfl rfl rfl (fun w xs hw hq => by obtain ⟨_, rfl, rfl⟩ := hq; have hb := decide_eq_true h9; rw [← hb]; exact pCharge_n _ _)) csN)) cmN lpN rfl (vs := [.sym 1, .agg [.sym 2, .sym 3, .sym 4, .sym 5, .sym 6, .sym 7, .sym 8, .sym 9, .sym 10, .sym 11, .sym 12]]) (v := .int .i64 5) rfl rfl (by kernel_rfl) rfl
theorem pF_6  (A : pF_A) (w : World) (H3 : pF_h3 A w) (h9 : ¬ ((at_ A.l (A.p.of.number - 1)).kind = 1 ∨ (at_ A.l (A.p.of.number - 1)).kind = 2)) : Calls Tryz.prog 190 #[.slice A.a_l A.l.length A.κ_l, A.p.val] w fun e w' => e = .returned (.int .i64 5) ∧ Chg (fun _ => False) w w' :=
 by have ⟨H2, h6, h7, h8⟩ := H3; have ⟨H_l, h0, h1, h2, h3, h4, h5⟩ := H2; exact leafS (E := E0) (n0 := 8) (L := (pF_s3 A w [])) (t := pF_t3) (c := (pF_c3 ++ [⟨112, [.tup [.agg [.sym 17, .sym 18, .sym 19, .sym 20, .sym 21, .sym 22, .sym 23, .sym 24, .sym 25, .sym 26, .sym 27]], .tup []], (.bool false)⟩])) 60 60 ok0 (pF_q3 A w H3 _) (csA (pF_d3 A w H3 _) (csC (q_callT (.val _ _ _ _ _ rfl .nil) rfl rfl rfl (fun w xs hw hq => by obtain ⟨_, rfl, rfl⟩ := hq; have hb := decide_eq_false h9; rw [← hb]; exact pCharge_n _ _)) csN)) cmN lpN rfl (vs := [.sym 1, .agg [.sym 2, .sym 3, .sym 4, .sym 5, .sym 6, .sym 7, .sym 8, .sym 9, .sym 10, .sym 11, .sym 12]]) (v := .int .i64 5) rfl rfl (by kernel_rfl) rfl
theorem pF_7  (A : pF_A) (w : World) (x1_00 : Int) (H5 : pF_h5 A w) (h9 : pF_L1 A w (((((A.l.length : Nat) : Int) - 0) : Int).toNat + 1) 0 = some (0, x1_00, ())) (h10 : 0 ≤ x1_00 ∧ x1_00 < ((A.l.length : Nat) : Int) ∧ x1_00 ≤ ((A.l.length : Nat) : Int)) : Calls Tryz.prog 190 #[.slice A.a_l A.l.length A.κ_l, A.p.val] w fun e w' => e = .returned (.int .i64 6) ∧ Chg (fun _ => False) w w' :=
 by have ⟨H2, h6, h7, h8⟩ := H5; have ⟨H_l, h0, h1, h2, h3, h4, h5⟩ := H2; exact leafS (E := E0) (n0 := 8) (L := (pF_s5 A w (.int .i64 x1_00 :: []))) (t := (pF_t5 ++ [⟨tagB .geq, [.sym 15, .int .i64 0], .bool true⟩])) (c := pF_c5) (p := [⟨202, 2, lpG pF_L1_H pF_L1_R [] pF_L1_X0 .ret⟩]) 60 60 ok0 (qsA (pF_q5 A w H5 _) (qsC (q_t .geq rfl rfl rfl (show 0 ≤ x1_00 by omega)) qsN)) (pF_d5 A w H5 _) cmN (by exact loopS (E := E0) (r := pF_L1_R) (L0 := (pF_L1_P A w 0)) (Lo := (pF_s5 A w (.int .i64 x1_00 :: []))) rfl rfl (by kernel_rfl) rfl ⟨rfl, trivial⟩ rfl (by obtain ⟨o, g1, g2⟩ := pF_L1_ok A w ⟨⟨H_l, h0, h1, h2, h3, h4, h5⟩, h6, h7, h8⟩ (((((A.l.length : Nat) : Int) - 0) : Int).toNat + 1) 0 (by first | trivial | omega | (simp only [List.length_append, List.length_cons, List.length_nil, List.length_set]; omega)) (by first | omega | (simp only [List.length_append, List.length_cons, List.length_nil, List.length_set]; omega)); rw [h9] at g1; cases g1; rcases g2 with ⟨ge, -, gg⟩ | ⟨ge, -, gg⟩; exact gg; exact absurd (show (0 : Nat) = 1 from ge) (by decide))) rfl (vs := [.sym 1, .agg [.sym 2, .sym 3, .sym 4, .sym 5, .sym 6, .sym 7, .sym 8, .sym 9, .sym 10, .sym 11, .sym 12]]) (v := .int .i64 6) rfl rfl (by kernel_rfl) rfl
def pF_h7  (A : pF_A) (w : World) (x1_00 : Int) : Prop := pF_h5 A w ∧ (pF_L1 A w (((((A.l.length : Nat) : Int) - 0) : Int).toNat + 1) 0 = some (1, x1_00, ())) ∧ True
def pF_s7  (A : pF_A) (w : World) (x1_00 : Int) (R : List Value) : List Value := (pF_s5 A w (.int .i64 (A.p.of.number - 1) :: .pointer (some ⟨A.b_l, A.o_l + ((A.p.of.number - 1) : Int).toNat * 11, none⟩) :: poV (at_ A.l (A.p.of.number - 1)) ++ R))
def pF_t7 : List QE := (pF_t5 ++ [⟨tagB .sub, [.sym 9, .int .i64 1], .sym 15⟩, ⟨2000000000 + 38, [.sym 1, .sym 15], .sym 16⟩, ⟨8000000000 + 25, [.sym 16], .agg [.sym 17, .sym 18, .sym 19, .sym 20, .sym 21, .sym 22, .sym 23, .sym 24, .sym 25, .sym 26, .sym 27]⟩])
theorem pF_q7  (A : pF_A) (w : World) (x1_00 : Int) (H7 : pF_h7 A w x1_00) (R : List Value) : QsOK (Gw 8 (syL (pF_s7 A w x1_00 R)) w) Tryz.prog pF_t7 := by have ⟨H5, h9, h10⟩ := H7; have ⟨H2, h6, h7, h8⟩ := H5; have ⟨H_l, h0, h1, h2, h3, h4, h5⟩ := H2; exact (qsA (pF_q5 A w H5 _) (qsC (q_subI rfl rfl rfl (show -9223372036854775808 ≤ (A.p.of.number - 1) ∧ (A.p.of.number - 1) ≤ 9223372036854775807 by omega)) (qsC (q_idxO (C := poC) H_l (sz := 11) (m := (A.p.of.number - 1)) rfl rfl rfl ⟨by omega, by rw [(rfl : ((A.l.length : Nat) : Int) = _)]; omega⟩ (by have := (rfl : ((A.l.length : Nat) : Int) = _); omega) rfl (by kernel_rfl)) (qsC (q_rowO (C := poC) H_l (i := (A.p.of.number - 1)) ⟨by omega, by rw [(rfl : ((A.l.length : Nat) : Int) = _)]; omega⟩ rfl rfl rfl rfl (by kernel_rfl)) qsN))))
def pF_c7 : List QE := pF_c5
theorem pF_d7  (A : pF_A) (w : World) (x1_00 : Int) (H7 : pF_h7 A w x1_00) (R : List Value) : CsOK (Gw 8 (syL (pF_s7 A w x1_00 R)) w) Tryz.prog pF_c7 := by have ⟨H5, h9, h10⟩ := H7; have ⟨H2, h6, h7, h8⟩ := H5; have ⟨H_l, h0, h1, h2, h3, h4, h5⟩ := H2; exact (pF_d5 A w H5 _)
noncomputable def pF_l7 : List LE := [⟨202, 2, lpG pF_L1_H pF_L1_R [] pF_L1_X1 (.exit 0)⟩]
theorem pF_r7  (A : pF_A) (w : World) (x1_00 : Int) (H7 : pF_h7 A w x1_00) (R : List Value) : LpsA E0 8 (pF_s7 A w x1_00 R) w pF_l7 := by have ⟨H5, h9, h10⟩ := H7; have ⟨H2, h6, h7, h8⟩ := H5; have ⟨H_l, h0, h1, h2, h3, h4, h5⟩ := H2; exact (by exact loopS (E := E0) (r := pF_L1_R) (L0 := (pF_L1_P A w 0)) (Lo := (pF_s5 A w [])) rfl rfl (by kernel_rfl) rfl ⟨rfl, trivial⟩ rfl (by obtain ⟨o, g1, g2⟩ := pF_L1_ok A w ⟨⟨H_l, h0, h1, h2, h3, h4, h5⟩, h6, h7, h8⟩ (((((A.l.length : Nat) : Int) - 0) : Int).toNat + 1) 0 (by first | trivial | omega | (simp only [List.length_append, List.length_cons, List.length_nil, List.length_set]; omega)) (by first | omega | (simp only [List.length_append, List.length_cons, List.length_nil, List.length_set]; omega)); rw [h9] at g1; cases g1; rcases g2 with ⟨ge, -, gg⟩ | ⟨ge, -, gg⟩; exact absurd (show (1 : Nat) = 0 from ge) (by decide); exact gg))
theorem pF_8  (A : pF_A) (w : World) (x1_00 : Int) (H7 : pF_h7 A w x1_00) (h11 : (at_ A.l (A.p.of.number - 1)).kind = 1 ∨ (at_ A.l (A.p.of.number - 1)).kind = 2) (h12 : (at_ A.l (A.p.of.number - 1)).owner = A.p.owner) : Calls Tryz.prog 190 #[.slice A.a_l A.l.length A.κ_l, A.p.val] w fun e w' => e = .returned (.int .i64 0) ∧ Chg (fun _ => False) w w' :=
 by have ⟨H5, h9, h10⟩ := H7; have ⟨H2, h6, h7, h8⟩ := H5; have ⟨H_l, h0, h1, h2, h3, h4, h5⟩ := H2; exact leafS (E := E0) (n0 := 8) (L := (pF_s7 A w x1_00 [])) (t := (pF_t7 ++ [⟨tagB .neq, [.sym 22, .sym 7], .bool false⟩])) (c := (pF_c7 ++ [⟨112, [.tup [.agg [.sym 17, .sym 18, .sym 19, .sym 20, .sym 21, .sym 22, .sym 23, .sym 24, .sym 25, .sym 26, .sym 27]], .tup []], (.bool true)⟩])) (p := pF_l7) 60 60 ok0 (qsA (pF_q7 A w x1_00 H7 _) (qsC (q_f .neq rfl rfl rfl (fun h => h h12)) qsN)) (csA (pF_d7 A w x1_00 H7 _) (csC (q_callT (.val _ _ _ _ _ rfl .nil) rfl rfl rfl (fun w xs hw hq => by obtain ⟨_, rfl, rfl⟩ := hq; have hb := decide_eq_true h11; rw [← hb]; exact pCharge_n _ _)) csN)) cmN (pF_r7 A w x1_00 H7 _) rfl (vs := [.sym 1, .agg [.sym 2, .sym 3, .sym 4, .sym 5, .sym 6, .sym 7, .sym 8, .sym 9, .sym 10, .sym 11, .sym 12]]) (v := .int .i64 0) rfl rfl (by kernel_rfl) rfl
theorem pF_9  (A : pF_A) (w : World) (x1_00 : Int) (H7 : pF_h7 A w x1_00) (h11 : (at_ A.l (A.p.of.number - 1)).kind = 1 ∨ (at_ A.l (A.p.of.number - 1)).kind = 2) (h12 : ¬ ((at_ A.l (A.p.of.number - 1)).owner = A.p.owner)) : Calls Tryz.prog 190 #[.slice A.a_l A.l.length A.κ_l, A.p.val] w fun e w' => e = .returned (.int .i64 5) ∧ Chg (fun _ => False) w w' :=
 by have ⟨H5, h9, h10⟩ := H7; have ⟨H2, h6, h7, h8⟩ := H5; have ⟨H_l, h0, h1, h2, h3, h4, h5⟩ := H2; exact leafS (E := E0) (n0 := 8) (L := (pF_s7 A w x1_00 [])) (t := (pF_t7 ++ [⟨tagB .neq, [.sym 22, .sym 7], .bool true⟩])) (c := (pF_c7 ++ [⟨112, [.tup [.agg [.sym 17, .sym 18, .sym 19, .sym 20, .sym 21, .sym 22, .sym 23, .sym 24, .sym 25, .sym 26, .sym 27]], .tup []], (.bool true)⟩])) (p := pF_l7) 60 60 ok0 (qsA (pF_q7 A w x1_00 H7 _) (qsC (q_t .neq rfl rfl rfl h12) qsN)) (csA (pF_d7 A w x1_00 H7 _) (csC (q_callT (.val _ _ _ _ _ rfl .nil) rfl rfl rfl (fun w xs hw hq => by obtain ⟨_, rfl, rfl⟩ := hq; have hb := decide_eq_true h11; rw [← hb]; exact pCharge_n _ _)) csN)) cmN (pF_r7 A w x1_00 H7 _) rfl (vs := [.sym 1, .agg [.sym 2, .sym 3, .sym 4, .sym 5, .sym 6, .sym 7, .sym 8, .sym 9, .sym 10, .sym 11, .sym 12]]) (v := .int .i64 5) rfl rfl (by kernel_rfl) rfl
theorem pF_10  (A : pF_A) (w : World) (x1_00 : Int) (H7 : pF_h7 A w x1_00) (h11 : ¬ ((at_ A.l (A.p.of.number - 1)).kind = 1 ∨ (at_ A.l (A.p.of.number - 1)).kind = 2)) : Calls Tryz.prog 190 #[.slice A.a_l A.l.length A.κ_l, A.p.val] w fun e w' => e = .returned (.int .i64 5) ∧ Chg (fun _ => False) w w' :=
 by have ⟨H5, h9, h10⟩ := H7; have ⟨H2, h6, h7, h8⟩ := H5; have ⟨H_l, h0, h1, h2, h3, h4, h5⟩ := H2; exact leafS (E := E0) (n0 := 8) (L := (pF_s7 A w x1_00 [])) (t := pF_t7) (c := (pF_c7 ++ [⟨112, [.tup [.agg [.sym 17, .sym 18, .sym 19, .sym 20, .sym 21, .sym 22, .sym 23, .sym 24, .sym 25, .sym 26, .sym 27]], .tup []], (.bool false)⟩])) (p := pF_l7) 60 60 ok0 (pF_q7 A w x1_00 H7 _) (csA (pF_d7 A w x1_00 H7 _) (csC (q_callT (.val _ _ _ _ _ rfl .nil) rfl rfl rfl (fun w xs hw hq => by obtain ⟨_, rfl, rfl⟩ := hq; have hb := decide_eq_false h11; rw [← hb]; exact pCharge_n _ _)) csN)) cmN (pF_r7 A w x1_00 H7 _) rfl (vs := [.sym 1, .agg [.sym 2, .sym 3, .sym 4, .sym 5, .sym 6, .sym 7, .sym 8, .sym 9, .sym 10, .sym 11, .sym 12]]) (v := .int .i64 5) rfl rfl (by kernel_rfl) rfl
theorem pF_11  (A : pF_A) (w : World) (x2_00 : Int) (H8 : pF_h8 A w) (h8 : pF_L2 A w (((((A.l.length : Nat) : Int) - 0) : Int).toNat + 1) 0 = some (0, x2_00, ())) (h9 : 0 ≤ x2_00 ∧ x2_00 < ((A.l.length : Nat) : Int) ∧ x2_00 ≤ ((A.l.length : Nat) : Int)) : Calls Tryz.prog 190 #[.slice A.a_l A.l.length A.κ_l, A.p.val] w fun e w' => e = .returned (.int .i64 6) ∧ Chg (fun _ => False) w w' :=
 by have ⟨H2, h6, h7⟩ := H8; have ⟨H_l, h0, h1, h2, h3, h4, h5⟩ := H2; exact leafS (E := E0) (n0 := 8) (L := (pF_s8 A w (.int .i64 x2_00 :: []))) (t := (pF_t8 ++ [⟨tagB .geq, [.sym 15, .int .i64 0], .bool true⟩])) (c := pF_c8) (p := [⟨202, 2, lpG pF_L2_H pF_L2_R [] pF_L2_X0 .ret⟩]) 60 60 ok0 (qsA (pF_q8 A w H8 _) (qsC (q_t .geq rfl rfl rfl (show 0 ≤ x2_00 by omega)) qsN)) (pF_d8 A w H8 _) cmN (by exact loopS (E := E0) (r := pF_L2_R) (L0 := (pF_L2_P A w 0)) (Lo := (pF_s8 A w (.int .i64 x2_00 :: []))) rfl rfl (by kernel_rfl) rfl ⟨rfl, trivial⟩ rfl (by obtain ⟨o, g1, g2⟩ := pF_L2_ok A w ⟨⟨H_l, h0, h1, h2, h3, h4, h5⟩, h6, h7⟩ (((((A.l.length : Nat) : Int) - 0) : Int).toNat + 1) 0 (by first | trivial | omega | (simp only [List.length_append, List.length_cons, List.length_nil, List.length_set]; omega)) (by first | omega | (simp only [List.length_append, List.length_cons, List.length_nil, List.length_set]; omega)); rw [h8] at g1; cases g1; rcases g2 with ⟨ge, -, gg⟩ | ⟨ge, -, gg⟩; exact gg; exact absurd (show (0 : Nat) = 1 from ge) (by decide))) rfl (vs := [.sym 1, .agg [.sym 2, .sym 3, .sym 4, .sym 5, .sym 6, .sym 7, .sym 8, .sym 9, .sym 10, .sym 11, .sym 12]]) (v := .int .i64 6) rfl rfl (by kernel_rfl) rfl
def pF_h10  (A : pF_A) (w : World) (x2_00 : Int) : Prop := pF_h8 A w ∧ (pF_L2 A w (((((A.l.length : Nat) : Int) - 0) : Int).toNat + 1) 0 = some (1, x2_00, ())) ∧ True
def pF_s10  (A : pF_A) (w : World) (x2_00 : Int) (R : List Value) : List Value := (pF_s8 A w (.int .i64 (A.p.of.number - 1) :: .pointer (some ⟨A.b_l, A.o_l + ((A.p.of.number - 1) : Int).toNat * 11, none⟩) :: poV (at_ A.l (A.p.of.number - 1)) ++ R))
def pF_t10 : List QE := (pF_t8 ++ [⟨tagB .sub, [.sym 9, .int .i64 1], .sym 15⟩, ⟨2000000000 + 38, [.sym 1, .sym 15], .sym 16⟩, ⟨8000000000 + 25, [.sym 16], .agg [.sym 17, .sym 18, .sym 19, .sym 20, .sym 21, .sym 22, .sym 23, .sym 24, .sym 25, .sym 26, .sym 27]⟩])
theorem pF_q10  (A : pF_A) (w : World) (x2_00 : Int) (H10 : pF_h10 A w x2_00) (R : List Value) : QsOK (Gw 8 (syL (pF_s10 A w x2_00 R)) w) Tryz.prog pF_t10 := by have ⟨H8, h8, h9⟩ := H10; have ⟨H2, h6, h7⟩ := H8; have ⟨H_l, h0, h1, h2, h3, h4, h5⟩ := H2; exact (qsA (pF_q8 A w H8 _) (qsC (q_subI rfl rfl rfl (show -9223372036854775808 ≤ (A.p.of.number - 1) ∧ (A.p.of.number - 1) ≤ 9223372036854775807 by omega)) (qsC (q_idxO (C := poC) H_l (sz := 11) (m := (A.p.of.number - 1)) rfl rfl rfl ⟨by omega, by rw [(rfl : ((A.l.length : Nat) : Int) = _)]; omega⟩ (by have := (rfl : ((A.l.length : Nat) : Int) = _); omega) rfl (by kernel_rfl)) (qsC (q_rowO (C := poC) H_l (i := (A.p.of.number - 1)) ⟨by omega, by rw [(rfl : ((A.l.length : Nat) : Int) = _)]; omega⟩ rfl rfl rfl rfl (by kernel_rfl)) qsN))))
def pF_c10 : List QE := pF_c8
theorem pF_d10  (A : pF_A) (w : World) (x2_00 : Int) (H10 : pF_h10 A w x2_00) (R : List Value) : CsOK (Gw 8 (syL (pF_s10 A w x2_00 R)) w) Tryz.prog pF_c10 := by have ⟨H8, h8, h9⟩ := H10; have ⟨H2, h6, h7⟩ := H8; have ⟨H_l, h0, h1, h2, h3, h4, h5⟩ := H2; exact (pF_d8 A w H8 _)
noncomputable def pF_l10 : List LE := [⟨202, 2, lpG pF_L2_H pF_L2_R [] pF_L2_X1 (.exit 0)⟩]
theorem pF_r10  (A : pF_A) (w : World) (x2_00 : Int) (H10 : pF_h10 A w x2_00) (R : List Value) : LpsA E0 8 (pF_s10 A w x2_00 R) w pF_l10 := by have ⟨H8, h8, h9⟩ := H10; have ⟨H2, h6, h7⟩ := H8; have ⟨H_l, h0, h1, h2, h3, h4, h5⟩ := H2; exact (by exact loopS (E := E0) (r := pF_L2_R) (L0 := (pF_L2_P A w 0)) (Lo := (pF_s8 A w [])) rfl rfl (by kernel_rfl) rfl ⟨rfl, trivial⟩ rfl (by obtain ⟨o, g1, g2⟩ := pF_L2_ok A w ⟨⟨H_l, h0, h1, h2, h3, h4, h5⟩, h6, h7⟩ (((((A.l.length : Nat) : Int) - 0) : Int).toNat + 1) 0 (by first | trivial | omega | (simp only [List.length_append, List.length_cons, List.length_nil, List.length_set]; omega)) (by first | omega | (simp only [List.length_append, List.length_cons, List.length_nil, List.length_set]; omega)); rw [h8] at g1; cases g1; rcases g2 with ⟨ge, -, gg⟩ | ⟨ge, -, gg⟩; exact absurd (show (1 : Nat) = 0 from ge) (by decide); exact gg))
theorem pF_12  (A : pF_A) (w : World) (x2_00 : Int) (H10 : pF_h10 A w x2_00) (h10 : (at_ A.l (A.p.of.number - 1)).kind = 1 ∨ (at_ A.l (A.p.of.number - 1)).kind = 2) (h11 : (at_ A.l (A.p.of.number - 1)).owner = A.p.owner) : Calls Tryz.prog 190 #[.slice A.a_l A.l.length A.κ_l, A.p.val] w fun e w' => e = .returned (.int .i64 0) ∧ Chg (fun _ => False) w w' :=
 by have ⟨H8, h8, h9⟩ := H10; have ⟨H2, h6, h7⟩ := H8; have ⟨H_l, h0, h1, h2, h3, h4, h5⟩ := H2; exact leafS (E := E0) (n0 := 8) (L := (pF_s10 A w x2_00 [])) (t := (pF_t10 ++ [⟨tagB .neq, [.sym 22, .sym 7], .bool false⟩])) (c := (pF_c10 ++ [⟨112, [.tup [.agg [.sym 17, .sym 18, .sym 19, .sym 20, .sym 21, .sym 22, .sym 23, .sym 24, .sym 25, .sym 26, .sym 27]], .tup []], (.bool true)⟩])) (p := pF_l10) 60 60 ok0 (qsA (pF_q10 A w x2_00 H10 _) (qsC (q_f .neq rfl rfl rfl (fun h => h h11)) qsN)) (csA (pF_d10 A w x2_00 H10 _) (csC (q_callT (.val _ _ _ _ _ rfl .nil) rfl rfl rfl (fun w xs hw hq => by obtain ⟨_, rfl, rfl⟩ := hq; have hb := decide_eq_true h10; rw [← hb]; exact pCharge_n _ _)) csN)) cmN (pF_r10 A w x2_00 H10 _) rfl (vs := [.sym 1, .agg [.sym 2, .sym 3, .sym 4, .sym 5, .sym 6, .sym 7, .sym 8, .sym 9, .sym 10, .sym 11, .sym 12]]) (v := .int .i64 0) rfl rfl (by kernel_rfl) rfl
theorem pF_13  (A : pF_A) (w : World) (x2_00 : Int) (H10 : pF_h10 A w x2_00) (h10 : (at_ A.l (A.p.of.number - 1)).kind = 1 ∨ (at_ A.l (A.p.of.number - 1)).kind = 2) (h11 : ¬ ((at_ A.l (A.p.of.number - 1)).owner = A.p.owner)) : Calls Tryz.prog 190 #[.slice A.a_l A.l.length A.κ_l, A.p.val] w fun e w' => e = .returned (.int .i64 5) ∧ Chg (fun _ => False) w w' :=
 by have ⟨H8, h8, h9⟩ := H10; have ⟨H2, h6, h7⟩ := H8; have ⟨H_l, h0, h1, h2, h3, h4, h5⟩ := H2; exact leafS (E := E0) (n0 := 8) (L := (pF_s10 A w x2_00 [])) (t := (pF_t10 ++ [⟨tagB .neq, [.sym 22, .sym 7], .bool true⟩])) (c := (pF_c10 ++ [⟨112, [.tup [.agg [.sym 17, .sym 18, .sym 19, .sym 20, .sym 21, .sym 22, .sym 23, .sym 24, .sym 25, .sym 26, .sym 27]], .tup []], (.bool true)⟩])) (p := pF_l10) 60 60 ok0 (qsA (pF_q10 A w x2_00 H10 _) (qsC (q_t .neq rfl rfl rfl h11) qsN)) (csA (pF_d10 A w x2_00 H10 _) (csC (q_callT (.val _ _ _ _ _ rfl .nil) rfl rfl rfl (fun w xs hw hq => by obtain ⟨_, rfl, rfl⟩ := hq; have hb := decide_eq_true h10; rw [← hb]; exact pCharge_n _ _)) csN)) cmN (pF_r10 A w x2_00 H10 _) rfl (vs := [.sym 1, .agg [.sym 2, .sym 3, .sym 4, .sym 5, .sym 6, .sym 7, .sym 8, .sym 9, .sym 10, .sym 11, .sym 12]]) (v := .int .i64 5) rfl rfl (by kernel_rfl) rfl
theorem pF_14  (A : pF_A) (w : World) (x2_00 : Int) (H10 : pF_h10 A w x2_00) (h10 : ¬ ((at_ A.l (A.p.of.number - 1)).kind = 1 ∨ (at_ A.l (A.p.of.number - 1)).kind = 2)) : Calls Tryz.prog 190 #[.slice A.a_l A.l.length A.κ_l, A.p.val] w fun e w' => e = .returned (.int .i64 5) ∧ Chg (fun _ => False) w w' :=
 by have ⟨H8, h8, h9⟩ := H10; have ⟨H2, h6, h7⟩ := H8; have ⟨H_l, h0, h1, h2, h3, h4, h5⟩ := H2; exact leafS (E := E0) (n0 := 8) (L := (pF_s10 A w x2_00 [])) (t := pF_t10) (c := (pF_c10 ++ [⟨112, [.tup [.agg [.sym 17, .sym 18, .sym 19, .sym 20, .sym 21, .sym 22, .sym 23, .sym 24, .sym 25, .sym 26, .sym 27]], .tup []], (.bool false)⟩])) (p := pF_l10) 60 60 ok0 (pF_q10 A w x2_00 H10 _) (csA (pF_d10 A w x2_00 H10 _) (csC (q_callT (.val _ _ _ _ _ rfl .nil) rfl rfl rfl (fun w xs hw hq => by obtain ⟨_, rfl, rfl⟩ := hq; have hb := decide_eq_false h10; rw [← hb]; exact pCharge_n _ _)) csN)) cmN (pF_r10 A w x2_00 H10 _) rfl (vs := [.sym 1, .agg [.sym 2, .sym 3, .sym 4, .sym 5, .sym 6, .sym 7, .sym 8, .sym 9, .sym 10, .sym 11, .sym 12]]) (v := .int .i64 5) rfl rfl (by kernel_rfl) rfl
theorem pF_15  (A : pF_A) (w : World) (H_l : LstAt poC w A.a_l A.b_l A.o_l A.l) (h0 : ((A.l.length : Nat) : Int) ≤ ((A.κ_l : Nat) : Int)) (h1 : ((A.l.length : Nat) : Int) ≤ 1000) (h2 : (A.p.kind = 4 ∨ A.p.kind = 5) → 1 ≤ A.p.of.number ∧ A.p.of.number < A.p.number) (h3 : 1 ≤ A.p.kind ∧ A.p.kind ≤ 5) (h4 : ¬ (A.p.number = (((A.l.length : Nat) : Int) + 1))) : Calls Tryz.prog 190 #[.slice A.a_l A.l.length A.κ_l, A.p.val] w fun e w' => e = .returned (.int .i64 8) ∧ Chg (fun _ => False) w w' :=
 leafS (E := E0) (n0 := 8) (L := (.agg #[] :: .slice A.a_l A.l.length A.κ_l :: poV A.p ++ .int .i64 ((A.l.length : Nat) : Int) :: .int .i64 ((((A.l.length : Nat) : Int) + 1)) :: [])) (t := [⟨6000000000 + 38, [.sym 1], .sym 13⟩, ⟨tagB .add, [.sym 13, .int .i64 1], .sym 14⟩, ⟨tagB .neq, [.sym 3, .sym 14], .bool true⟩]) 60 60 ok0 (qsC (q_lenB rfl rfl rfl (by kernel_rfl)) (qsC (q_addI rfl rfl rfl (show -9223372036854775808 ≤ (((A.l.length : Nat) : Int) + 1) ∧ (((A.l.length : Nat) : Int) + 1) ≤ 9223372036854775807 by omega)) (qsC (q_t .neq rfl rfl rfl h4) qsN))) csN cmN lpN rfl (vs := [.sym 1, .agg [.sym 2, .sym 3, .sym 4, .sym 5, .sym 6, .sym 7, .sym 8, .sym 9, .sym 10, .sym 11, .sym 12]]) (v := .int .i64 8) rfl rfl (by kernel_rfl) rfl
def pF_r  (A : pF_A) (w : World) : Int := (if A.p.number = (((A.l.length : Nat) : Int) + 1) then (if (A.p).kind = 1 ∨ (A.p).kind = 2 then (match pF_L0 A w (((((A.l.length : Nat) : Int) - 0) : Int).toNat + 1) 0 with | some (0, x0_00, _) => 6 | some (1, x0_00, _) => 0 | _ => default) else (if A.p.kind = 3 then 0 else (if A.p.by_.reeve = 0 then (if A.p.by_.number = 0 then (if (at_ A.l (A.p.of.number - 1)).kind = 1 ∨ (at_ A.l (A.p.of.number - 1)).kind = 2 then (if (at_ A.l (A.p.of.number - 1)).owner = A.p.owner then (if (owedN A.l (at_ A.l (A.p.of.number - 1))) < A.p.amount then 8 else 0) else 5) else 5) else (match pF_L1 A w (((((A.l.length : Nat) : Int) - 0) : Int).toNat + 1) 0 with | some (0, x1_00, _) => 6 | some (1, x1_00, _) => (if (at_ A.l (A.p.of.number - 1)).kind = 1 ∨ (at_ A.l (A.p.of.number - 1)).kind = 2 then (if (at_ A.l (A.p.of.number - 1)).owner = A.p.owner then 0 else 5) else 5) | _ => default)) else (match pF_L2 A w (((((A.l.length : Nat) : Int) - 0) : Int).toNat + 1) 0 with | some (0, x2_00, _) => 6 | some (1, x2_00, _) => (if (at_ A.l (A.p.of.number - 1)).kind = 1 ∨ (at_ A.l (A.p.of.number - 1)).kind = 2 then (if (at_ A.l (A.p.of.number - 1)).owner = A.p.owner then 0 else 5) else 5) | _ => default)))) else 8)
theorem pF_any  (A : pF_A) (w : World) (H_l : LstAt poC w A.a_l A.b_l A.o_l A.l) (h0 : ((A.l.length : Nat) : Int) ≤ ((A.κ_l : Nat) : Int)) (h1 : ((A.l.length : Nat) : Int) ≤ 1000) (h2 : (A.p.kind = 4 ∨ A.p.kind = 5) → 1 ≤ A.p.of.number ∧ A.p.of.number < A.p.number) (h3 : 1 ≤ A.p.kind ∧ A.p.kind ≤ 5) : Calls Tryz.prog 190 #[.slice A.a_l A.l.length A.κ_l, A.p.val] w fun e w' => e = .returned (.int .i64 (pF_r A w)) ∧ Chg (fun _ => False) w w' := by
 unfold pF_r
 by_cases h4 : A.p.number = (((A.l.length : Nat) : Int) + 1)
 ·simp only [if_pos h4]
  by_cases h5 : (A.p).kind = 1 ∨ (A.p).kind = 2
  ·simp only [if_pos h5]
   obtain ⟨⟨q6, x0_00, _⟩, h6, hk6⟩ := pF_L0_ok A w ⟨H_l, h0, h1, h2, h3, h4, h5⟩ (((((A.l.length : Nat) : Int) - 0) : Int).toNat + 1) 0 (by first | trivial | omega | (simp only [List.length_append, List.length_cons, List.length_nil, List.length_set]; omega)) (by first | omega | (simp only [List.length_append, List.length_cons, List.length_nil, List.length_set]; omega))
   simp only [h6]
   rcases hk6 with ⟨he6, h7, -⟩ | ⟨he6, h7, -⟩
   ·have he6 : q6 = 0 := he6
    subst he6
    exact pF_0 A w x0_00 ⟨H_l, h0, h1, h2, h3, h4, h5⟩ h6 h7
   ·have he6 : q6 = 1 := he6
    subst he6
    exact pF_1 A w x0_00 ⟨H_l, h0, h1, h2, h3, h4, h5⟩ h6 h7
  ·simp only [if_neg h5]
   by_cases h6 : A.p.kind = 3
   ·simp only [if_pos h6]
    exact pF_2 A w ⟨H_l, h0, h1, h2, h3, h4, h5⟩ h6
   ·simp only [if_neg h6]
    by_cases h7 : A.p.by_.reeve = 0
    ·simp only [if_pos h7]
     by_cases h8 : A.p.by_.number = 0
     ·simp only [if_pos h8]
      by_cases h9 : (at_ A.l (A.p.of.number - 1)).kind = 1 ∨ (at_ A.l (A.p.of.number - 1)).kind = 2
      ·simp only [if_pos h9]
       by_cases h10 : (at_ A.l (A.p.of.number - 1)).owner = A.p.owner
       ·simp only [if_pos h10]
        have h11 : 0 ≤ owedN A.l (at_ A.l (A.p.of.number - 1)) := owedN_nn _ _
        by_cases h12 : (owedN A.l (at_ A.l (A.p.of.number - 1))) < A.p.amount
        ·simp only [if_pos h12]
         exact pF_3 A w ⟨⟨⟨H_l, h0, h1, h2, h3, h4, h5⟩, h6, h7, h8⟩, h9, h10, h11⟩ h12
        ·simp only [if_neg h12]
         exact pF_4 A w ⟨⟨⟨H_l, h0, h1, h2, h3, h4, h5⟩, h6, h7, h8⟩, h9, h10, h11⟩ h12
       ·simp only [if_neg h10]
        exact pF_5 A w ⟨⟨H_l, h0, h1, h2, h3, h4, h5⟩, h6, h7, h8⟩ h9 h10
      ·simp only [if_neg h9]
       exact pF_6 A w ⟨⟨H_l, h0, h1, h2, h3, h4, h5⟩, h6, h7, h8⟩ h9
     ·simp only [if_neg h8]
      obtain ⟨⟨q9, x1_00, _⟩, h9, hk9⟩ := pF_L1_ok A w ⟨⟨H_l, h0, h1, h2, h3, h4, h5⟩, h6, h7, h8⟩ (((((A.l.length : Nat) : Int) - 0) : Int).toNat + 1) 0 (by first | trivial | omega | (simp only [List.length_append, List.length_cons, List.length_nil, List.length_set]; omega)) (by first | omega | (simp only [List.length_append, List.length_cons, List.length_nil, List.length_set]; omega))
      simp only [h9]
      rcases hk9 with ⟨he9, h10, -⟩ | ⟨he9, h10, -⟩
      ·have he9 : q9 = 0 := he9
       subst he9
       exact pF_7 A w x1_00 ⟨⟨H_l, h0, h1, h2, h3, h4, h5⟩, h6, h7, h8⟩ h9 h10
      ·have he9 : q9 = 1 := he9
       subst he9
       by_cases h11 : (at_ A.l (A.p.of.number - 1)).kind = 1 ∨ (at_ A.l (A.p.of.number - 1)).kind = 2
       ·simp only [if_pos h11]
        by_cases h12 : (at_ A.l (A.p.of.number - 1)).owner = A.p.owner
        ·simp only [if_pos h12]
         exact pF_8 A w x1_00 ⟨⟨⟨H_l, h0, h1, h2, h3, h4, h5⟩, h6, h7, h8⟩, h9, h10⟩ h11 h12
        ·simp only [if_neg h12]
         exact pF_9 A w x1_00 ⟨⟨⟨H_l, h0, h1, h2, h3, h4, h5⟩, h6, h7, h8⟩, h9, h10⟩ h11 h12
       ·simp only [if_neg h11]
        exact pF_10 A w x1_00 ⟨⟨⟨H_l, h0, h1, h2, h3, h4, h5⟩, h6, h7, h8⟩, h9, h10⟩ h11
    ·simp only [if_neg h7]
     obtain ⟨⟨q8, x2_00, _⟩, h8, hk8⟩ := pF_L2_ok A w ⟨⟨H_l, h0, h1, h2, h3, h4, h5⟩, h6, h7⟩ (((((A.l.length : Nat) : Int) - 0) : Int).toNat + 1) 0 (by first | trivial | omega | (simp only [List.length_append, List.length_cons, List.length_nil, List.length_set]; omega)) (by first | omega | (simp only [List.length_append, List.length_cons, List.length_nil, List.length_set]; omega))
     simp only [h8]
     rcases hk8 with ⟨he8, h9, -⟩ | ⟨he8, h9, -⟩
     ·have he8 : q8 = 0 := he8
      subst he8
      exact pF_11 A w x2_00 ⟨⟨H_l, h0, h1, h2, h3, h4, h5⟩, h6, h7⟩ h8 h9
     ·have he8 : q8 = 1 := he8
      subst he8
      by_cases h10 : (at_ A.l (A.p.of.number - 1)).kind = 1 ∨ (at_ A.l (A.p.of.number - 1)).kind = 2
      ·simp only [if_pos h10]
       by_cases h11 : (at_ A.l (A.p.of.number - 1)).owner = A.p.owner
       ·simp only [if_pos h11]
        exact pF_12 A w x2_00 ⟨⟨⟨H_l, h0, h1, h2, h3, h4, h5⟩, h6, h7⟩, h8, h9⟩ h10 h11
       ·simp only [if_neg h11]
        exact pF_13 A w x2_00 ⟨⟨⟨H_l, h0, h1, h2, h3, h4, h5⟩, h6, h7⟩, h8, h9⟩ h10 h11
      ·simp only [if_neg h10]
       exact pF_14 A w x2_00 ⟨⟨⟨H_l, h0, h1, h2, h3, h4, h5⟩, h6, h7⟩, h8, h9⟩ h10
 ·simp only [if_neg h4]
  exact pF_15 A w H_l h0 h1 h2 h3 h4
theorem pF_L0_n (A : pF_A) (w : World) : ∀ (n : Nat) (i : Int), (0 ≤ i ∧ i ≤ (A.l.length : Int)) → (A.l.length : Int) - i < n → ∃ k, pF_L0 A w n i = if (A.l.drop i.toNat).any (twiceC A.p) = true then some (0, k, ()) else some (1, default, ()) := by
 intro n
 induction n with
 | zero => intros; omega
 | succ n ih =>
  intro i h0 hm
  rw [pF_L0]
  by_cases hi : i < (A.l.length : Int)
  ·obtain ⟨k, e⟩ := ih (i + 1) (by omega) (by omega)
   rw [if_pos hi, drop_at ⟨h0.1, hi⟩, List.any_cons]
   by_cases hp : twiceC A.p (at_ A.l i) = true
   ·refine ⟨i, ?_⟩
    simp only [hp, Bool.true_or, if_true]
    simp only [twiceC, decide_eq_true_eq] at hp
    simp only [hp, if_true, true_and, and_self]
   ·refine ⟨k, ?_⟩
    simp only [e]
    simp only [Bool.not_eq_true] at hp
    simp only [hp, Bool.false_or]
    simp only [twiceC, decide_eq_false_iff_not] at hp
    repeat' split
    all_goals first | rfl | (exfalso; simp_all; done)
  ·exact ⟨0, by rw [if_neg hi, drop_end hi]; rfl⟩
theorem pF_L1_n (A : pF_A) (w : World) : ∀ (n : Nat) (i : Int), (0 ≤ i ∧ i ≤ (A.l.length : Int)) → (A.l.length : Int) - i < n → ∃ k, pF_L1 A w n i = if (A.l.drop i.toNat).any (twiceB A.p) = true then some (0, k, ()) else some (1, default, ()) := by
 intro n
 induction n with
 | zero => intros; omega
 | succ n ih =>
  intro i h0 hm
  rw [pF_L1]
  by_cases hi : i < (A.l.length : Int)
  ·obtain ⟨k, e⟩ := ih (i + 1) (by omega) (by omega)
   rw [if_pos hi, drop_at ⟨h0.1, hi⟩, List.any_cons]
   by_cases hp : twiceB A.p (at_ A.l i) = true
   ·refine ⟨i, ?_⟩
    simp only [hp, Bool.true_or, if_true]
    simp only [twiceB, decide_eq_true_eq] at hp
    simp only [hp, if_true, true_and, and_self]
   ·refine ⟨k, ?_⟩
    simp only [e]
    simp only [Bool.not_eq_true] at hp
    simp only [hp, Bool.false_or]
    simp only [twiceB, decide_eq_false_iff_not] at hp
    repeat' split
    all_goals first | rfl | (exfalso; simp_all; done)
  ·exact ⟨0, by rw [if_neg hi, drop_end hi]; rfl⟩
theorem pF_L2_n (A : pF_A) (w : World) : ∀ (n : Nat) (i : Int), (0 ≤ i ∧ i ≤ (A.l.length : Int)) → (A.l.length : Int) - i < n → ∃ k, pF_L2 A w n i = if (A.l.drop i.toNat).any (twiceB A.p) = true then some (0, k, ()) else some (1, default, ()) := by
 intro n
 induction n with
 | zero => intros; omega
 | succ n ih =>
  intro i h0 hm
  rw [pF_L2]
  by_cases hi : i < (A.l.length : Int)
  ·obtain ⟨k, e⟩ := ih (i + 1) (by omega) (by omega)
   rw [if_pos hi, drop_at ⟨h0.1, hi⟩, List.any_cons]
   by_cases hp : twiceB A.p (at_ A.l i) = true
   ·refine ⟨i, ?_⟩
    simp only [hp, Bool.true_or, if_true]
    simp only [twiceB, decide_eq_true_eq] at hp
    simp only [hp, if_true, true_and, and_self]
   ·refine ⟨k, ?_⟩
    simp only [e]
    simp only [Bool.not_eq_true] at hp
    simp only [hp, Bool.false_or]
    simp only [twiceB, decide_eq_false_iff_not] at hp
    repeat' split
    all_goals first | rfl | (exfalso; simp_all; done)
  ·exact ⟨0, by rw [if_neg hi, drop_end hi]; rfl⟩
theorem pFollows_r_n (A : pF_A) (w : World) : pF_r A w = followsN A.l A.p := by
 obtain ⟨k0, e0⟩ := pF_L0_n A w (((((A.l.length : Nat) : Int) - 0) : Int).toNat + 1) 0 (by omega) (by omega)
 obtain ⟨k1, e1⟩ := pF_L1_n A w (((((A.l.length : Nat) : Int) - 0) : Int).toNat + 1) 0 (by omega) (by omega)
 obtain ⟨k2, e2⟩ := pF_L2_n A w (((((A.l.length : Nat) : Int) - 0) : Int).toNat + 1) 0 (by omega) (by omega)
 have hd : A.l.drop (0 : Int).toNat = A.l := rfl
 rw [hd] at e0 e1 e2
 unfold pF_r followsN isCh
 rw [e0, e1, e2]
 by_cases a1 : A.l.any (twiceC A.p) = true <;> by_cases a2 : A.l.any (twiceB A.p) = true <;> simp only [a1, a2, if_true, if_false, Bool.false_eq_true]
 all_goals
  repeat' split
  all_goals first | rfl | (exfalso; simp_all; done) | (exfalso; simp_all; omega)
theorem pFollows_n {a_l : Option Addr} {b_l o_l κ_l : Nat} {l : List Po} {w : World} (H : LstAt poC w a_l b_l o_l l) (h0 : l.length ≤ κ_l) (h1 : ((l.length : Nat) : Int) ≤ 1000) {p : Po} (h2 : (p.kind = 4 ∨ p.kind = 5) → 1 ≤ p.of.number ∧ p.of.number < p.number) (h3 : 1 ≤ p.kind ∧ p.kind ≤ 5) : Calls Tryz.prog 190 #[.slice a_l l.length κ_l, p.val] w fun e w' => e = .returned (.int .i64 (followsN l p)) ∧ Chg (fun _ => False) w w' := by
 have := pF_any ⟨a_l, b_l, o_l, κ_l, l, p⟩ w H (by show ((l.length : Nat) : Int) ≤ ((κ_l : Nat) : Int); omega) h1 h2 h3
 rw [pFollows_r_n] at this
 exact this
end Go.Proofs.YtocabeobfbhajaaGreatDoor.Sx
end
section
set_option linter.unusedVariables false
set_option linter.unusedSimpArgs false
set_option maxRecDepth 100000
set_option maxHeartbeats 0
namespace Go.Proofs.YtocabeobfbhajaaGreatDoor.Sx
open Go Go.Proofs Go.Proofs.YtocabeobfbhajaaGreatDoor Go.Proofs.YtocabeobfbhajaaGreatDoor.Sx
structure pY_A where
 x : Rf
 y : Rf
theorem pY_0  (A : pY_A) (w : World) (h0 : A.x.reeve < A.y.reeve) (h1 : A.x.number < A.y.number) : Calls Tryz.prog 187 #[A.x.val, A.y.val] w fun e w' => e = .returned (.int .i64 (-1)) ∧ Chg (fun _ => False) w w' :=
 leafS (E := E0) (n0 := 8) (L := (.agg #[] :: .int .i64 A.x.reeve :: .int .i64 A.x.number :: .int .i64 A.y.reeve :: .int .i64 A.y.number :: [])) (t := [⟨tagB .neq, [.sym 1, .sym 1], .bool false⟩, ⟨tagB .neq, [.sym 3, .sym 3], .bool false⟩, ⟨tagB .lss, [.sym 1, .sym 3], .bool true⟩, ⟨tagB .neq, [.sym 2, .sym 2], .bool false⟩, ⟨tagB .neq, [.sym 4, .sym 4], .bool false⟩, ⟨tagB .lss, [.sym 2, .sym 4], .bool true⟩]) 60 60 ok0 (qsC (q_f .neq rfl rfl rfl (fun h => h (show A.x.reeve = A.x.reeve by omega))) (qsC (q_f .neq rfl rfl rfl (fun h => h (show A.y.reeve = A.y.reeve by omega))) (qsC (q_t .lss rfl rfl rfl h0) (qsC (q_f .neq rfl rfl rfl (fun h => h (show A.x.number = A.x.number by omega))) (qsC (q_f .neq rfl rfl rfl (fun h => h (show A.y.number = A.y.number by omega))) (qsC (q_t .lss rfl rfl rfl h1) qsN)))))) csN cmN lpN rfl (vs := [.agg [.sym 1, .sym 2], .agg [.sym 3, .sym 4]]) (v := .int .i64 (-1)) rfl rfl (by kernel_rfl) rfl
theorem pY_1  (A : pY_A) (w : World) (h0 : A.x.reeve < A.y.reeve) (h1 : ¬ (A.x.number < A.y.number)) (h2 : A.y.number < A.x.number) : Calls Tryz.prog 187 #[A.x.val, A.y.val] w fun e w' => e = .returned (.int .i64 (-1)) ∧ Chg (fun _ => False) w w' :=
 leafS (E := E0) (n0 := 8) (L := (.agg #[] :: .int .i64 A.x.reeve :: .int .i64 A.x.number :: .int .i64 A.y.reeve :: .int .i64 A.y.number :: [])) (t := [⟨tagB .neq, [.sym 1, .sym 1], .bool false⟩, ⟨tagB .neq, [.sym 3, .sym 3], .bool false⟩, ⟨tagB .lss, [.sym 1, .sym 3], .bool true⟩, ⟨tagB .neq, [.sym 2, .sym 2], .bool false⟩, ⟨tagB .neq, [.sym 4, .sym 4], .bool false⟩, ⟨tagB .lss, [.sym 2, .sym 4], .bool false⟩, ⟨tagB .gtr, [.sym 2, .sym 4], .bool true⟩]) 60 60 ok0 (qsC (q_f .neq rfl rfl rfl (fun h => h (show A.x.reeve = A.x.reeve by omega))) (qsC (q_f .neq rfl rfl rfl (fun h => h (show A.y.reeve = A.y.reeve by omega))) (qsC (q_t .lss rfl rfl rfl h0) (qsC (q_f .neq rfl rfl rfl (fun h => h (show A.x.number = A.x.number by omega))) (qsC (q_f .neq rfl rfl rfl (fun h => h (show A.y.number = A.y.number by omega))) (qsC (q_f .lss rfl rfl rfl h1) (qsC (q_t .gtr rfl rfl rfl h2) qsN))))))) csN cmN lpN rfl (vs := [.agg [.sym 1, .sym 2], .agg [.sym 3, .sym 4]]) (v := .int .i64 (-1)) rfl rfl (by kernel_rfl) rfl
theorem pY_2  (A : pY_A) (w : World) (h0 : A.x.reeve < A.y.reeve) (h1 : ¬ (A.x.number < A.y.number)) (h2 : ¬ (A.y.number < A.x.number)) : Calls Tryz.prog 187 #[A.x.val, A.y.val] w fun e w' => e = .returned (.int .i64 (-1)) ∧ Chg (fun _ => False) w w' :=
 leafS (E := E0) (n0 := 8) (L := (.agg #[] :: .int .i64 A.x.reeve :: .int .i64 A.x.number :: .int .i64 A.y.reeve :: .int .i64 A.y.number :: [])) (t := [⟨tagB .neq, [.sym 1, .sym 1], .bool false⟩, ⟨tagB .neq, [.sym 3, .sym 3], .bool false⟩, ⟨tagB .lss, [.sym 1, .sym 3], .bool true⟩, ⟨tagB .neq, [.sym 2, .sym 2], .bool false⟩, ⟨tagB .neq, [.sym 4, .sym 4], .bool false⟩, ⟨tagB .lss, [.sym 2, .sym 4], .bool false⟩, ⟨tagB .gtr, [.sym 2, .sym 4], .bool false⟩]) 60 60 ok0 (qsC (q_f .neq rfl rfl rfl (fun h => h (show A.x.reeve = A.x.reeve by omega))) (qsC (q_f .neq rfl rfl rfl (fun h => h (show A.y.reeve = A.y.reeve by omega))) (qsC (q_t .lss rfl rfl rfl h0) (qsC (q_f .neq rfl rfl rfl (fun h => h (show A.x.number = A.x.number by omega))) (qsC (q_f .neq rfl rfl rfl (fun h => h (show A.y.number = A.y.number by omega))) (qsC (q_f .lss rfl rfl rfl h1) (qsC (q_f .gtr rfl rfl rfl h2) qsN))))))) csN cmN lpN rfl (vs := [.agg [.sym 1, .sym 2], .agg [.sym 3, .sym 4]]) (v := .int .i64 (-1)) rfl rfl (by kernel_rfl) rfl
theorem pY_3  (A : pY_A) (w : World) (h0 : ¬ (A.x.reeve < A.y.reeve)) (h1 : A.y.reeve < A.x.reeve) (h2 : A.x.number < A.y.number) : Calls Tryz.prog 187 #[A.x.val, A.y.val] w fun e w' => e = .returned (.int .i64 1) ∧ Chg (fun _ => False) w w' :=
 leafS (E := E0) (n0 := 8) (L := (.agg #[] :: .int .i64 A.x.reeve :: .int .i64 A.x.number :: .int .i64 A.y.reeve :: .int .i64 A.y.number :: [])) (t := [⟨tagB .neq, [.sym 1, .sym 1], .bool false⟩, ⟨tagB .neq, [.sym 3, .sym 3], .bool false⟩, ⟨tagB .lss, [.sym 1, .sym 3], .bool false⟩, ⟨tagB .gtr, [.sym 1, .sym 3], .bool true⟩, ⟨tagB .neq, [.sym 2, .sym 2], .bool false⟩, ⟨tagB .neq, [.sym 4, .sym 4], .bool false⟩, ⟨tagB .lss, [.sym 2, .sym 4], .bool true⟩]) 60 60 ok0 (qsC (q_f .neq rfl rfl rfl (fun h => h (show A.x.reeve = A.x.reeve by omega))) (qsC (q_f .neq rfl rfl rfl (fun h => h (show A.y.reeve = A.y.reeve by omega))) (qsC (q_f .lss rfl rfl rfl h0) (qsC (q_t .gtr rfl rfl rfl h1) (qsC (q_f .neq rfl rfl rfl (fun h => h (show A.x.number = A.x.number by omega))) (qsC (q_f .neq rfl rfl rfl (fun h => h (show A.y.number = A.y.number by omega))) (qsC (q_t .lss rfl rfl rfl h2) qsN))))))) csN cmN lpN rfl (vs := [.agg [.sym 1, .sym 2], .agg [.sym 3, .sym 4]]) (v := .int .i64 1) rfl rfl (by kernel_rfl) rfl
theorem pY_4  (A : pY_A) (w : World) (h0 : ¬ (A.x.reeve < A.y.reeve)) (h1 : A.y.reeve < A.x.reeve) (h2 : ¬ (A.x.number < A.y.number)) (h3 : A.y.number < A.x.number) : Calls Tryz.prog 187 #[A.x.val, A.y.val] w fun e w' => e = .returned (.int .i64 1) ∧ Chg (fun _ => False) w w' :=
 leafS (E := E0) (n0 := 8) (L := (.agg #[] :: .int .i64 A.x.reeve :: .int .i64 A.x.number :: .int .i64 A.y.reeve :: .int .i64 A.y.number :: [])) (t := [⟨tagB .neq, [.sym 1, .sym 1], .bool false⟩, ⟨tagB .neq, [.sym 3, .sym 3], .bool false⟩, ⟨tagB .lss, [.sym 1, .sym 3], .bool false⟩, ⟨tagB .gtr, [.sym 1, .sym 3], .bool true⟩, ⟨tagB .neq, [.sym 2, .sym 2], .bool false⟩, ⟨tagB .neq, [.sym 4, .sym 4], .bool false⟩, ⟨tagB .lss, [.sym 2, .sym 4], .bool false⟩, ⟨tagB .gtr, [.sym 2, .sym 4], .bool true⟩]) 60 60 ok0 (qsC (q_f .neq rfl rfl rfl (fun h => h (show A.x.reeve = A.x.reeve by omega))) (qsC (q_f .neq rfl rfl rfl (fun h => h (show A.y.reeve = A.y.reeve by omega))) (qsC (q_f .lss rfl rfl rfl h0) (qsC (q_t .gtr rfl rfl rfl h1) (qsC (q_f .neq rfl rfl rfl (fun h => h (show A.x.number = A.x.number by omega))) (qsC (q_f .neq rfl rfl rfl (fun h => h (show A.y.number = A.y.number by omega))) (qsC (q_f .lss rfl rfl rfl h2) (qsC (q_t .gtr rfl rfl rfl h3) qsN)))))))) csN cmN lpN rfl (vs := [.agg [.sym 1, .sym 2], .agg [.sym 3, .sym 4]]) (v := .int .i64 1) rfl rfl (by kernel_rfl) rfl
theorem pY_5  (A : pY_A) (w : World) (h0 : ¬ (A.x.reeve < A.y.reeve)) (h1 : A.y.reeve < A.x.reeve) (h2 : ¬ (A.x.number < A.y.number)) (h3 : ¬ (A.y.number < A.x.number)) : Calls Tryz.prog 187 #[A.x.val, A.y.val] w fun e w' => e = .returned (.int .i64 1) ∧ Chg (fun _ => False) w w' :=
 leafS (E := E0) (n0 := 8) (L := (.agg #[] :: .int .i64 A.x.reeve :: .int .i64 A.x.number :: .int .i64 A.y.reeve :: .int .i64 A.y.number :: [])) (t := [⟨tagB .neq, [.sym 1, .sym 1], .bool false⟩, ⟨tagB .neq, [.sym 3, .sym 3], .bool false⟩, ⟨tagB .lss, [.sym 1, .sym 3], .bool false⟩, ⟨tagB .gtr, [.sym 1, .sym 3], .bool true⟩, ⟨tagB .neq, [.sym 2, .sym 2], .bool false⟩, ⟨tagB .neq, [.sym 4, .sym 4], .bool false⟩, ⟨tagB .lss, [.sym 2, .sym 4], .bool false⟩, ⟨tagB .gtr, [.sym 2, .sym 4], .bool false⟩]) 60 60 ok0 (qsC (q_f .neq rfl rfl rfl (fun h => h (show A.x.reeve = A.x.reeve by omega))) (qsC (q_f .neq rfl rfl rfl (fun h => h (show A.y.reeve = A.y.reeve by omega))) (qsC (q_f .lss rfl rfl rfl h0) (qsC (q_t .gtr rfl rfl rfl h1) (qsC (q_f .neq rfl rfl rfl (fun h => h (show A.x.number = A.x.number by omega))) (qsC (q_f .neq rfl rfl rfl (fun h => h (show A.y.number = A.y.number by omega))) (qsC (q_f .lss rfl rfl rfl h2) (qsC (q_f .gtr rfl rfl rfl h3) qsN)))))))) csN cmN lpN rfl (vs := [.agg [.sym 1, .sym 2], .agg [.sym 3, .sym 4]]) (v := .int .i64 1) rfl rfl (by kernel_rfl) rfl
theorem pY_6  (A : pY_A) (w : World) (h0 : ¬ (A.x.reeve < A.y.reeve)) (h1 : ¬ (A.y.reeve < A.x.reeve)) (h2 : A.x.number < A.y.number) : Calls Tryz.prog 187 #[A.x.val, A.y.val] w fun e w' => e = .returned (.int .i64 (-1)) ∧ Chg (fun _ => False) w w' :=
 leafS (E := E0) (n0 := 8) (L := (.agg #[] :: .int .i64 A.x.reeve :: .int .i64 A.x.number :: .int .i64 A.y.reeve :: .int .i64 A.y.number :: [])) (t := [⟨tagB .neq, [.sym 1, .sym 1], .bool false⟩, ⟨tagB .neq, [.sym 3, .sym 3], .bool false⟩, ⟨tagB .lss, [.sym 1, .sym 3], .bool false⟩, ⟨tagB .gtr, [.sym 1, .sym 3], .bool false⟩, ⟨tagB .neq, [.sym 2, .sym 2], .bool false⟩, ⟨tagB .neq, [.sym 4, .sym 4], .bool false⟩, ⟨tagB .lss, [.sym 2, .sym 4], .bool true⟩]) 60 60 ok0 (qsC (q_f .neq rfl rfl rfl (fun h => h (show A.x.reeve = A.x.reeve by omega))) (qsC (q_f .neq rfl rfl rfl (fun h => h (show A.y.reeve = A.y.reeve by omega))) (qsC (q_f .lss rfl rfl rfl h0) (qsC (q_f .gtr rfl rfl rfl h1) (qsC (q_f .neq rfl rfl rfl (fun h => h (show A.x.number = A.x.number by omega))) (qsC (q_f .neq rfl rfl rfl (fun h => h (show A.y.number = A.y.number by omega))) (qsC (q_t .lss rfl rfl rfl h2) qsN))))))) csN cmN lpN rfl (vs := [.agg [.sym 1, .sym 2], .agg [.sym 3, .sym 4]]) (v := .int .i64 (-1)) rfl rfl (by kernel_rfl) rfl
theorem pY_7  (A : pY_A) (w : World) (h0 : ¬ (A.x.reeve < A.y.reeve)) (h1 : ¬ (A.y.reeve < A.x.reeve)) (h2 : ¬ (A.x.number < A.y.number)) (h3 : A.y.number < A.x.number) : Calls Tryz.prog 187 #[A.x.val, A.y.val] w fun e w' => e = .returned (.int .i64 1) ∧ Chg (fun _ => False) w w' :=
 leafS (E := E0) (n0 := 8) (L := (.agg #[] :: .int .i64 A.x.reeve :: .int .i64 A.x.number :: .int .i64 A.y.reeve :: .int .i64 A.y.number :: [])) (t := [⟨tagB .neq, [.sym 1, .sym 1], .bool false⟩, ⟨tagB .neq, [.sym 3, .sym 3], .bool false⟩, ⟨tagB .lss, [.sym 1, .sym 3], .bool false⟩, ⟨tagB .gtr, [.sym 1, .sym 3], .bool false⟩, ⟨tagB .neq, [.sym 2, .sym 2], .bool false⟩, ⟨tagB .neq, [.sym 4, .sym 4], .bool false⟩, ⟨tagB .lss, [.sym 2, .sym 4], .bool false⟩, ⟨tagB .gtr, [.sym 2, .sym 4], .bool true⟩]) 60 60 ok0 (qsC (q_f .neq rfl rfl rfl (fun h => h (show A.x.reeve = A.x.reeve by omega))) (qsC (q_f .neq rfl rfl rfl (fun h => h (show A.y.reeve = A.y.reeve by omega))) (qsC (q_f .lss rfl rfl rfl h0) (qsC (q_f .gtr rfl rfl rfl h1) (qsC (q_f .neq rfl rfl rfl (fun h => h (show A.x.number = A.x.number by omega))) (qsC (q_f .neq rfl rfl rfl (fun h => h (show A.y.number = A.y.number by omega))) (qsC (q_f .lss rfl rfl rfl h2) (qsC (q_t .gtr rfl rfl rfl h3) qsN)))))))) csN cmN lpN rfl (vs := [.agg [.sym 1, .sym 2], .agg [.sym 3, .sym 4]]) (v := .int .i64 1) rfl rfl (by kernel_rfl) rfl
theorem pY_8  (A : pY_A) (w : World) (h0 : ¬ (A.x.reeve < A.y.reeve)) (h1 : ¬ (A.y.reeve < A.x.reeve)) (h2 : ¬ (A.x.number < A.y.number)) (h3 : ¬ (A.y.number < A.x.number)) : Calls Tryz.prog 187 #[A.x.val, A.y.val] w fun e w' => e = .returned (.int .i64 0) ∧ Chg (fun _ => False) w w' :=
 leafS (E := E0) (n0 := 8) (L := (.agg #[] :: .int .i64 A.x.reeve :: .int .i64 A.x.number :: .int .i64 A.y.reeve :: .int .i64 A.y.number :: [])) (t := [⟨tagB .neq, [.sym 1, .sym 1], .bool false⟩, ⟨tagB .neq, [.sym 3, .sym 3], .bool false⟩, ⟨tagB .lss, [.sym 1, .sym 3], .bool false⟩, ⟨tagB .gtr, [.sym 1, .sym 3], .bool false⟩, ⟨tagB .neq, [.sym 2, .sym 2], .bool false⟩, ⟨tagB .neq, [.sym 4, .sym 4], .bool false⟩, ⟨tagB .lss, [.sym 2, .sym 4], .bool false⟩, ⟨tagB .gtr, [.sym 2, .sym 4], .bool false⟩]) 60 60 ok0 (qsC (q_f .neq rfl rfl rfl (fun h => h (show A.x.reeve = A.x.reeve by omega))) (qsC (q_f .neq rfl rfl rfl (fun h => h (show A.y.reeve = A.y.reeve by omega))) (qsC (q_f .lss rfl rfl rfl h0) (qsC (q_f .gtr rfl rfl rfl h1) (qsC (q_f .neq rfl rfl rfl (fun h => h (show A.x.number = A.x.number by omega))) (qsC (q_f .neq rfl rfl rfl (fun h => h (show A.y.number = A.y.number by omega))) (qsC (q_f .lss rfl rfl rfl h2) (qsC (q_f .gtr rfl rfl rfl h3) qsN)))))))) csN cmN lpN rfl (vs := [.agg [.sym 1, .sym 2], .agg [.sym 3, .sym 4]]) (v := .int .i64 0) rfl rfl (by kernel_rfl) rfl
def pY_r  (A : pY_A) (w : World) : Int := (if A.x.reeve < A.y.reeve then (if A.x.number < A.y.number then (-1) else (if A.y.number < A.x.number then (-1) else (-1))) else (if A.y.reeve < A.x.reeve then (if A.x.number < A.y.number then 1 else (if A.y.number < A.x.number then 1 else 1)) else (if A.x.number < A.y.number then (-1) else (if A.y.number < A.x.number then 1 else 0))))
theorem pY_any  (A : pY_A) (w : World) : Calls Tryz.prog 187 #[A.x.val, A.y.val] w fun e w' => e = .returned (.int .i64 (pY_r A w)) ∧ Chg (fun _ => False) w w' := by
 unfold pY_r
 by_cases h0 : A.x.reeve < A.y.reeve
 ·simp only [if_pos h0]
  by_cases h1 : A.x.number < A.y.number
  ·simp only [if_pos h1]
   exact pY_0 A w h0 h1
  ·simp only [if_neg h1]
   by_cases h2 : A.y.number < A.x.number
   ·simp only [if_pos h2]
    exact pY_1 A w h0 h1 h2
   ·simp only [if_neg h2]
    exact pY_2 A w h0 h1 h2
 ·simp only [if_neg h0]
  by_cases h1 : A.y.reeve < A.x.reeve
  ·simp only [if_pos h1]
   by_cases h2 : A.x.number < A.y.number
   ·simp only [if_pos h2]
    exact pY_3 A w h0 h1 h2
   ·simp only [if_neg h2]
    by_cases h3 : A.y.number < A.x.number
    ·simp only [if_pos h3]
     exact pY_4 A w h0 h1 h2 h3
    ·simp only [if_neg h3]
     exact pY_5 A w h0 h1 h2 h3
  ·simp only [if_neg h1]
   by_cases h2 : A.x.number < A.y.number
   ·simp only [if_pos h2]
    exact pY_6 A w h0 h1 h2
   ·simp only [if_neg h2]
    by_cases h3 : A.y.number < A.x.number
    ·simp only [if_pos h3]
     exact pY_7 A w h0 h1 h2 h3
    ·simp only [if_neg h3]
     exact pY_8 A w h0 h1 h2 h3
theorem pByRef_n (x y : Rf) (w : World) : Calls Tryz.prog 187 #[x.val, y.val] w fun e w' => e = .returned (.int .i64 (byRefN x y)) ∧ Chg (fun _ => False) w w' := by
 have := pY_any ⟨x, y⟩ w
 have e : pY_r ⟨x, y⟩ w = byRefN x y := by
  unfold pY_r byRefN
  repeat' split
  all_goals first | rfl | (exfalso; omega)
 rw [e] at this
 exact this
end Go.Proofs.YtocabeobfbhajaaGreatDoor.Sx
end
section
set_option linter.unusedVariables false
set_option linter.unusedSimpArgs false
set_option maxRecDepth 100000
set_option maxHeartbeats 0
namespace Go.Proofs.YtocabeobfbhajaaGreatDoor.Sx
open Go Go.Proofs Go.Proofs.YtocabeobfbhajaaGreatDoor Go.Proofs.YtocabeobfbhajaaGreatDoor.Sx
structure pR_A where
 p : Po
theorem pR_0  (A : pR_A) (w : World) (h0 : 0 ≤ A.p.kind ∧ A.p.kind ≤ 255) (h1 : 1 ≤ A.p.kind) (h2 : A.p.kind ≤ 5) (h3 : A.p.kind = 1) : Calls Tryz.prog 21 #[A.p.val] w fun e w' => e = .returned (.agg #[.int .i64 A.p.owner, .int .i64 0, .int .i64 A.p.amount]) ∧ Chg (fun _ => False) w w' :=
 leafS (E := E0) (n0 := 8) (L := (.agg #[] :: poV A.p ++ .int .i64 A.p.kind :: [])) (t := [⟨1000000000 + (5 * 10000 + 3), [.sym 4], .sym 12⟩, ⟨tagB .geq, [.sym 12, .int .i64 1], .bool true⟩, ⟨tagB .leq, [.sym 12, .int .i64 5], .bool true⟩, ⟨3000000000 + 142, [.agg [.nf, .nf, .fn (.func 178) [] [], .fn (.func 179) [] [], .fn (.func 178) [] [], .fn (.func 179) [] [], .fn (.func 180) [] [], .fn (.func 181) [] [], .fn (.func 182) [] [], .fn (.func 178) [] [], .fn (.func 179) [] [], .fn (.func 178) [] []], .sym 4], .agg [.fn (.func 178) [] [], .fn (.func 179) [] []]⟩]) 60 60 ok0 (qsC (q_convI (ks := .u8) (kd := .i64) (by kernel_rfl) (by kernel_rfl) rfl (show -9223372036854775808 ≤ A.p.kind ∧ A.p.kind ≤ 9223372036854775807 by omega) rfl rfl rfl) (qsC (q_t .geq rfl rfl rfl h1) (qsC (q_t .leq rfl rfl rfl h2) (qsC (q_idx rfl rfl (c := 1) h3 (by kernel_rfl)) qsN)))) csN cmN lpN rfl (vs := [.agg [.sym 1, .sym 2, .sym 3, .sym 4, .sym 5, .sym 6, .sym 7, .sym 8, .sym 9, .sym 10, .sym 11]]) (v := .agg [.sym 6, .int .i64 0, .sym 11]) rfl rfl (by kernel_rfl) rfl
theorem pR_1  (A : pR_A) (w : World) (h0 : 0 ≤ A.p.kind ∧ A.p.kind ≤ 255) (h1 : 1 ≤ A.p.kind) (h2 : A.p.kind ≤ 5) (h3 : ¬ (A.p.kind = 1)) (h4 : A.p.kind = 2) : Calls Tryz.prog 21 #[A.p.val] w fun e w' => e = .returned (.agg #[.int .i64 A.p.owner, .int .i64 0, .int .i64 A.p.amount]) ∧ Chg (fun _ => False) w w' :=
 leafS (E := E0) (n0 := 8) (L := (.agg #[] :: poV A.p ++ .int .i64 A.p.kind :: [])) (t := [⟨1000000000 + (5 * 10000 + 3), [.sym 4], .sym 12⟩, ⟨tagB .geq, [.sym 12, .int .i64 1], .bool true⟩, ⟨tagB .leq, [.sym 12, .int .i64 5], .bool true⟩, ⟨3000000000 + 142, [.agg [.nf, .nf, .fn (.func 178) [] [], .fn (.func 179) [] [], .fn (.func 178) [] [], .fn (.func 179) [] [], .fn (.func 180) [] [], .fn (.func 181) [] [], .fn (.func 182) [] [], .fn (.func 178) [] [], .fn (.func 179) [] [], .fn (.func 178) [] []], .sym 4], .agg [.fn (.func 178) [] [], .fn (.func 179) [] []]⟩]) 60 60 ok0 (qsC (q_convI (ks := .u8) (kd := .i64) (by kernel_rfl) (by kernel_rfl) rfl (show -9223372036854775808 ≤ A.p.kind ∧ A.p.kind ≤ 9223372036854775807 by omega) rfl rfl rfl) (qsC (q_t .geq rfl rfl rfl h1) (qsC (q_t .leq rfl rfl rfl h2) (qsC (q_idx rfl rfl (c := 2) h4 (by kernel_rfl)) qsN)))) csN cmN lpN rfl (vs := [.agg [.sym 1, .sym 2, .sym 3, .sym 4, .sym 5, .sym 6, .sym 7, .sym 8, .sym 9, .sym 10, .sym 11]]) (v := .agg [.sym 6, .int .i64 0, .sym 11]) rfl rfl (by kernel_rfl) rfl
theorem pR_2  (A : pR_A) (w : World) (h0 : 0 ≤ A.p.kind ∧ A.p.kind ≤ 255) (h1 : 1 ≤ A.p.kind) (h2 : A.p.kind ≤ 5) (h3 : ¬ (A.p.kind = 1)) (h4 : ¬ (A.p.kind = 2)) (h5 : A.p.kind = 3) : Calls Tryz.prog 21 #[A.p.val] w fun e w' => e = .returned (.agg #[.int .i64 (IntKind.wrap .i64 (100 + A.p.reeve)), .int .i64 200, .int .i64 A.p.amount]) ∧ Chg (fun _ => False) w w' :=
 leafS (E := E0) (n0 := 8) (L := (.agg #[] :: poV A.p ++ .int .i64 A.p.kind :: .int .i64 (IntKind.wrap .i64 (100 + A.p.reeve)) :: [])) (t := [⟨1000000000 + (5 * 10000 + 3), [.sym 4], .sym 12⟩, ⟨tagB .geq, [.sym 12, .int .i64 1], .bool true⟩, ⟨tagB .leq, [.sym 12, .int .i64 5], .bool true⟩, ⟨3000000000 + 142, [.agg [.nf, .nf, .fn (.func 178) [] [], .fn (.func 179) [] [], .fn (.func 178) [] [], .fn (.func 179) [] [], .fn (.func 180) [] [], .fn (.func 181) [] [], .fn (.func 182) [] [], .fn (.func 178) [] [], .fn (.func 179) [] [], .fn (.func 178) [] []], .sym 4], .agg [.fn (.func 180) [] [], .fn (.func 181) [] []]⟩, ⟨tagB .add, [.int .i64 100, .sym 1], .sym 13⟩]) 60 60 ok0 (qsC (q_convI (ks := .u8) (kd := .i64) (by kernel_rfl) (by kernel_rfl) rfl (show -9223372036854775808 ≤ A.p.kind ∧ A.p.kind ≤ 9223372036854775807 by omega) rfl rfl rfl) (qsC (q_t .geq rfl rfl rfl h1) (qsC (q_t .leq rfl rfl rfl h2) (qsC (q_idx rfl rfl (c := 3) h5 (by kernel_rfl)) (qsC (q_add rfl rfl rfl) qsN))))) csN cmN lpN rfl (vs := [.agg [.sym 1, .sym 2, .sym 3, .sym 4, .sym 5, .sym 6, .sym 7, .sym 8, .sym 9, .sym 10, .sym 11]]) (v := .agg [.sym 13, .int .i64 200, .sym 11]) rfl rfl (by kernel_rfl) rfl
def pR_h0  (A : pR_A) (w : World) : Prop := (0 ≤ A.p.kind ∧ A.p.kind ≤ 255) ∧ (1 ≤ A.p.kind) ∧ (A.p.kind ≤ 5) ∧ (¬ (A.p.kind = 1)) ∧ (¬ (A.p.kind = 2)) ∧ (¬ (A.p.kind = 3)) ∧ (A.p.kind = 4)
def pR_s0  (A : pR_A) (w : World) (R : List Value) : List Value := (.agg #[] :: poV A.p ++ .int .i64 A.p.kind :: R)
def pR_t0 : List QE := [⟨1000000000 + (5 * 10000 + 3), [.sym 4], .sym 12⟩, ⟨tagB .geq, [.sym 12, .int .i64 1], .bool true⟩, ⟨tagB .leq, [.sym 12, .int .i64 5], .bool true⟩, ⟨3000000000 + 142, [.agg [.nf, .nf, .fn (.func 178) [] [], .fn (.func 179) [] [], .fn (.func 178) [] [], .fn (.func 179) [] [], .fn (.func 180) [] [], .fn (.func 181) [] [], .fn (.func 182) [] [], .fn (.func 178) [] [], .fn (.func 179) [] [], .fn (.func 178) [] []], .sym 4], .agg [.fn (.func 182) [] [], .fn (.func 178) [] []]⟩]
theorem pR_q0  (A : pR_A) (w : World) (H0 : pR_h0 A w) (R : List Value) : QsOK (Gw 8 (syL (pR_s0 A w R)) w) Tryz.prog pR_t0 := by have ⟨h0, h1, h2, h3, h4, h5, h6⟩ := H0; exact (qsC (q_convI (ks := .u8) (kd := .i64) (by kernel_rfl) (by kernel_rfl) rfl (show -9223372036854775808 ≤ A.p.kind ∧ A.p.kind ≤ 9223372036854775807 by omega) rfl rfl rfl) (qsC (q_t .geq rfl rfl rfl h1) (qsC (q_t .leq rfl rfl rfl h2) (qsC (q_idx rfl rfl (c := 4) h6 (by kernel_rfl)) qsN))))
theorem pR_3  (A : pR_A) (w : World) (H0 : pR_h0 A w) (h7 : A.p.by_.reeve = 0) (h8 : A.p.by_.number = 0) : Calls Tryz.prog 21 #[A.p.val] w fun e w' => e = .returned (.agg #[.int .i64 (IntKind.wrap .i64 (100 + A.p.reeve)), .int .i64 A.p.owner, .int .i64 A.p.amount]) ∧ Chg (fun _ => False) w w' :=
 by have ⟨h0, h1, h2, h3, h4, h5, h6⟩ := H0; exact leafS (E := E0) (n0 := 8) (L := (pR_s0 A w (.int .i64 (IntKind.wrap .i64 (100 + A.p.reeve)) :: []))) (t := (pR_t0 ++ [⟨20, [.sym 9, .int .i64 0], .bool true⟩, ⟨20, [.sym 10, .int .i64 0], .bool true⟩, ⟨tagB .add, [.int .i64 100, .sym 1], .sym 13⟩])) 60 60 ok0 (qsA (pR_q0 A w H0 _) (qsC (q_it rfl rfl h7) (qsC (q_it rfl rfl h8) (qsC (q_add rfl rfl rfl) qsN)))) csN cmN lpN rfl (vs := [.agg [.sym 1, .sym 2, .sym 3, .sym 4, .sym 5, .sym 6, .sym 7, .sym 8, .sym 9, .sym 10, .sym 11]]) (v := .agg [.sym 13, .sym 6, .sym 11]) rfl rfl (by kernel_rfl) rfl
theorem pR_4  (A : pR_A) (w : World) (H0 : pR_h0 A w) (h7 : A.p.by_.reeve = 0) (h8 : ¬ (A.p.by_.number = 0)) : Calls Tryz.prog 21 #[A.p.val] w fun e w' => e = .returned (.agg #[.int .i64 200, .int .i64 A.p.owner, .int .i64 A.p.amount]) ∧ Chg (fun _ => False) w w' :=
 by have ⟨h0, h1, h2, h3, h4, h5, h6⟩ := H0; exact leafS (E := E0) (n0 := 8) (L := (pR_s0 A w [])) (t := (pR_t0 ++ [⟨20, [.sym 9, .int .i64 0], .bool true⟩, ⟨20, [.sym 10, .int .i64 0], .bool false⟩])) 60 60 ok0 (qsA (pR_q0 A w H0 _) (qsC (q_it rfl rfl h7) (qsC (q_if rfl rfl h8) qsN))) csN cmN lpN rfl (vs := [.agg [.sym 1, .sym 2, .sym 3, .sym 4, .sym 5, .sym 6, .sym 7, .sym 8, .sym 9, .sym 10, .sym 11]]) (v := .agg [.int .i64 200, .sym 6, .sym 11]) rfl rfl (by kernel_rfl) rfl
theorem pR_5  (A : pR_A) (w : World) (H0 : pR_h0 A w) (h7 : ¬ (A.p.by_.reeve = 0)) : Calls Tryz.prog 21 #[A.p.val] w fun e w' => e = .returned (.agg #[.int .i64 200, .int .i64 A.p.owner, .int .i64 A.p.amount]) ∧ Chg (fun _ => False) w w' :=
 by have ⟨h0, h1, h2, h3, h4, h5, h6⟩ := H0; exact leafS (E := E0) (n0 := 8) (L := (pR_s0 A w [])) (t := (pR_t0 ++ [⟨20, [.sym 9, .int .i64 0], .bool false⟩])) 60 60 ok0 (qsA (pR_q0 A w H0 _) (qsC (q_if rfl rfl h7) qsN)) csN cmN lpN rfl (vs := [.agg [.sym 1, .sym 2, .sym 3, .sym 4, .sym 5, .sym 6, .sym 7, .sym 8, .sym 9, .sym 10, .sym 11]]) (v := .agg [.int .i64 200, .sym 6, .sym 11]) rfl rfl (by kernel_rfl) rfl
theorem pR_6  (A : pR_A) (w : World) (h0 : 0 ≤ A.p.kind ∧ A.p.kind ≤ 255) (h1 : 1 ≤ A.p.kind) (h2 : A.p.kind ≤ 5) (h3 : ¬ (A.p.kind = 1)) (h4 : ¬ (A.p.kind = 2)) (h5 : ¬ (A.p.kind = 3)) (h6 : ¬ (A.p.kind = 4)) : Calls Tryz.prog 21 #[A.p.val] w fun e w' => e = .returned (.agg #[.int .i64 0, .int .i64 A.p.owner, .int .i64 A.p.amount]) ∧ Chg (fun _ => False) w w' :=
 leafS (E := E0) (n0 := 8) (L := (.agg #[] :: poV A.p ++ .int .i64 A.p.kind :: [])) (t := [⟨1000000000 + (5 * 10000 + 3), [.sym 4], .sym 12⟩, ⟨tagB .geq, [.sym 12, .int .i64 1], .bool true⟩, ⟨tagB .leq, [.sym 12, .int .i64 5], .bool true⟩, ⟨3000000000 + 142, [.agg [.nf, .nf, .fn (.func 178) [] [], .fn (.func 179) [] [], .fn (.func 178) [] [], .fn (.func 179) [] [], .fn (.func 180) [] [], .fn (.func 181) [] [], .fn (.func 182) [] [], .fn (.func 178) [] [], .fn (.func 179) [] [], .fn (.func 178) [] []], .sym 4], .agg [.fn (.func 179) [] [], .fn (.func 178) [] []]⟩]) 60 60 ok0 (qsC (q_convI (ks := .u8) (kd := .i64) (by kernel_rfl) (by kernel_rfl) rfl (show -9223372036854775808 ≤ A.p.kind ∧ A.p.kind ≤ 9223372036854775807 by omega) rfl rfl rfl) (qsC (q_t .geq rfl rfl rfl h1) (qsC (q_t .leq rfl rfl rfl h2) (qsC (q_idx rfl rfl (c := 5) (show A.p.kind = 5 by omega) (by kernel_rfl)) qsN)))) csN cmN lpN rfl (vs := [.agg [.sym 1, .sym 2, .sym 3, .sym 4, .sym 5, .sym 6, .sym 7, .sym 8, .sym 9, .sym 10, .sym 11]]) (v := .agg [.int .i64 0, .sym 6, .sym 11]) rfl rfl (by kernel_rfl) rfl
theorem pR_7  (A : pR_A) (w : World) (h0 : 0 ≤ A.p.kind ∧ A.p.kind ≤ 255) (h1 : 1 ≤ A.p.kind) (h2 : ¬ (A.p.kind ≤ 5)) : Calls Tryz.prog 21 #[A.p.val] w fun e w' => e = .returned (.agg #[.int .i64 0, .int .i64 0, .int .i64 0]) ∧ Chg (fun _ => False) w w' :=
 leafS (E := E0) (n0 := 8) (L := (.agg #[] :: poV A.p ++ .int .i64 A.p.kind :: [])) (t := [⟨1000000000 + (5 * 10000 + 3), [.sym 4], .sym 12⟩, ⟨tagB .geq, [.sym 12, .int .i64 1], .bool true⟩, ⟨tagB .leq, [.sym 12, .int .i64 5], .bool false⟩]) 60 60 ok0 (qsC (q_convI (ks := .u8) (kd := .i64) (by kernel_rfl) (by kernel_rfl) rfl (show -9223372036854775808 ≤ A.p.kind ∧ A.p.kind ≤ 9223372036854775807 by omega) rfl rfl rfl) (qsC (q_t .geq rfl rfl rfl h1) (qsC (q_f .leq rfl rfl rfl h2) qsN))) csN cmN lpN rfl (vs := [.agg [.sym 1, .sym 2, .sym 3, .sym 4, .sym 5, .sym 6, .sym 7, .sym 8, .sym 9, .sym 10, .sym 11]]) (v := .agg [.int .i64 0, .int .i64 0, .int .i64 0]) rfl rfl (by kernel_rfl) rfl
theorem pR_8  (A : pR_A) (w : World) (h0 : 0 ≤ A.p.kind ∧ A.p.kind ≤ 255) (h1 : ¬ (1 ≤ A.p.kind)) : Calls Tryz.prog 21 #[A.p.val] w fun e w' => e = .returned (.agg #[.int .i64 0, .int .i64 0, .int .i64 0]) ∧ Chg (fun _ => False) w w' :=
 leafS (E := E0) (n0 := 8) (L := (.agg #[] :: poV A.p ++ .int .i64 A.p.kind :: [])) (t := [⟨1000000000 + (5 * 10000 + 3), [.sym 4], .sym 12⟩, ⟨tagB .geq, [.sym 12, .int .i64 1], .bool false⟩]) 60 60 ok0 (qsC (q_convI (ks := .u8) (kd := .i64) (by kernel_rfl) (by kernel_rfl) rfl (show -9223372036854775808 ≤ A.p.kind ∧ A.p.kind ≤ 9223372036854775807 by omega) rfl rfl rfl) (qsC (q_f .geq rfl rfl rfl h1) qsN)) csN cmN lpN rfl (vs := [.agg [.sym 1, .sym 2, .sym 3, .sym 4, .sym 5, .sym 6, .sym 7, .sym 8, .sym 9, .sym 10, .sym 11]]) (v := .agg [.int .i64 0, .int .i64 0, .int .i64 0]) rfl rfl (by kernel_rfl) rfl
def pR_r  (A : pR_A) (w : World) : Int × Int × Int := (if 1 ≤ A.p.kind then (if A.p.kind ≤ 5 then (if A.p.kind = 1 then (A.p.owner, 0, A.p.amount) else (if A.p.kind = 2 then (A.p.owner, 0, A.p.amount) else (if A.p.kind = 3 then ((IntKind.wrap .i64 (100 + A.p.reeve)), 200, A.p.amount) else (if A.p.kind = 4 then (if A.p.by_.reeve = 0 then (if A.p.by_.number = 0 then ((IntKind.wrap .i64 (100 + A.p.reeve)), A.p.owner, A.p.amount) else (200, A.p.owner, A.p.amount)) else (200, A.p.owner, A.p.amount)) else (0, A.p.owner, A.p.amount))))) else (0, 0, 0)) else (0, 0, 0))
theorem pR_any  (A : pR_A) (w : World) (h0 : 0 ≤ A.p.kind ∧ A.p.kind ≤ 255) : Calls Tryz.prog 21 #[A.p.val] w fun e w' => e = .returned (.agg #[.int .i64 ((pR_r A w).1), .int .i64 ((pR_r A w).2.1), .int .i64 ((pR_r A w).2.2)]) ∧ Chg (fun _ => False) w w' := by
 unfold pR_r
 by_cases h1 : 1 ≤ A.p.kind
 ·simp only [if_pos h1]
  by_cases h2 : A.p.kind ≤ 5
  ·simp only [if_pos h2]
   by_cases h3 : A.p.kind = 1
   ·simp only [if_pos h3]
    exact pR_0 A w h0 h1 h2 h3
   ·simp only [if_neg h3]
    by_cases h4 : A.p.kind = 2
    ·simp only [if_pos h4]
     exact pR_1 A w h0 h1 h2 h3 h4
    ·simp only [if_neg h4]
     by_cases h5 : A.p.kind = 3
     ·simp only [if_pos h5]
      exact pR_2 A w h0 h1 h2 h3 h4 h5
     ·simp only [if_neg h5]
      by_cases h6 : A.p.kind = 4
      ·simp only [if_pos h6]
       by_cases h7 : A.p.by_.reeve = 0
       ·simp only [if_pos h7]
        by_cases h8 : A.p.by_.number = 0
        ·simp only [if_pos h8]
         exact pR_3 A w ⟨h0, h1, h2, h3, h4, h5, h6⟩ h7 h8
        ·simp only [if_neg h8]
         exact pR_4 A w ⟨h0, h1, h2, h3, h4, h5, h6⟩ h7 h8
       ·simp only [if_neg h7]
        exact pR_5 A w ⟨h0, h1, h2, h3, h4, h5, h6⟩ h7
      ·simp only [if_neg h6]
       exact pR_6 A w h0 h1 h2 h3 h4 h5 h6
  ·simp only [if_neg h2]
   exact pR_7 A w h0 h1 h2
 ·simp only [if_neg h1]
  exact pR_8 A w h0 h1
theorem pTransfer_n (p : Po) (w : World) (h : 0 ≤ p.kind ∧ p.kind ≤ 255) : Calls Tryz.prog 21 #[p.val] w fun e w' => e = .returned (.agg #[.int .i64 (debitN p), .int .i64 (creditN p), .int .i64 (amountN p)]) ∧ Chg (fun _ => False) w w' := by
 have := pR_any ⟨p⟩ w h
 have e : pR_r ⟨p⟩ w = (debitN p, creditN p, amountN p) := by
  unfold pR_r debitN creditN amountN
  repeat' split
  all_goals first | rfl | (exfalso; omega) | (simp_all; done) | (simp_all; omega)
 rw [e] at this
 exact this
end Go.Proofs.YtocabeobfbhajaaGreatDoor.Sx
end
