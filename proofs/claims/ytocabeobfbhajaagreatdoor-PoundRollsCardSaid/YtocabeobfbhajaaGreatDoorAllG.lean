/- CheckPosting, in the reference. -/
import Derived.Test.YtocabeobfbhajaaGreatDoorAllE
import Derived.Test.YtocabeobfbhajaaGreatDoorPoH
import Derived.WalkKit
import Derived.Lib.AppendZeros
set_option linter.unusedVariables false
set_option linter.unusedSimpArgs false
set_option linter.unusedSectionVars false
section
set_option maxRecDepth 100000
namespace Go.Proofs.YtocabeobfbhajaaGreatDoor
open Go Go.RowKit
end Go.Proofs.YtocabeobfbhajaaGreatDoor
end
section
namespace Go.Proofs.YtocabeobfbhajaaGreatDoor.Sx
open Go Go.Proofs.YtocabeobfbhajaaGreatDoor
theorem rMany_n (n : Int) (w : World) : Calls Tryz.prog 78 #[.int .i64 n] w fun e w' => e = .returned (.bool (decide (n = 3 ∨ n = 5))) ∧ Chg (fun _ => False) w w' := (reeves_any n w).mono fun e w' h => ⟨by
 rw [h.1]; unfold manyB
 by_cases h3 : n = 3 <;> by_cases h5 : n = 5 <;> simp [h3, h5], by rw [← h.2]; exact Chg.refl _ _⟩
theorem rFormed_n (n : Int) (p : Po) (w : World) (h : n = 3 ∨ n = 5) : Calls Tryz.prog 82 #[.int .i64 n, p.val] w fun e w' => e = .returned (.bool (decide (checkN n p = 0))) ∧ Chg (fun _ => False) w w' := (rformed_any n p w (by unfold manyB; rcases h with rfl | rfl <;> rfl)).mono fun e w' g => ⟨by
 rw [g.1]; unfold checkN
 by_cases hf : formedB n p = true <;> simp [hf], Chg.of_below g.2⟩
def hasRf (x : Rf) (p : Po) : Bool := decide (p.reeve = x.reeve ∧ p.number = x.number)
def zeroPo : Po := ⟨0, 0, 0, 0, 0, 0, ⟨0, 0⟩, ⟨0, 0⟩, 0⟩
def findP (l : List Po) (x : Rf) : Po := (l.find? (hasRf x)).getD zeroPo
def findB (l : List Po) (x : Rf) : Bool := (l.find? (hasRf x)).isSome
def twiceR (p x : Po) : Bool := decide (x.reeve = p.reeve ∧ ((isCh p ∧ x.kind = p.kind ∧ x.cse = p.cse) ∨ (p.kind = 4 ∧ ¬ (p.by_.reeve = 0 ∧ p.by_.number = 0) ∧ x.kind = 4 ∧ x.by_.reeve = p.by_.reeve ∧ x.by_.number = p.by_.number)))
def lastRf (l : List Po) : Rf := if 0 < (l.length : Int) then ⟨(at_ l ((l.length : Int) - 1)).reeve, (at_ l ((l.length : Int) - 1)).number⟩ else ⟨-1, 0⟩
def rfollowsN (n : Int) (l : List Po) (p : Po) : Int :=
 if checkN n p = 0 then
  if p.reeve < (lastRf l).reeve ∨ (p.reeve = (lastRf l).reeve ∧ p.number ≠ IntKind.wrap .i64 ((lastRf l).number + 1)) ∨ ((lastRf l).reeve < p.reeve ∧ p.number ≠ 1) then 8
  else if l.any (twiceR p) then 6
  else if p.kind ≠ 4 ∧ p.kind ≠ 5 then 0
  else if findB l p.of = false ∨ ¬ isCh (findP l p.of) ∨ (findP l p.of).owner ≠ p.owner then 5
  else if (p.by_.reeve = 0 ∧ p.by_.number = 0) ∧ owedN l (findP l p.of) < p.amount then 8 else 0
 else 1
def rrollF (n : Int) (l : List Po) : Nat → Int → Int × Int
 | 0, _ => (0, 0)
 | k + 1, i => if rfollowsN n (l.take i.toNat) (at_ l i) = 0 then rrollF n l k (i + 1) else (i, rfollowsN n (l.take i.toNat) (at_ l i))
def rrollN (n : Int) (l : List Po) : Int × Int := if n = 3 ∨ n = 5 then rrollF n l l.length 0 else (0, 1)
def rowedTN (n : Int) (l : List Po) (x : Rf) : Int × Int := if (rrollN n l).2 = 0 then (if findB l x = true ∧ isCh (findP l x) then (owedN l (findP l x), 0) else (0, 5)) else (0, (rrollN n l).2)
def rbalanceN (n : Int) (l : List Po) (acc : Int) : Int × Int := if (rrollN n l).2 = 0 then (balN l acc, 0) else (0, (rrollN n l).2)
end Go.Proofs.YtocabeobfbhajaaGreatDoor.Sx
end
section
namespace Go.Proofs.YtocabeobfbhajaaGreatDoor.Sx
open Go Go.Proofs.YtocabeobfbhajaaGreatDoor
theorem wrap64 {x : Int} (h : -9223372036854775808 ≤ x ∧ x ≤ 9223372036854775807) : IntKind.wrap .i64 x = x := by
 exact wrap_id h
theorem okF_all {n : Int} {l : List Po} : ∀ {k : Nat} {i : Int}, okF n l k i = true → ∀ j : Int, i ≤ j → j < i + k → stepN n l j = 0
 | 0, _, _, j, h1, h2 => by omega
 | k + 1, i, h, j, h1, h2 => by
  simp only [okF, Bool.and_eq_true, decide_eq_true_eq] at h
  by_cases e : j = i
  ·subst e; exact h.1
  ·exact okF_all h.2 j (by omega) (by omega)
theorem roll_many {n : Int} {l : List Po} (h : (rollN n l).2 = 0) : n = 3 ∨ n = 5 := by
 unfold rollN at h
 by_cases g : n = 3 ∨ n = 5
 ·exact g
 ·rw [if_neg g] at h; exact absurd h (by decide)
theorem roll_steps {n : Int} {l : List Po} (h : (rollN n l).2 = 0) (j : Int) (h1 : 0 ≤ j ∧ j < (l.length : Int)) : stepN n l j = 0 := by
 have hn := roll_many h
 unfold rollN at h
 rw [if_pos hn] at h
 cases hk : okF n l l.length 0
 ·exact absurd h (rollF_bad hk)
 ·exact okF_all hk j h1.1 (by omega)
theorem mem_at {α : Type} [Inhabited α] {l : List α} {x : α} (h : x ∈ l) : ∃ j : Int, (0 ≤ j ∧ j < (l.length : Int)) ∧ at_ l j = x := by
 obtain ⟨i, hi, e⟩ := List.mem_iff_getElem.mp h
 exact ⟨(i : Int), by omega, by rw [at_nat hi, e]⟩
theorem roll_formed {n : Int} {l : List Po} (h : (rollN n l).2 = 0) {x : Po} (hx : x ∈ l) : checkN n x = 0 := by
 obtain ⟨j, hj, e⟩ := mem_at hx
 rw [← e]
 exact (reeve_of (roll_steps h j hj)).1
def effN (a : Int) (p : Po) : Int := (if debitN p = a then p.amount else 0) - (if creditN p = a then p.amount else 0)
def takeN (p : Po) : Int := (if p.kind = 3 then p.amount else 0) - (if p.kind = 4 ∧ p.by_.number > 0 then p.amount else 0)
theorem e2 {a b : Bool} (h : (a && b) = true) : b = true := by revert a b; decide
theorem e1 {a b : Bool} (h : (a && b) = true) : a = true := by revert a b; decide
theorem formBy {n : Int} {p : Po} (h : checkN n p = 0) : p.kind = 4 → (p.by_.reeve = 0 ∧ p.by_.number = 0) ∨ 1 ≤ p.by_.number := by
 intro h4
 unfold checkN at h
 by_cases hf : formedB n p = true
 case neg => rw [if_neg hf] at h; cases h
 replace h := hf
 unfold formedB at h
 have h7 := e2 h
 unfold YtocabeobfbhajaaGreatDoor.bodyB at h7
 rw [if_neg (by omega), if_neg (by omega), if_pos h4] at h7
 have h8 := e2 h7
 simp only [Bool.or_eq_true] at h8
 rcases h8 with h8 | h8
 ·left
  have : p.by_ = zeroRf := by simpa using h8
  rw [this]; exact ⟨rfl, rfl⟩
 ·right
  have h9 := e1 h8
  unfold isRefB inB at h9
  have h10 := e1 (e2 h9)
  simpa using h10
theorem sides {n : Int} {p : Po} (h : checkN n p = 0) : (0 ≤ debitN p ∧ debitN p ≤ 200) ∧ (0 ≤ creditN p ∧ creditN p ≤ 200) ∧ amountN p = p.amount ∧ (1 ≤ p.amount ∧ p.amount ≤ 1000000) ∧ effN 200 p = - takeN p := by
 have hb := formBy h
 obtain ⟨h1, h2, h2', h3, h3', h4, h4', h5, h5', h6, h6', h7, h7', h8⟩ := formN h
 have hw : IntKind.wrap .i64 (100 + p.reeve) = 100 + p.reeve := wrap64 (by omega)
 unfold effN takeN debitN creditN amountN
 rw [hw]
 have hk : p.kind = 1 ∨ p.kind = 2 ∨ p.kind = 3 ∨ p.kind = 4 ∨ p.kind = 5 := by omega
 by_cases hz : p.by_.reeve = 0 ∧ p.by_.number = 0
 ·rcases hk with hk | hk | hk | hk | hk <;> simp [hk, hz] <;> omega
 ·rcases hk with hk | hk | hk | hk | hk <;> simp [hk, hz] at hb ⊢ <;> (repeat' split) <;> omega
theorem eff_le {n : Int} {p : Po} (h : checkN n p = 0) (a : Int) : -1000000 ≤ effN a p ∧ effN a p ≤ 1000000 := by
 obtain ⟨_, _, _, h1, _⟩ := sides h
 unfold effN
 repeat' split
 all_goals omega
def sumN (f : Po → Int) (l : List Po) : Int := l.foldr (fun p s => f p + s) 0
theorem sum_0 {l : List Po} {f : Po → Int} (h : ∀ x ∈ l, f x = 0) : sumN f l = 0 := by
 induction l with
 | nil => rfl
 | cons x l ih =>
  have h1 := ih (fun y hy => h y (List.mem_cons_of_mem _ hy))
  have h2 := h x (List.mem_cons_self ..)
  simp only [sumN, List.foldr_cons] at h1 ⊢
  omega
theorem bal_sum {n : Int} {a : Int} {l : List Po} (hf : ∀ x ∈ l, checkN n x = 0) : ∀ s : Int, -1000000000000 + 1000000 * (l.length : Int) ≤ s ∧ s ≤ 1000000000000 - 1000000 * (l.length : Int) → l.foldl (balF a) s = s + sumN (effN a) l := by
 induction l with
 | nil => intro s h; simp [sumN]
 | cons x l ih =>
  intro s h
  have hx := hf x (List.mem_cons_self ..)
  obtain ⟨_, _, h1, h2, _⟩ := sides hx
  have e : balF a s x = s + effN a x := by
   simp only [List.length_cons] at h
   unfold balF effN
   rw [h1]
   by_cases d : debitN x = a <;> by_cases c : creditN x = a <;> simp only [d, c, if_true, if_false]
   ·rw [wrap64 (x := s + x.amount) (by omega), wrap64 (by omega)]; omega
   ·rw [wrap64 (by omega)]; omega
   ·rw [wrap64 (by omega)]; omega
   ·omega
  have h3 := eff_le hx a
  simp only [List.length_cons] at h
  rw [List.foldl_cons, e, ih (fun y hy => hf y (List.mem_cons_of_mem _ hy)) _ (by omega)]
  simp only [sumN, List.foldr_cons]
  omega
theorem balance_sum {n : Int} {l : List Po} (h : (rollN n l).2 = 0) (hl : (l.length : Int) ≤ 40) (a : Int) : balN l a = sumN (effN a) l := by
 have := bal_sum (a := a) (fun x hx => roll_formed h hx) 0 (by omega)
 unfold balN
 omega
theorem eff_far {n : Int} {p : Po} (h : checkN n p = 0) {a : Int} (ha : ¬ isAccN a) : effN a p = 0 := by
 have hb := formBy h
 obtain ⟨h1, h2, h2', h3, h3', h4, h4', h5, h5', h6, h6', h7, h7', h8⟩ := formN h
 have hw : IntKind.wrap .i64 (100 + p.reeve) = 100 + p.reeve := wrap64 (by omega)
 unfold isAccN at ha
 unfold effN debitN creditN
 rw [hw]
 repeat' split
 all_goals omega
end Go.Proofs.YtocabeobfbhajaaGreatDoor.Sx
end
section
namespace Go.Proofs.YtocabeobfbhajaaGreatDoor.Sx
open Go Go.Proofs.YtocabeobfbhajaaGreatDoor
def Vd (n : Int) (l : List Po) (i : Int) : Prop := ∀ j : Int, 0 ≤ j → j < i → stepN n l j = 0
theorem formOf {n : Int} {p : Po} (h : checkN n p = 0) : (p.kind = 4 ∨ p.kind = 5 → p.of.reeve = p.reeve) ∧ (p.kind = 5 → p.by_.reeve = 0 ∧ p.by_.number = 0) := by
 unfold checkN at h
 by_cases hf : formedB n p = true
 case neg => rw [if_neg hf] at h; cases h
 unfold formedB at hf
 have h7 := e2 hf
 unfold YtocabeobfbhajaaGreatDoor.bodyB at h7
 refine ⟨fun hk => ?_, fun h5 => ?_⟩
 ·rcases hk with h4 | h5
  ·rw [if_neg (by omega), if_neg (by omega), if_pos h4] at h7
   have h8 := e2 (e1 (e1 h7))
   simpa using h8
  ·rw [if_neg (by omega), if_neg (by omega), if_neg (by omega), if_pos h5] at h7
   have h8 := e2 (e1 h7)
   simpa using h8
 ·rw [if_neg (by omega), if_neg (by omega), if_neg (by omega), if_pos h5] at h7
  have h8 := e2 (e1 (e1 (e1 h7)))
  have : p.by_ = zeroRf := by simpa using h8
  rw [this]; exact ⟨rfl, rfl⟩
theorem num_of {n : Int} {l : List Po} {i : Int} (hs : stepN n l i = 0) : (at_ l i).number = ((bookN l i (at_ l i).reeve).length : Int) + 1 := by
 have hck := (reeve_of hs).1
 unfold stepN at hs
 rw [if_pos hck] at hs
 split at hs
 ·exact absurd hs (by decide)
 ·unfold followsN at hs
  split at hs
  ·rename_i g; exact g
  ·exact absurd hs (by decide)
theorem sort_of {n : Int} {l : List Po} {i : Int} (hs : stepN n l i = 0) (h0 : 0 < i) : byRefN ⟨(at_ l (i - 1)).reeve, (at_ l (i - 1)).number⟩ ⟨(at_ l i).reeve, (at_ l i).number⟩ < 0 := by
 have hck := (reeve_of hs).1
 unfold stepN at hs
 rw [if_pos hck] at hs
 split at hs
 ·exact absurd hs (by decide)
 ·rename_i g
  have : ¬ 0 ≤ byRefN ⟨(at_ l (i - 1)).reeve, (at_ l (i - 1)).number⟩ ⟨(at_ l i).reeve, (at_ l i).number⟩ := fun h => g ⟨h0, h⟩
  omega
theorem Vd.less {n : Int} {l : List Po} {i j : Int} (h : Vd n l i) (hj : j ≤ i) : Vd n l j := fun k h0 h1 => h k h0 (by omega)
theorem reeve_le {n : Int} {l : List Po} {i : Int} (h : Vd n l i) : ∀ (k : Nat) (j : Int), 0 ≤ j → j + k < i → (at_ l j).reeve ≤ (at_ l (j + k)).reeve
 | 0, j, _, _ => by rw [show j + ((0 : Nat) : Int) = j by omega]; exact Int.le_refl _
 | k + 1, j, h0, h1 => by
  have a := reeve_le h k j h0 (by omega)
  have b := sort_of (h (j + (k + 1 : Nat)) (by omega) (by omega)) (by omega)
  rw [show j + ((k + 1 : Nat) : Int) - 1 = j + (k : Int) by omega] at b
  unfold byRefN at b
  dsimp only at b
  split at b
  ·omega
  ·split at b
   ·omega
   ·omega
theorem mem_take {l : List Po} {i : Int} {x : Po} (hi : i ≤ (l.length : Int)) (hx : x ∈ l.take i.toNat) : ∃ j : Int, 0 ≤ j ∧ j < i ∧ at_ l j = x := by
 obtain ⟨k, hk, e⟩ := List.mem_iff_getElem.mp hx
 rw [List.length_take] at hk
 rw [List.getElem_take] at e
 exact ⟨(k : Int), by omega, by omega, by rw [at_nat (by omega), e]⟩
theorem book_far {n : Int} {l : List Po} {i r : Int} (hi : i ≤ (l.length : Int)) (h : Vd n l i) (hr : 0 < i → (at_ l (i - 1)).reeve < r) : bookN l i r = [] := by
 unfold bookN
 rw [List.filter_eq_nil_iff]
 intro x hx
 obtain ⟨j, h0, h1, rfl⟩ := mem_take hi hx
 have := reeve_le h (i - 1 - j).toNat j h0 (by omega)
 rw [show j + ((i - 1 - j).toNat : Int) = i - 1 by omega] at this
 have := hr (by omega)
 simp only [decide_eq_true_eq]
 omega
theorem book_nums {n : Int} {l : List Po} (r : Int) : ∀ (k : Nat), (k : Int) ≤ (l.length : Int) → Vd n l k → ∀ x ∈ bookN l k r, 1 ≤ x.number ∧ x.number ≤ ((bookN l k r).length : Int)
 | 0, _, _, x, hx => by simp [bookN] at hx
 | k + 1, hk, h, x, hx => by
  have hb := book_succ (l := l) (i := (k : Int)) r ⟨by omega, by omega⟩
  rw [show ((k + 1 : Nat) : Int) = (k : Int) + 1 by omega] at hx ⊢
  rw [hb] at hx ⊢
  have ih := book_nums r k (by omega) (h.less (by omega))
  by_cases hr : (at_ l k).reeve = r
  ·rw [if_pos hr] at hx ⊢
   have hn := num_of (h (k : Int) (by omega) (by omega))
   rw [hr] at hn
   rw [List.length_append, List.length_singleton]
   rcases List.mem_append.1 hx with hx | hx
   ·have := ih x hx; omega
   ·rw [List.mem_singleton] at hx
    subst hx
    omega
  ·rw [if_neg hr] at hx ⊢
   exact ih x hx
theorem find_book {n : Int} {l : List Po} (r m : Int) : ∀ (k : Nat), (k : Int) ≤ (l.length : Int) → Vd n l k → (l.take k).find? (hasRf ⟨r, m⟩) = if 1 ≤ m ∧ m ≤ ((bookN l k r).length : Int) then some (at_ (bookN l k r) (m - 1)) else none
 | 0, _, _ => by
  rw [if_neg (by simp [bookN]; omega)]
  rfl
 | k + 1, hk, h => by
  have ht := take_succ (l := l) (i := (k : Int)) ⟨by omega, by omega⟩
  have hb := book_succ (l := l) (i := (k : Int)) r ⟨by omega, by omega⟩
  rw [show ((k : Int) + 1).toNat = k + 1 by omega, show ((k : Int)).toNat = k by omega] at ht
  rw [show ((k + 1 : Nat) : Int) = (k : Int) + 1 by omega, ht, hb, List.find?_append, find_book r m k (by omega) (h.less (by omega))]
  have hn := num_of (h (k : Int) (by omega) (by omega))
  by_cases hr : (at_ l k).reeve = r
  ·rw [if_pos hr]
   rw [hr] at hn
   rw [List.length_append, List.length_singleton]
   by_cases hm : 1 ≤ m ∧ m ≤ ((bookN l k r).length : Int)
   ·rw [if_pos hm, if_pos (by omega)]
    show some _ = some _
    congr 1
    unfold at_
    rw [List.getD_eq_getElem?_getD, List.getD_eq_getElem?_getD, List.getElem?_append_left (by omega)]
   ·rw [if_neg hm]
    by_cases hm2 : m = ((bookN l k r).length : Int) + 1
    ·rw [if_pos (by omega)]
     have : hasRf ⟨r, m⟩ (at_ l k) = true := by simp only [hasRf, decide_eq_true_eq]; omega
     rw [show List.find? (hasRf ⟨r, m⟩) [at_ l (k : Int)] = some (at_ l k) by rw [List.find?_cons, this]]
     show some _ = some _
     congr 1
     rw [hm2]
     generalize bookN l k r = q
     generalize at_ l (k : Int) = z
     unfold at_
     rw [show (((q.length : Int) + 1 - 1).toNat) = q.length by omega]
     simp [List.getD_eq_getElem?_getD]
    ·rw [if_neg (by omega)]
     have : hasRf ⟨r, m⟩ (at_ l k) = false := by simp only [hasRf, decide_eq_false_iff_not]; omega
     rw [show List.find? (hasRf ⟨r, m⟩) [at_ l (k : Int)] = none by rw [List.find?_cons, this]; rfl]
     rfl
  ·rw [if_neg hr]
   have : hasRf ⟨r, m⟩ (at_ l k) = false := by simp only [hasRf, decide_eq_false_iff_not]; omega
   rw [show List.find? (hasRf ⟨r, m⟩) [at_ l (k : Int)] = none by rw [List.find?_cons, this]; rfl]
   split <;> rfl
theorem fold_filter {c : Po} {q : Po → Bool} : ∀ {l : List Po} (s : Int), (∀ x ∈ l, q x = false → ∀ s, owedF c s x = s) → l.foldl (owedF c) s = (l.filter q).foldl (owedF c) s
 | [], s, _ => rfl
 | x :: l, s, h => by
  have ih := fun s => fold_filter (c := c) (q := q) (l := l) s (fun y hy => h y (List.mem_cons_of_mem _ hy))
  rw [List.foldl_cons, List.filter_cons]
  by_cases hq : q x = true
  ·rw [if_pos hq, List.foldl_cons]; exact ih _
  ·rw [if_neg hq, h x (List.mem_cons_self ..) (by simpa using hq)]; exact ih _
theorem owed_book {n : Int} {l : List Po} {i : Int} (hi : 0 ≤ i ∧ i ≤ (l.length : Int)) (h : Vd n l i) (c : Po) : owedN (l.take i.toNat) c = owedN (bookN l i c.reeve) c := by
 unfold owedN bookN
 congr 1
 refine fold_filter _ (fun x hx hq s => ?_)
 obtain ⟨j, h0, h1, rfl⟩ := mem_take hi.2 hx
 have hck := (reeve_of (h j h0 h1)).1
 have ho := (formOf hck).1
 simp only [decide_eq_false_iff_not] at hq
 unfold owedF
 rw [if_neg (by rintro ⟨hk, hr, _⟩; exact hq (by rw [← ho hk, hr]))]
theorem any_book {l : List Po} {i r : Int} {f g : Po → Bool} (h : ∀ x, f x = (decide (x.reeve = r) && g x)) : (l.take i.toNat).any f = (bookN l i r).any g := by
 unfold bookN
 rw [List.any_filter]
 congr 1
 funext x
 exact h x
theorem twiceR_charge {p : Po} (hc : isCh p) (x : Po) : twiceR p x = (decide (x.reeve = p.reeve) && twiceC p x) := by
 have h4 : ¬ p.kind = 4 := by unfold isCh at hc; omega
 unfold twiceR twiceC
 rw [← Bool.decide_and, decide_eq_decide]
 constructor
 ·rintro ⟨h1, ⟨_, h2, h3⟩ | ⟨h2, _⟩⟩
  ·exact ⟨h1, h2, h3⟩
  ·exact absurd h2 h4
 ·rintro ⟨h1, h2, h3⟩
  exact ⟨h1, .inl ⟨hc, h2, h3⟩⟩
theorem twiceR_pay {p : Po} (h4 : p.kind = 4) (hb : ¬ (p.by_.reeve = 0 ∧ p.by_.number = 0)) (x : Po) : twiceR p x = (decide (x.reeve = p.reeve) && twiceB p x) := by
 have hc : ¬ isCh p := by unfold isCh; omega
 unfold twiceR twiceB
 rw [← Bool.decide_and, decide_eq_decide]
 constructor
 ·rintro ⟨h1, ⟨h2, _⟩ | ⟨_, _, h2, h3, h5⟩⟩
  ·exact absurd h2 hc
  ·exact ⟨h1, h2, h3, h5⟩
 ·rintro ⟨h1, h2, h3, h5⟩
  exact ⟨h1, .inr ⟨h4, hb, h2, h3, h5⟩⟩
theorem twiceR_none {p : Po} (hc : ¬ isCh p) (h : p.kind = 4 → (p.by_.reeve = 0 ∧ p.by_.number = 0)) (x : Po) : twiceR p x = false := by
 unfold twiceR
 rw [decide_eq_false_iff_not]
 rintro ⟨_, ⟨h2, _⟩ | ⟨h4, hb, _⟩⟩
 ·exact hc h2
 ·exact hb (h h4)
theorem lastRf_take {l : List Po} {i : Int} (hi : 0 ≤ i ∧ i ≤ (l.length : Int)) : lastRf (l.take i.toNat) = if 0 < i then ⟨(at_ l (i - 1)).reeve, (at_ l (i - 1)).number⟩ else ⟨-1, 0⟩ := by
 have hlen : ((l.take i.toNat).length : Int) = i := by rw [List.length_take]; omega
 unfold lastRf
 rw [hlen]
 by_cases h : 0 < i
 ·rw [if_pos h, if_pos h]
  have : at_ (l.take i.toNat) (i - 1) = at_ l (i - 1) := by
   unfold at_
   rw [List.getD_eq_getElem?_getD, List.getD_eq_getElem?_getD, List.getElem?_take, if_pos (by omega)]
  rw [this]
 ·rw [if_neg h, if_neg h]
theorem order_same {n : Int} {l : List Po} {i : Int} (hi : 0 ≤ i ∧ i < (l.length : Int)) (h : Vd n l i) (hck : checkN n (at_ l i) = 0) :
  ((at_ l i).reeve < (lastRf (l.take i.toNat)).reeve ∨ ((at_ l i).reeve = (lastRf (l.take i.toNat)).reeve ∧ (at_ l i).number ≠ IntKind.wrap .i64 ((lastRf (l.take i.toNat)).number + 1)) ∨ ((lastRf (l.take i.toNat)).reeve < (at_ l i).reeve ∧ (at_ l i).number ≠ 1)) ↔
  ((0 < i ∧ 0 ≤ byRefN ⟨(at_ l (i - 1)).reeve, (at_ l (i - 1)).number⟩ ⟨(at_ l i).reeve, (at_ l i).number⟩) ∨ (at_ l i).number ≠ ((bookN l i (at_ l i).reeve).length : Int) + 1) := by
 rw [lastRf_take ⟨hi.1, by omega⟩]
 obtain ⟨_, _, hr0, _⟩ := formN hck
 by_cases h0 : 0 < i
 ·rw [if_pos h0]
  have hs := h (i - 1) (by omega) (by omega)
  have hn := num_of hs
  have hck' := (reeve_of hs).1
  obtain ⟨_, _, _, hn1, hn2, _⟩ := formN hck'
  have hb := book_succ (l := l) (i := i - 1) (at_ l (i - 1)).reeve ⟨by omega, by omega⟩
  rw [if_pos rfl, show i - 1 + 1 = i by omega] at hb
  have hlen : ((bookN l i (at_ l (i - 1)).reeve).length : Int) = (at_ l (i - 1)).number := by
   rw [hb, List.length_append, List.length_singleton, hn]; omega
  dsimp only
  rw [wrap64 (by omega)]
  unfold byRefN
  dsimp only
  by_cases a : (at_ l i).reeve < (at_ l (i - 1)).reeve
  ·rw [if_neg (by omega), if_pos a]
   exact ⟨fun _ => .inl ⟨h0, by decide⟩, fun _ => .inl a⟩
  ·by_cases b : (at_ l (i - 1)).reeve < (at_ l i).reeve
   ·have he := book_far (l := l) (i := i) (r := (at_ l i).reeve) (by omega) h (fun _ => b)
    rw [if_pos b, he]
    simp only [List.length_nil]
    omega
   ·have e : (at_ l i).reeve = (at_ l (i - 1)).reeve := by omega
    rw [if_neg b, if_neg (by omega), e, hlen]
    split
    ·omega
    ·split <;> omega
 ·have e : i = 0 := by omega
  subst e
  rw [if_neg h0]
  have : bookN l 0 (at_ l 0).reeve = [] := rfl
  rw [this]
  simp only [List.length_nil]
  omega
theorem step_same {n : Int} {l : List Po} {i : Int} (hi : 0 ≤ i ∧ i < (l.length : Int)) (h : Vd n l i) : rfollowsN n (l.take i.toNat) (at_ l i) = stepN n l i := by
 unfold rfollowsN stepN
 by_cases hck : checkN n (at_ l i) = 0
 case neg =>
  rw [if_neg hck, if_neg hck]
  unfold checkN at hck ⊢
  split
  ·rename_i g; rw [if_pos g] at hck; exact absurd rfl hck
  ·rfl
 rw [if_pos hck, if_pos hck]
 have ho := order_same hi h hck
 have hbk : (l.take i.toNat).filter (fun x => decide (x.reeve = (at_ l i).reeve)) = bookN l i (at_ l i).reeve := rfl
 rw [hbk]
 by_cases hA : 0 < i ∧ 0 ≤ byRefN ⟨(at_ l (i - 1)).reeve, (at_ l (i - 1)).number⟩ ⟨(at_ l i).reeve, (at_ l i).number⟩
 ·rw [if_pos (ho.2 (.inl hA)), if_pos hA]
 rw [if_neg hA]
 unfold followsN
 by_cases hB : (at_ l i).number = ((bookN l i (at_ l i).reeve).length : Int) + 1
 case neg => rw [if_pos (ho.2 (.inr hB)), if_neg hB]
 rw [if_neg (fun g => (ho.1 g).elim hA (fun g => g hB)), if_pos hB]
 obtain ⟨hf1, hf2⟩ := formOf hck
 obtain ⟨_, _, _, _, _, _, _, _, _, _, _, hk1, hk2, hof⟩ := formN hck
 generalize hp : at_ l i = p at *
 by_cases hc : isCh p
 ·rw [if_pos hc, any_book (twiceR_charge hc)]
  have h45 : p.kind ≠ 4 ∧ p.kind ≠ 5 := by unfold isCh at hc; omega
  rw [if_pos h45]
 rw [if_neg hc]
 have hfind : p.kind = 4 ∨ p.kind = 5 → findB (l.take i.toNat) p.of = true ∧ findP (l.take i.toNat) p.of = at_ (bookN l i p.reeve) (p.of.number - 1) := fun hk => by
  have := find_book (n := n) (l := l) p.of.reeve p.of.number i.toNat (by omega) (by rw [show ((i.toNat : Nat) : Int) = i by omega]; exact h)
  rw [show ((i.toNat : Nat) : Int) = i by omega, hf1 hk] at this
  have hm := hof hk
  rw [if_pos (by omega)] at this
  unfold findB findP
  rw [show p.of = ⟨p.reeve, p.of.number⟩ by rw [← hf1 hk]]
  rw [this]
  exact ⟨rfl, rfl⟩
 by_cases k3 : p.kind = 3
 ·rw [if_pos k3]
  have : (l.take i.toNat).any (twiceR p) = false := by
   rw [List.any_eq_false]; intro x _; rw [twiceR_none hc (fun h4 => by omega)]; decide
  rw [this, if_neg (by decide), if_pos (by omega)]
 rw [if_neg k3]
 have hk45 : p.kind = 4 ∨ p.kind = 5 := by unfold isCh at hc; omega
 obtain ⟨hb1, hb2⟩ := hfind hk45
 rw [hb1, hb2]
 have hcr : (at_ (bookN l i p.reeve) (p.of.number - 1)).reeve = p.reeve := by
  have hm := hof hk45
  have hlt : (p.of.number - 1).toNat < (bookN l i p.reeve).length := by omega
  have hmem : at_ (bookN l i p.reeve) (p.of.number - 1) ∈ bookN l i p.reeve := by
   unfold at_
   rw [List.getD_eq_getElem?_getD, List.getElem?_eq_getElem hlt]
   exact List.getElem_mem hlt
  unfold bookN at hmem
  have := (List.mem_filter.mp hmem).2
  simpa [bookN] using this
 rw [owed_book ⟨hi.1, by omega⟩ h, hcr]
 have hn45 : ¬ (p.kind ≠ 4 ∧ p.kind ≠ 5) := by omega
 have hany : (l.take i.toNat).any (twiceR p) = (decide (¬ (p.by_.reeve = 0 ∧ p.by_.number = 0)) && (bookN l i p.reeve).any (twiceB p)) := by
  by_cases hb : p.by_.reeve = 0 ∧ p.by_.number = 0
  ·rw [decide_eq_false (by simpa using hb), Bool.false_and, List.any_eq_false]
   intro x _; rw [twiceR_none hc (fun _ => hb)]; decide
  ·have h4 : p.kind = 4 := by
    rcases hk45 with h4 | h5
    ·exact h4
    ·exact absurd (hf2 h5) hb
   rw [decide_eq_true hb, Bool.true_and, any_book (twiceR_pay h4 hb)]
 rw [hany, if_neg hn45]
 by_cases hb : p.by_.reeve = 0 ∧ p.by_.number = 0 <;> by_cases ht : (bookN l i p.reeve).any (twiceB p) = true <;> simp [hb, ht]
theorem rrollF_same {n : Int} {l : List Po} : ∀ (k : Nat) (i : Int), 0 ≤ i → i + k = (l.length : Int) → Vd n l i → rrollF n l k i = rollF n l k i
 | 0, _, _, _, _ => rfl
 | k + 1, i, h0, h1, h => by
  rw [rrollF, rollF, step_same ⟨h0, by omega⟩ h]
  by_cases hs : stepN n l i = 0
  ·rw [if_pos hs, if_pos hs]
   refine rrollF_same k (i + 1) (by omega) (by omega) (fun j j0 j1 => ?_)
   by_cases e : j = i
   ·rw [e]; exact hs
   ·exact h j j0 (by omega)
  ·rw [if_neg hs, if_neg hs]
theorem rroll_same (n : Int) (l : List Po) : rrollN n l = rollN n l := by
 unfold rrollN rollN
 split
 ·exact rrollF_same l.length 0 (by omega) (by omega) (fun j h0 h1 => by omega)
 ·rfl
theorem book_mem {l : List Po} {r m : Int} (hm : 1 ≤ m ∧ m ≤ ((bookN l l.length r).length : Int)) : at_ (bookN l l.length r) (m - 1) ∈ l ∧ (at_ (bookN l l.length r) (m - 1)).reeve = r := by
 have hlt : (m - 1).toNat < (bookN l l.length r).length := by omega
 have hmem : at_ (bookN l l.length r) (m - 1) ∈ bookN l l.length r := by
  unfold at_
  rw [List.getD_eq_getElem?_getD, List.getElem?_eq_getElem hlt]
  exact List.getElem_mem hlt
 generalize at_ (bookN l l.length r) (m - 1) = z at hmem ⊢
 unfold bookN at hmem
 obtain ⟨h1, h2⟩ := List.mem_filter.mp hmem
 exact ⟨List.mem_of_mem_take h1, by simpa using h2⟩
theorem owed_same (n : Int) (l : List Po) (x : Rf) : rowedTN n l x = owedTN n l x := by
 unfold rowedTN owedTN
 rw [rroll_same]
 by_cases h : (rollN n l).2 = 0
 case neg => rw [if_neg h, if_neg h]
 rw [if_pos h, if_pos h]
 have hV : Vd n l l.length := fun j h0 h1 => roll_steps h j ⟨h0, h1⟩
 have hbk : booksN n l x.reeve = bookN l l.length x.reeve := by
  unfold booksN endN
  rw [if_pos (roll_many h), if_pos h]
 rw [hbk]
 have hf := find_book (n := n) (l := l) x.reeve x.number l.length (by omega) hV
 rw [List.take_length] at hf
 unfold findB findP
 rw [hf]
 by_cases hm : 1 ≤ x.number ∧ x.number ≤ ((bookN l l.length x.reeve).length : Int)
 ·obtain ⟨hmem, hre⟩ := book_mem hm
  obtain ⟨hn, hr0, hr1, _⟩ := formN (roll_formed h hmem)
  rw [if_pos hm]
  show (if true = true ∧ isCh (at_ (bookN l l.length x.reeve) (x.number - 1)) then (owedN l (at_ (bookN l l.length x.reeve) (x.number - 1)), 0) else (0, 5)) = _
  have ho := owed_book (n := n) (l := l) (i := (l.length : Int)) ⟨by omega, by omega⟩ hV (at_ (bookN l l.length x.reeve) (x.number - 1))
  rw [hre, show ((l.length : Int)).toNat = l.length by omega, List.take_length] at ho
  rw [ho]
  rw [hre] at hr0 hr1
  by_cases hc : isCh (at_ (bookN l l.length x.reeve) (x.number - 1))
  ·rw [if_pos ⟨rfl, hc⟩, if_pos ⟨hr0, by omega, hm.1, hm.2, hc⟩]
  ·rw [if_neg (fun g => hc g.2), if_neg (fun g => hc g.2.2.2.2)]
 ·rw [if_neg hm]
  show (if false = true ∧ _ then _ else (0, 5)) = _
  rw [if_neg (fun g => by cases g.1), if_neg (fun g => hm ⟨g.2.2.1, g.2.2.2.1⟩)]
theorem balance_same {n : Int} {l : List Po} (hl : (l.length : Int) ≤ 40) (acc : Int) : rbalanceN n l acc = balanceN n l acc := by
 unfold rbalanceN balanceN
 rw [rroll_same]
 by_cases h : (rollN n l).2 = 0
 case neg => rw [if_neg h, if_neg h]
 rw [if_pos h, if_pos h]
 by_cases ha : isAccN acc
 ·rw [if_pos ha]
 ·rw [if_neg ha, balance_sum h hl, sum_0 (fun x hx => eff_far (roll_formed h hx) ha)]
theorem books_all {n : Int} {l : List Po} : ∀ (k : Nat), (k : Int) ≤ (l.length : Int) → Vd n l k → bookN l k 0 ++ (bookN l k 1 ++ (bookN l k 2 ++ (bookN l k 3 ++ bookN l k 4))) = l.take k
 | 0, _, _ => rfl
 | k + 1, hk, h => by
  have hs := h (k : Int) (by omega) (by omega)
  obtain ⟨_, hn, hr0, hr1⟩ := reeve_of hs
  have ht := take_succ (l := l) (i := (k : Int)) ⟨by omega, by omega⟩
  rw [show ((k : Int) + 1).toNat = k + 1 by omega, show ((k : Int)).toNat = k by omega] at ht
  have hV : Vd n l (k : Int) := h.less (by omega)
  have hfar : ∀ j : Int, (at_ l (k : Int)).reeve < j → bookN l (k : Int) j = [] := fun j hj => by
   refine book_far (by omega) hV (fun h0 => ?_)
   have := reeve_le h 1 ((k : Int) - 1) (by omega) (by omega)
   rw [show (k : Int) - 1 + ((1 : Nat) : Int) = (k : Int) by omega] at this
   omega
  have hb := fun j => book_succ (l := l) (i := (k : Int)) j ⟨by omega, by omega⟩
  have ih := books_all k (by omega) hV
  rw [show ((k + 1 : Nat) : Int) = (k : Int) + 1 by omega, ht, ← ih, hb 0, hb 1, hb 2, hb 3, hb 4]
  have hr : (at_ l (k : Int)).reeve = 0 ∨ (at_ l (k : Int)).reeve = 1 ∨ (at_ l (k : Int)).reeve = 2 ∨ (at_ l (k : Int)).reeve = 3 ∨ (at_ l (k : Int)).reeve = 4 := by omega
  rcases hr with hr | hr | hr | hr | hr
  ·simp [hr, hfar 1 (by omega), hfar 2 (by omega), hfar 3 (by omega), hfar 4 (by omega)]
  ·simp [hr, hfar 2 (by omega), hfar 3 (by omega), hfar 4 (by omega)]
  ·simp [hr, hfar 3 (by omega), hfar 4 (by omega)]
  ·simp [hr, hfar 4 (by omega)]
  ·simp [hr]
def paysB (x y : Po) : Bool := decide (y.kind = 4 ∧ y.by_.reeve = x.reeve ∧ y.by_.number = x.number)
def openP (n : Int) (l : List Po) (r : Int) (x : Po) : Bool := decide (x.kind = 3 ∧ x.of.reeve = r ∧ (1 ≤ x.of.number ∧ x.of.number ≤ ((booksN n l x.of.reeve).length : Int) ∧ isCh (at_ (booksN n l x.of.reeve) (x.of.number - 1))) ∧ (at_ (booksN n l x.of.reeve) (x.of.number - 1)).owner = x.owner) && !(booksN n l r).any (paysB x)
def openR (l : List Po) (r : Int) (x : Po) : Bool := decide (x.kind = 3 ∧ x.of.reeve = r ∧ findB l x.of = true ∧ isCh (findP l x.of) ∧ (findP l x.of).owner = x.owner) && !l.any (fun y => decide (y.reeve = r) && paysB x y)
theorem open_same {n : Int} {l : List Po} (h : (rollN n l).2 = 0) (r : Int) (x : Po) : openR l r x = openP n l r x := by
 have hV : Vd n l l.length := fun j h0 h1 => roll_steps h j ⟨h0, h1⟩
 have hbk : ∀ j, booksN n l j = bookN l l.length j := fun j => by
  unfold booksN endN
  rw [if_pos (roll_many h), if_pos h]
 unfold openR openP
 have hany : l.any (fun y => decide (y.reeve = r) && paysB x y) = (booksN n l r).any (paysB x) := by
  rw [hbk, ← any_book (l := l) (i := (l.length : Int)) (f := fun y => decide (y.reeve = r) && paysB x y) (fun y => rfl), show ((l.length : Int)).toNat = l.length by omega, List.take_length]
 rw [hany]
 congr 1
 rw [decide_eq_decide]
 have hf := find_book (n := n) (l := l) x.of.reeve x.of.number l.length (by omega) hV
 rw [List.take_length] at hf
 rw [hbk]
 unfold findB findP
 rw [hf]
 by_cases hm : 1 ≤ x.of.number ∧ x.of.number ≤ ((bookN l l.length x.of.reeve).length : Int)
 ·rw [if_pos hm]
  show (x.kind = 3 ∧ x.of.reeve = r ∧ true = true ∧ isCh (at_ (bookN l l.length x.of.reeve) (x.of.number - 1)) ∧ (at_ (bookN l l.length x.of.reeve) (x.of.number - 1)).owner = x.owner) ↔ _
  constructor
  ·rintro ⟨a, b, _, c, d⟩; exact ⟨a, b, ⟨hm.1, hm.2, c⟩, d⟩
  ·rintro ⟨a, b, ⟨_, _, c⟩, d⟩; exact ⟨a, b, rfl, c, d⟩
 ·rw [if_neg hm]
  constructor
  ·rintro ⟨a, b, c, _⟩; cases c
  ·rintro ⟨a, b, ⟨c1, c2, _⟩, _⟩; exact absurd ⟨c1, c2⟩ hm
def refsN (l : List Po) : List Rf := l.map fun p => ⟨p.reeve, p.number⟩
theorem unsettled_same {n : Int} {l : List Po} (h : (rollN n l).2 = 0) (r : Int) :
  refsN (l.filter (openR l r)) = refsN ((booksN n l 0 ++ (booksN n l 1 ++ (booksN n l 2 ++ (booksN n l 3 ++ booksN n l 4)))).filter (openP n l r)) := by
 have hV : Vd n l l.length := fun j h0 h1 => roll_steps h j ⟨h0, h1⟩
 have hbk : ∀ j, booksN n l j = bookN l l.length j := fun j => by
  unfold booksN endN
  rw [if_pos (roll_many h), if_pos h]
 rw [hbk 0, hbk 1, hbk 2, hbk 3, hbk 4, books_all l.length (by omega) hV, List.take_length]
 congr 1
 exact List.filter_congr (fun x _ => open_same h r x)
end Go.Proofs.YtocabeobfbhajaaGreatDoor.Sx
end
section
namespace Go.Proofs.YtocabeobfbhajaaGreatDoor.Sx
open Go Go.Proofs.YtocabeobfbhajaaGreatDoor
def LenR (L : Int → List Po) : Prop := ∀ i : Int, 0 ≤ i ∧ i < 5 → ((L i).length : Int) ≤ 1000
def row5 (a b c d e : List Po) (i : Int) : List Po := [a, b, c, d, e].getD i.toNat []
def inBk (L : Int → List Po) (x : Rf) : Prop := (0 ≤ x.reeve ∧ x.reeve ≤ 4) ∧ 1 ≤ x.number ∧ x.number ≤ ((L x.reeve).length : Int)
instance (L : Int → List Po) (x : Rf) : Decidable (inBk L x) := by unfold inBk; infer_instance
def chargeP (L : Int → List Po) (x : Rf) : Po := if inBk L x then at_ (L x.reeve) (x.number - 1) else zeroPo
def chargeB (L : Int → List Po) (x : Rf) : Bool := decide (inBk L x ∧ isCh (at_ (L x.reeve) (x.number - 1)))
def keepP (L : Int → List Po) (r : Int) (x : Po) : Bool := decide (x.kind = 3 ∧ x.of.reeve = r ∧ chargeB L x.of = true ∧ (chargeP L x.of).owner = x.owner) && !(L r).any (paysB x)
def allN (L : Int → List Po) : List Po := L 0 ++ (L 1 ++ (L 2 ++ (L 3 ++ L 4)))
theorem allN_le {L : Int → List Po} (h : LenR L) : ((allN L).length : Int) ≤ 5000 := by
 unfold allN
 have h0 := h 0 (by omega)
 have h1 := h 1 (by omega)
 have h2 := h 2 (by omega)
 have h3 := h 3 (by omega)
 have h4 := h 4 (by omega)
 simp only [List.length_append]
 omega
def unsetN (L : Int → List Po) (r : Int) : List Po := if 0 ≤ r ∧ r ≤ 4 then (allN L).filter (keepP L r) else []
theorem unsetN_le {a b c d e : List Po} (h : ((a.length : Nat) : Int) ≤ 1000 ∧ ((b.length : Nat) : Int) ≤ 1000 ∧ ((c.length : Nat) : Int) ≤ 1000 ∧ ((d.length : Nat) : Int) ≤ 1000 ∧ ((e.length : Nat) : Int) ≤ 1000) (r : Int) : ((unsetN (row5 a b c d e) r).length : Int) ≤ 5000 := by
 have h1 : (allN (row5 a b c d e)).length = a.length + (b.length + (c.length + (d.length + e.length))) := by
  show (a ++ (b ++ (c ++ (d ++ e)))).length = _
  simp only [List.length_append]
 unfold unsetN
 split
 ·have := List.length_filter_le (keepP (row5 a b c d e) r) (allN (row5 a b c d e))
  omega
 ·simp
def unsetTN (n : Int) (l : List Po) (r : Int) : List Rf := if (rollN n l).2 = 0 then refsN (unsetN (row5 (booksN n l 0) (booksN n l 1) (booksN n l 2) (booksN n l 3) (booksN n l 4)) r) else []
def runsetTN (n : Int) (l : List Po) (r : Int) : List Rf := if (rollN n l).2 = 0 then refsN (l.filter (openR l r)) else []
theorem row_books (n : Int) (l : List Po) {i : Int} (h : 0 ≤ i ∧ i ≤ 4) : row5 (booksN n l 0) (booksN n l 1) (booksN n l 2) (booksN n l 3) (booksN n l 4) i = booksN n l i := by
 have : i = 0 ∨ i = 1 ∨ i = 2 ∨ i = 3 ∨ i = 4 := by omega
 rcases this with rfl | rfl | rfl | rfl | rfl <;> rfl
theorem keep_open {n : Int} {l : List Po} {r : Int} (h : 0 ≤ r ∧ r ≤ 4) (x : Po) : keepP (row5 (booksN n l 0) (booksN n l 1) (booksN n l 2) (booksN n l 3) (booksN n l 4)) r x = openP n l r x := by
 unfold keepP openP
 rw [row_books n l h]
 congr 1
 rw [decide_eq_decide]
 unfold chargeB chargeP
 constructor
 ·rintro ⟨h1, h2, h3, h4⟩
  rw [decide_eq_true_eq] at h3
  obtain ⟨hin, h7⟩ := h3
  rw [if_pos hin] at h4
  obtain ⟨h5, h6⟩ := hin
  rw [row_books n l h5] at h4 h6 h7
  exact ⟨h1, h2, ⟨h6.1, h6.2, h7⟩, h4⟩
 ·rintro ⟨h1, h2, ⟨h3, h4, h5⟩, h6⟩
  have hr : 0 ≤ x.of.reeve ∧ x.of.reeve ≤ 4 := by rw [h2]; exact h
  have hin : inBk (row5 (booksN n l 0) (booksN n l 1) (booksN n l 2) (booksN n l 3) (booksN n l 4)) x.of := ⟨hr, by rw [row_books n l hr]; exact ⟨h3, h4⟩⟩
  refine ⟨h1, h2, ?_, ?_⟩
  ·rw [decide_eq_true_eq]
   exact ⟨hin, by rw [row_books n l hr]; exact h5⟩
  ·rw [if_pos hin, row_books n l hr]
   exact h6
theorem open_out {n : Int} {l : List Po} {r : Int} (h : (rollN n l).2 = 0) (hr : ¬ (0 ≤ r ∧ r ≤ 4)) (x : Po) : openP n l r x = false := by
 have hbk : booksN n l r = bookN l l.length r := by
  unfold booksN endN
  rw [if_pos (roll_many h), if_pos h]
 unfold openP
 rw [Bool.and_eq_false_iff]
 left
 rw [decide_eq_false_iff_not]
 rintro ⟨_, h2, ⟨h3, h4, _⟩, _⟩
 rw [h2, hbk] at h4
 obtain ⟨hm, he⟩ := book_mem ⟨h3, h4⟩
 obtain ⟨hn, hr0, hr1, _⟩ := formN (roll_formed h hm)
 rw [he] at hr0 hr1
 omega
theorem unsetT_same (n : Int) (l : List Po) (r : Int) : unsetTN n l r = runsetTN n l r := by
 unfold unsetTN runsetTN
 by_cases h : (rollN n l).2 = 0
 case neg => rw [if_neg h, if_neg h]
 rw [if_pos h, if_pos h, unsettled_same h]
 unfold unsetN
 by_cases hr : 0 ≤ r ∧ r ≤ 4
 ·unfold allN
  rw [if_pos hr, row_books n l (by omega), row_books n l (by omega), row_books n l (by omega), row_books n l (by omega), row_books n l (by omega)]
  congr 1
  exact List.filter_congr (fun x _ => keep_open hr x)
 ·rw [if_neg hr]
  congr 1
  symm
  rw [List.filter_eq_nil_iff]
  intro x _
  rw [open_out h hr]
  decide
theorem refs_len (l : List Po) (f : Po → Bool) : (refsN (l.filter f)).length ≤ l.length := by
 unfold refsN
 rw [List.length_map]
 exact List.length_filter_le _ _
theorem runsetTN_le (n : Int) (l : List Po) (r : Int) : (((runsetTN n l r).length : Nat) : Int) ≤ ((l.length : Nat) : Int) := by
 unfold runsetTN
 split
 ·exact Int.ofNat_le.2 (refs_len _ _)
 ·exact Int.ofNat_le.2 (Nat.zero_le _)
theorem unsetTN_le (n : Int) (l : List Po) (r : Int) : (((unsetTN n l r).length : Nat) : Int) ≤ ((l.length : Nat) : Int) := by
 rw [unsetT_same]; exact runsetTN_le n l r
end Go.Proofs.YtocabeobfbhajaaGreatDoor.Sx
end
section
set_option maxRecDepth 100000
set_option maxHeartbeats 0
namespace Go.Proofs.YtocabeobfbhajaaGreatDoor.Sx
open Go Go.Proofs Go.Proofs.YtocabeobfbhajaaGreatDoor Go.Proofs.YtocabeobfbhajaaGreatDoor.Sx
structure pO_A where
 a_l : Option Addr
 b_l : Nat
 o_l : Nat
 κ_l : Nat
 l : List Po
 c : Po
def pO_L0_H : Head := (⟨[(0, 1), (1, .agg [2, 3, 4, 5, 6, 7, 8, 9, 10, 11, 12]), (3, .ptr 8 0), (4, .int .i64 0), (5, 14), (8, .ptr 8 10), (9, 12), (10, 1), (11, 13), (12, 15)], [(8, .cells [2, 3, 4, 5, 6, 7, 8, 9, 10, 11, 12] 0 0)], 9, 9, 0, 0, 14, 16⟩ : Head)
def pO_L0_R : Rn := ⟨9, [], 0, [], 14, [12, .int .i64 0]⟩
def pO_L0_B  (A : pO_A) (w : World) (R : List Value) : List Value := .agg #[] :: .slice A.a_l A.l.length A.κ_l :: poV A.c ++ .int .i64 (A.l.length : Int) :: R
def pO_L0_X0 : Head := (⟨[(0, 1), (1, .agg [2, 3, 4, 5, 6, 7, 8, 9, 10, 11, 12]), (3, .ptr 8 0), (4, .int .i64 0), (5, 14), (8, .ptr 8 10), (9, 12), (10, 1)], [(8, .cells [2, 3, 4, 5, 6, 7, 8, 9, 10, 11, 12] 0 0)], 9, 9, 0, 0, 14, 15⟩ : Head)
def pO_L0  (A : pO_A) (w : World) : Nat → Int → Int → Option (Nat × Int × Unit)
 | 0, _, _ => none
 | fu_ + 1, v00, v01 => (if v01 < (A.l.length : Int) then (if (at_ A.l v01).kind = 4 then (if (at_ A.l v01).of.reeve = A.c.reeve then (if (at_ A.l v01).of.number = A.c.number then pO_L0 A w fu_ ((IntKind.wrap .i64 (v00 - (at_ A.l v01).amount))) (v01 + 1) else pO_L0 A w fu_ v00 (v01 + 1)) else pO_L0 A w fu_ v00 (v01 + 1)) else (if (at_ A.l v01).kind = 5 then (if (at_ A.l v01).of.reeve = A.c.reeve then (if (at_ A.l v01).of.number = A.c.number then pO_L0 A w fu_ ((IntKind.wrap .i64 (v00 - (at_ A.l v01).amount))) (v01 + 1) else pO_L0 A w fu_ v00 (v01 + 1)) else pO_L0 A w fu_ v00 (v01 + 1)) else pO_L0 A w fu_ v00 (v01 + 1))) else some (0, v00, ()))
def pO_r  (A : pO_A) (w : World) : Int := (match pO_L0 A w ((((A.l.length : Int) - 0) : Int).toNat + 1) A.c.amount 0 with | some (0, x0_00, _) => (max x0_00 0) | _ => default)
theorem pO_any  (A : pO_A) (w : World) (H_l : LstAt poC w A.a_l A.b_l A.o_l A.l) (h0 : (A.l.length : Int) ≤ (A.κ_l : Int)) (h1 : (A.l.length : Int) ≤ 1000) : Calls Tryz.prog 100 #[.slice A.a_l A.l.length A.κ_l, A.c.val] w fun e w' => e = .returned (.int .i64 (pO_r A w)) ∧ Chg (fun _ => False) w w' := by
 unfold pO_r
 refine wGo (E := E0) (n := 8) (w := w) (L := id) ?_
 refine wS (.agg #[] :: .slice A.a_l A.l.length A.κ_l :: poV A.c ++ I (A.l.length : Int) :: []) (wN 38 1 13 ?_)
 refine wK (K := ∀ (fu_ : Nat) (v00 : Int) (v01 : Int), (0 ≤ v01 ∧ v01 ≤ (A.l.length : Int)) → (((A.l.length : Int) - v01) : Int) < fu_ → ∃ o, pO_L0 A w fu_ v00 v01 = some o ∧ RdsD Tryz.prog 8 100 3 w pO_L0_H (pO_L0_B A w [.int .i64 v00, .int .i64 v01]) fu_ [(o.1 = 0 ∧ True, pO_L0_X0, pO_L0_B A w [.int .i64 o.2.1], (.exit 0))]) (fun hq hc hm hp fu_ => ?_) (fun key2 => ?_)
 ·induction fu_ with
  | zero => intro v00 v01 _ hz; exfalso; omega
  | succ fu_ ih =>
   intro v00 v01 h2 hz
   rw [pO_L0]
   refine wB hq hc hm hp ?_
   refine wS (I v00 :: I v01 :: []) ?_
   split <;> rename_i h3
   ·refine wS (.pointer (some ⟨A.b_l, A.o_l + (v01 : Int).toNat * 11, none⟩) :: poV (at_ A.l v01) ++ []) (wT .lss 15 13 h3 (wX 38 1 15 16 H_l 11 v01 (wR 25 16 [17, 18, 19, 20, 21, 22, 23, 24, 25, 26, 27] H_l v01 ?_)))
    split <;> rename_i h4
    ·refine wT .eql 20 (.int .u8 4) h4 ?_
     split <;> rename_i h5
     ·refine wU 23 2 h5 ?_
      split <;> rename_i h6
      ·refine wS (I ((IntKind.wrap .i64 (v00 - (at_ A.l v01).amount))) :: I (v01 + 1) :: []) (wU 24 3 h6 (wE (⟨tagB .sub, [14, 27], 28⟩) (fun _ => q_sub rfl rfl rfl) (wA 15 (J 1) 29 ?_)))
       exact wQ (rnG (ih ((IntKind.wrap .i64 (v00 - (at_ A.l v01).amount))) (v01 + 1) (by omega) (by omega))) 16 ⟨9, [], 0, [], 14, [28, 29]⟩ [] ⟨rfl, rfl, trivial⟩
      ·refine wS (I (v01 + 1) :: []) (wV 24 3 h6 (wA 15 (J 1) 28 ?_))
       exact wQ (rnG (ih v00 (v01 + 1) (by omega) (by omega))) 16 ⟨9, [], 0, [], 14, [14, 28]⟩ [] ⟨rfl, rfl, trivial⟩
     ·refine wS (I (v01 + 1) :: []) (wV 23 2 h5 (wA 15 (J 1) 28 ?_))
      exact wQ (rnG (ih v00 (v01 + 1) (by omega) (by omega))) 16 ⟨9, [], 0, [], 14, [14, 28]⟩ [] ⟨rfl, rfl, trivial⟩
    ·refine wF .eql 20 (.int .u8 4) h4 ?_
     split <;> rename_i h5
     ·refine wT .eql 20 (.int .u8 5) h5 ?_
      split <;> rename_i h6
      ·refine wU 23 2 h6 ?_
       split <;> rename_i h7
       ·refine wS (I ((IntKind.wrap .i64 (v00 - (at_ A.l v01).amount))) :: I (v01 + 1) :: []) (wU 24 3 h7 (wE (⟨tagB .sub, [14, 27], 28⟩) (fun _ => q_sub rfl rfl rfl) (wA 15 (J 1) 29 ?_)))
        exact wQ (rnG (ih ((IntKind.wrap .i64 (v00 - (at_ A.l v01).amount))) (v01 + 1) (by omega) (by omega))) 16 ⟨9, [], 0, [], 14, [28, 29]⟩ [] ⟨rfl, rfl, trivial⟩
       ·refine wS (I (v01 + 1) :: []) (wV 24 3 h7 (wA 15 (J 1) 28 ?_))
        exact wQ (rnG (ih v00 (v01 + 1) (by omega) (by omega))) 16 ⟨9, [], 0, [], 14, [14, 28]⟩ [] ⟨rfl, rfl, trivial⟩
      ·refine wS (I (v01 + 1) :: []) (wV 23 2 h6 (wA 15 (J 1) 28 ?_))
       exact wQ (rnG (ih v00 (v01 + 1) (by omega) (by omega))) 16 ⟨9, [], 0, [], 14, [14, 28]⟩ [] ⟨rfl, rfl, trivial⟩
     ·refine wS (I (v01 + 1) :: []) (wF .eql 20 (.int .u8 5) h5 (wA 15 (J 1) 28 ?_))
      exact wQ (rnG (ih v00 (v01 + 1) (by omega) (by omega))) 16 ⟨9, [], 0, [], 14, [14, 28]⟩ [] ⟨rfl, rfl, trivial⟩
   ·refine wF .lss 15 13 h3 ?_
    exact wQ (fun hr => ⟨(0, v00, ()), rfl, ⟨⟨rfl, trivial⟩, rndEnd xeE hr⟩⟩) 16 ⟨9, [], 0, [], 14, [14]⟩ [] ⟨rfl, trivial⟩
 obtain ⟨⟨q2, x0_00, _⟩, h2, hk2⟩ := key2 ((((A.l.length : Int) - 0) : Int).toNat + 1) A.c.amount 0 (by first | trivial | omega | (simp; omega)) (by first | omega | (simp; omega))
 rw [h2]
 rcases hk2 with ⟨⟨he2, h3⟩, hr2⟩
 ·have he2 : q2 = 0 := he2
  subst he2
  refine wS (I x0_00 :: []) ?_
  refine wLp (x := (.exit 0)) rfl hr2 pO_L0_R [] (fun _ => rfl) (by kernel_rfl) (fun _ => rfl) (fun _ => ⟨rfl, rfl, trivial⟩) (fun _ => rfl) ?_
  refine wS (I (max x0_00 0) :: []) (wE (⟨6200000000, [14, J 0], 15⟩) (fun _ => q_max rfl rfl rfl) ?_)
  exact wZ 15 [1, .agg [2, 3, 4, 5, 6, 7, 8, 9, 10, 11, 12]]
theorem pO_L0_n (A : pO_A) (w : World) : ∀ (n : Nat) (v i : Int), (0 ≤ i ∧ i ≤ (A.l.length : Int)) → (A.l.length : Int) - i < n → pO_L0 A w n v i = some (0, (A.l.drop i.toNat).foldl (owedF A.c) v, ()) := by
 intro n
 induction n with
 | zero => intros; omega
 | succ n ih =>
  intro v i h0 hm
  rw [pO_L0]
  by_cases hi : i < (A.l.length : Int)
  ·have e := fun v => ih v (i + 1) (by omega) (by omega)
   rw [if_pos hi, drop_at ⟨h0.1, hi⟩, List.foldl_cons]
   simp only [e, owedF]
   repeat' split
   all_goals first | rfl | (exfalso; simp_all; done)
  ·rw [if_neg hi, drop_end hi]; rfl
theorem pOwed_r_n (A : pO_A) (w : World) : pO_r A w = owedN A.l A.c := by
 unfold pO_r owedN
 rw [pO_L0_n _ _ _ _ _ (by omega) (by omega)]
 rfl
theorem pOwed_n {a_l : Option Addr} {b_l o_l κ_l : Nat} {l : List Po} {w : World} (H : LstAt poC w a_l b_l o_l l) (h0 : l.length ≤ κ_l) (h1 : (l.length : Int) ≤ 1000) (c : Po) : Calls Tryz.prog 100 #[.slice a_l l.length κ_l, c.val] w fun e w' => e = .returned (.int .i64 (owedN l c)) ∧ Chg (fun _ => False) w w' := by
 have := pO_any ⟨a_l, b_l, o_l, κ_l, l, c⟩ w H (by show (l.length : Int) ≤ (κ_l : Int); omega) h1
 rw [pOwed_r_n] at this
 exact this
structure pF_A where
 a_l : Option Addr
 b_l : Nat
 o_l : Nat
 κ_l : Nat
 l : List Po
 p : Po
def pF_L0_H : Head := (⟨[(0, 1), (1, .fn (.func 245) [] [.ptr 8 0]), (4, .int .i64 0), (6, 1), (7, 13), (8, 15)], [(8, .cells [2, 3, 4, 5, 6, 7, 8, 9, 10, 11, 12] 0 0)], 9, 9, 0, 0, 15, 16⟩ : Head)
def pF_L0_R : Rn := ⟨9, [], 0, [], 15, [.int .i64 0]⟩
def pF_L0_B  (A : pF_A) (w : World) (R : List Value) : List Value := .agg #[] :: .slice A.a_l A.l.length A.κ_l :: poV A.p ++ .int .i64 (A.l.length : Int) :: .int .i64 (((A.l.length : Int) + 1)) :: R
def pF_L0_X0 : Head := (⟨[(0, 1), (4, 15), (6, 1)], [(8, .cells [2, 3, 4, 5, 6, 7, 8, 9, 10, 11, 12] 0 0)], 9, 9, 0, 0, 15, 16⟩ : Head)
def pF_L0_X1 : Head := (⟨[(0, 1), (4, .int .i64 0), (6, 1)], [(8, .cells [2, 3, 4, 5, 6, 7, 8, 9, 10, 11, 12] 0 0)], 9, 9, 0, 0, 15, 15⟩ : Head)
def pF_L0  (A : pF_A) (w : World) : Nat → Int → Option (Nat × Int × Unit)
 | 0, _ => none
 | fu_ + 1, v00 => (if v00 < (A.l.length : Int) then (if (at_ A.l v00).kind = A.p.kind then (if (at_ A.l v00).cse = A.p.cse then some (0, v00, ()) else pF_L0 A w fu_ (v00 + 1)) else pF_L0 A w fu_ (v00 + 1)) else some (1, default, ()))
def pF_L1_H : Head := (⟨[(0, 1), (1, .fn (.func 246) [] [.ptr 8 0]), (4, .int .i64 0), (6, 1), (7, 13), (8, 15)], [(8, .cells [2, 3, 4, 5, 6, 7, 8, 9, 10, 11, 12] 0 0)], 9, 9, 0, 0, 15, 16⟩ : Head)
def pF_L1_R : Rn := ⟨9, [], 0, [], 15, [.int .i64 0]⟩
def pF_L1_B  (A : pF_A) (w : World) (R : List Value) : List Value := .agg #[] :: .slice A.a_l A.l.length A.κ_l :: poV A.p ++ .int .i64 (A.l.length : Int) :: .int .i64 (((A.l.length : Int) + 1)) :: R
def pF_L1_X0 : Head := (⟨[(0, 1), (4, 15), (6, 1)], [(8, .cells [2, 3, 4, 5, 6, 7, 8, 9, 10, 11, 12] 0 0)], 9, 9, 0, 0, 15, 16⟩ : Head)
def pF_L1_X1 : Head := (⟨[(0, 1), (4, .int .i64 0), (6, 1)], [(8, .cells [2, 3, 4, 5, 6, 7, 8, 9, 10, 11, 12] 0 0)], 9, 9, 0, 0, 15, 15⟩ : Head)
def pF_L1  (A : pF_A) (w : World) : Nat → Int → Option (Nat × Int × Unit)
 | 0, _ => none
 | fu_ + 1, v10 => (if v10 < (A.l.length : Int) then (if (at_ A.l v10).kind = 4 then (if (at_ A.l v10).by_.reeve = A.p.by_.reeve then (if (at_ A.l v10).by_.number = A.p.by_.number then some (0, v10, ()) else pF_L1 A w fu_ (v10 + 1)) else pF_L1 A w fu_ (v10 + 1)) else pF_L1 A w fu_ (v10 + 1)) else some (1, default, ()))
def pF_L2_H : Head := (⟨[(0, 1), (1, .fn (.func 246) [] [.ptr 8 0]), (4, .int .i64 0), (6, 1), (7, 13), (8, 15)], [(8, .cells [2, 3, 4, 5, 6, 7, 8, 9, 10, 11, 12] 0 0)], 9, 9, 0, 0, 15, 16⟩ : Head)
def pF_L2_R : Rn := ⟨9, [], 0, [], 15, [.int .i64 0]⟩
def pF_L2_B  (A : pF_A) (w : World) (R : List Value) : List Value := .agg #[] :: .slice A.a_l A.l.length A.κ_l :: poV A.p ++ .int .i64 (A.l.length : Int) :: .int .i64 (((A.l.length : Int) + 1)) :: R
def pF_L2_X0 : Head := (⟨[(0, 1), (4, 15), (6, 1)], [(8, .cells [2, 3, 4, 5, 6, 7, 8, 9, 10, 11, 12] 0 0)], 9, 9, 0, 0, 15, 16⟩ : Head)
def pF_L2_X1 : Head := (⟨[(0, 1), (4, .int .i64 0), (6, 1)], [(8, .cells [2, 3, 4, 5, 6, 7, 8, 9, 10, 11, 12] 0 0)], 9, 9, 0, 0, 15, 15⟩ : Head)
def pF_L2  (A : pF_A) (w : World) : Nat → Int → Option (Nat × Int × Unit)
 | 0, _ => none
 | fu_ + 1, v20 => (if v20 < (A.l.length : Int) then (if (at_ A.l v20).kind = 4 then (if (at_ A.l v20).by_.reeve = A.p.by_.reeve then (if (at_ A.l v20).by_.number = A.p.by_.number then some (0, v20, ()) else pF_L2 A w fu_ (v20 + 1)) else pF_L2 A w fu_ (v20 + 1)) else pF_L2 A w fu_ (v20 + 1)) else some (1, default, ()))
def pF_r  (A : pF_A) (w : World) : Int := (if A.p.number = ((A.l.length : Int) + 1) then (if (A.p).kind = 1 ∨ (A.p).kind = 2 then (match pF_L0 A w ((((A.l.length : Int) - 0) : Int).toNat + 1) 0 with | some (0, x0_00, _) => 6 | some (1, x0_00, _) => 0 | _ => default) else (if A.p.kind = 3 then 0 else (if A.p.by_.reeve = 0 then (if A.p.by_.number = 0 then (if (at_ A.l (A.p.of.number - 1)).kind = 1 ∨ (at_ A.l (A.p.of.number - 1)).kind = 2 then (if (at_ A.l (A.p.of.number - 1)).owner = A.p.owner then (if (owedN A.l (at_ A.l (A.p.of.number - 1))) < A.p.amount then 8 else 0) else 5) else 5) else (match pF_L1 A w ((((A.l.length : Int) - 0) : Int).toNat + 1) 0 with | some (0, x1_00, _) => 6 | some (1, x1_00, _) => (if (at_ A.l (A.p.of.number - 1)).kind = 1 ∨ (at_ A.l (A.p.of.number - 1)).kind = 2 then (if (at_ A.l (A.p.of.number - 1)).owner = A.p.owner then 0 else 5) else 5) | _ => default)) else (match pF_L2 A w ((((A.l.length : Int) - 0) : Int).toNat + 1) 0 with | some (0, x2_00, _) => 6 | some (1, x2_00, _) => (if (at_ A.l (A.p.of.number - 1)).kind = 1 ∨ (at_ A.l (A.p.of.number - 1)).kind = 2 then (if (at_ A.l (A.p.of.number - 1)).owner = A.p.owner then 0 else 5) else 5) | _ => default)))) else 8)
theorem pF_any  (A : pF_A) (w : World) (H_l : LstAt poC w A.a_l A.b_l A.o_l A.l) (h0 : (A.l.length : Int) ≤ (A.κ_l : Int)) (h1 : (A.l.length : Int) ≤ 1000) (h2 : (A.p.kind = 4 ∨ A.p.kind = 5) → 1 ≤ A.p.of.number ∧ A.p.of.number < A.p.number) (h3 : 1 ≤ A.p.kind ∧ A.p.kind ≤ 5) : Calls Tryz.prog 190 #[.slice A.a_l A.l.length A.κ_l, A.p.val] w fun e w' => e = .returned (.int .i64 (pF_r A w)) ∧ Chg (fun _ => False) w w' := by
 unfold pF_r
 refine wGo (E := E0) (n := 8) (w := w) (L := id) ?_
 refine wS (.agg #[] :: .slice A.a_l A.l.length A.κ_l :: poV A.p ++ I (A.l.length : Int) :: I (((A.l.length : Int) + 1)) :: []) (wN 38 1 13 (wA 13 (J 1) 14 ?_))
 by_cases h4 : A.p.number = ((A.l.length : Int) + 1)
 ·rw [if_pos h4]
  refine wF .neq 3 14 (fun h => h h4) ?_
  by_cases h5 : (A.p).kind = 1 ∨ (A.p).kind = 2
  ·rw [if_pos h5]
   refine wC (⟨112, [.tup [.agg [2, 3, 4, 5, 6, 7, 8, 9, 10, 11, 12]], .tup []], (.bool true)⟩) (fun _ => q_cV (h := fun w hw => by have hb := decide_eq_true h5; rw [← hb]; exact pCharge_n _ _)) ?_
   refine wK (K := ∀ (fu_ : Nat) (v00 : Int), (0 ≤ v00 ∧ v00 ≤ (A.l.length : Int)) → (((A.l.length : Int) - v00) : Int) < fu_ → ∃ o, pF_L0 A w fu_ v00 = some o ∧ RdsD Tryz.prog 8 202 2 w pF_L0_H (pF_L0_B A w [.int .i64 v00]) fu_ [(o.1 = 0 ∧ (0 ≤ o.2.1 ∧ o.2.1 < (A.l.length : Int) ∧ o.2.1 ≤ (A.l.length : Int)), pF_L0_X0, pF_L0_B A w [.int .i64 o.2.1], .ret), (o.1 = 1 ∧ True, pF_L0_X1, pF_L0_B A w [], (.exit 0))]) (fun hq hc hm hp fu_ => ?_) (fun key6 => ?_)
   ·induction fu_ with
    | zero => intro v00 _ hz; exfalso; omega
    | succ fu_ ih =>
     intro v00 h6 hz
     rw [pF_L0]
     refine wB hq hc hm hp ?_
     refine wS (I v00 :: []) ?_
     by_cases h7 : v00 < (A.l.length : Int)
     ·rw [if_pos h7]
      refine wS (.pointer (some ⟨A.b_l, A.o_l + (v00 : Int).toNat * 11, none⟩) :: poV (at_ A.l v00) ++ []) (wT .lss 15 13 h7 (wX 38 1 15 16 H_l 11 v00 (wR 25 16 [17, 18, 19, 20, 21, 22, 23, 24, 25, 26, 27] H_l v00 ?_)))
      by_cases h8 : (at_ A.l v00).kind = A.p.kind
      ·rw [if_pos h8]
       refine wT .eql 20 5 h8 ?_
       by_cases h9 : (at_ A.l v00).cse = A.p.cse
       ·rw [if_pos h9]
        refine wT .eql 21 6 h9 ?_
        exact wQ (fun hr => ⟨(0, v00, ()), rfl, Or.inl ⟨⟨rfl, (by first | trivial | omega | (simp; omega))⟩, rndEnd xeR hr⟩⟩) 16 ⟨9, [], 0, [], 15, [15]⟩ [] ⟨rfl, trivial⟩
       ·rw [if_neg h9]
        refine wS (I (v00 + 1) :: []) (wF .eql 21 6 h9 (wA 15 (J 1) 28 ?_))
        exact wQ (rnG (ih (v00 + 1) (by omega) (by omega))) 16 ⟨9, [], 0, [], 15, [28]⟩ [] ⟨rfl, trivial⟩
      ·rw [if_neg h8]
       refine wS (I (v00 + 1) :: []) (wF .eql 20 5 h8 (wA 15 (J 1) 28 ?_))
       exact wQ (rnG (ih (v00 + 1) (by omega) (by omega))) 16 ⟨9, [], 0, [], 15, [28]⟩ [] ⟨rfl, trivial⟩
     ·rw [if_neg h7]
      refine wF .lss 15 13 h7 ?_
      exact wQ (fun hr => ⟨(1, default, ()), rfl, Or.inr (⟨⟨rfl, trivial⟩, rndEnd xeE hr⟩)⟩) 16 ⟨9, [], 0, [], 15, []⟩ [] trivial
   obtain ⟨⟨q6, x0_00, _⟩, h6, hk6⟩ := key6 ((((A.l.length : Int) - 0) : Int).toNat + 1) 0 (by first | trivial | omega | (simp; omega)) (by first | omega | (simp; omega))
   rw [h6]
   rcases hk6 with ⟨⟨he6, h7⟩, hr6⟩ | ⟨⟨he6, h7⟩, hr6⟩
   ·have he6 : q6 = 0 := he6
    subst he6
    have h7 : 0 ≤ x0_00 ∧ x0_00 < (A.l.length : Int) ∧ x0_00 ≤ (A.l.length : Int) := h7
    refine wS (I x0_00 :: []) ?_
    refine wLp (x := .ret) rfl hr6 pF_L0_R [] (fun _ => rfl) (by kernel_rfl) (fun _ => rfl) (fun _ => ⟨rfl, trivial⟩) (fun _ => rfl) ?_
    refine wT .geq 15 (J 0) (show 0 ≤ x0_00 by omega) ?_
    exact wZ (.int .i64 6) [1, .agg [2, 3, 4, 5, 6, 7, 8, 9, 10, 11, 12]]
   ·have he6 : q6 = 1 := he6
    subst he6
    refine wLp (x := (.exit 0)) rfl hr6 pF_L0_R [] (fun _ => rfl) (by kernel_rfl) (fun _ => rfl) (fun _ => ⟨rfl, trivial⟩) (fun _ => rfl) ?_
    exact wZ (.int .i64 0) [1, .agg [2, 3, 4, 5, 6, 7, 8, 9, 10, 11, 12]]
  ·rw [if_neg h5]
   refine wC (⟨112, [.tup [.agg [2, 3, 4, 5, 6, 7, 8, 9, 10, 11, 12]], .tup []], (.bool false)⟩) (fun _ => q_cV (h := fun w hw => by have hb := decide_eq_false h5; rw [← hb]; exact pCharge_n _ _)) ?_
   by_cases h6 : A.p.kind = 3
   ·rw [if_pos h6]
    refine wT .eql 5 (.int .u8 3) h6 ?_
    exact wZ (.int .i64 0) [1, .agg [2, 3, 4, 5, 6, 7, 8, 9, 10, 11, 12]]
   ·rw [if_neg h6]
    refine wF .eql 5 (.int .u8 3) h6 ?_
    by_cases h7 : A.p.by_.reeve = 0
    ·rw [if_pos h7]
     refine wU 10 (J 0) h7 ?_
     by_cases h8 : A.p.by_.number = 0
     ·rw [if_pos h8]
      refine wS (I (A.p.of.number - 1) :: .pointer (some ⟨A.b_l, A.o_l + ((A.p.of.number - 1) : Int).toNat * 11, none⟩) :: poV (at_ A.l (A.p.of.number - 1)) ++ []) (wU 11 (J 0) h8 (wD 9 (J 1) 15 (wX 38 1 15 16 H_l 11 (A.p.of.number - 1) (wR 25 16 [17, 18, 19, 20, 21, 22, 23, 24, 25, 26, 27] H_l (A.p.of.number - 1) ?_))))
      by_cases h9 : (at_ A.l (A.p.of.number - 1)).kind = 1 ∨ (at_ A.l (A.p.of.number - 1)).kind = 2
      ·rw [if_pos h9]
       refine wC (⟨112, [.tup [.agg [17, 18, 19, 20, 21, 22, 23, 24, 25, 26, 27]], .tup []], (.bool true)⟩) (fun _ => q_cV (h := fun w hw => by have hb := decide_eq_true h9; rw [← hb]; exact pCharge_n _ _)) ?_
       by_cases h10 : (at_ A.l (A.p.of.number - 1)).owner = A.p.owner
       ·rw [if_pos h10]
        have h11 : 0 ≤ owedN A.l (at_ A.l (A.p.of.number - 1)) := owedN_nn _ _
        refine wS (I ((owedN A.l (at_ A.l (A.p.of.number - 1)))) :: []) (wF .neq 22 7 (fun h => h h10) (wC (⟨100, [.tup [1, .agg [17, 18, 19, 20, 21, 22, 23, 24, 25, 26, 27]], .tup []], 28⟩) (fun _ => q_cV (h := fun w hw => by exact pOwed_n (LstAt.old H_l hw) (by omega) (by omega) _)) ?_))
        by_cases h12 : (owedN A.l (at_ A.l (A.p.of.number - 1))) < A.p.amount
        ·rw [if_pos h12]
         refine wT .gtr 12 28 h12 ?_
         exact wZ (.int .i64 8) [1, .agg [2, 3, 4, 5, 6, 7, 8, 9, 10, 11, 12]]
        ·rw [if_neg h12]
         refine wF .gtr 12 28 h12 ?_
         exact wZ (.int .i64 0) [1, .agg [2, 3, 4, 5, 6, 7, 8, 9, 10, 11, 12]]
       ·rw [if_neg h10]
        refine wT .neq 22 7 h10 ?_
        exact wZ (.int .i64 5) [1, .agg [2, 3, 4, 5, 6, 7, 8, 9, 10, 11, 12]]
      ·rw [if_neg h9]
       refine wC (⟨112, [.tup [.agg [17, 18, 19, 20, 21, 22, 23, 24, 25, 26, 27]], .tup []], (.bool false)⟩) (fun _ => q_cV (h := fun w hw => by have hb := decide_eq_false h9; rw [← hb]; exact pCharge_n _ _)) ?_
       exact wZ (.int .i64 5) [1, .agg [2, 3, 4, 5, 6, 7, 8, 9, 10, 11, 12]]
     ·rw [if_neg h8]
      refine wV 11 (J 0) h8 ?_
      refine wK (K := ∀ (fu_ : Nat) (v10 : Int), (0 ≤ v10 ∧ v10 ≤ (A.l.length : Int)) → (((A.l.length : Int) - v10) : Int) < fu_ → ∃ o, pF_L1 A w fu_ v10 = some o ∧ RdsD Tryz.prog 8 202 2 w pF_L1_H (pF_L1_B A w [.int .i64 v10]) fu_ [(o.1 = 0 ∧ (0 ≤ o.2.1 ∧ o.2.1 < (A.l.length : Int) ∧ o.2.1 ≤ (A.l.length : Int)), pF_L1_X0, pF_L1_B A w [.int .i64 o.2.1], .ret), (o.1 = 1 ∧ True, pF_L1_X1, pF_L1_B A w [], (.exit 0))]) (fun hq hc hm hp fu_ => ?_) (fun key9 => ?_)
      ·induction fu_ with
       | zero => intro v10 _ hz; exfalso; omega
       | succ fu_ ih =>
        intro v10 h9 hz
        rw [pF_L1]
        refine wB hq hc hm hp ?_
        refine wS (I v10 :: []) ?_
        by_cases h10 : v10 < (A.l.length : Int)
        ·rw [if_pos h10]
         refine wS (.pointer (some ⟨A.b_l, A.o_l + (v10 : Int).toNat * 11, none⟩) :: poV (at_ A.l v10) ++ []) (wT .lss 15 13 h10 (wX 38 1 15 16 H_l 11 v10 (wR 25 16 [17, 18, 19, 20, 21, 22, 23, 24, 25, 26, 27] H_l v10 ?_)))
         by_cases h11 : (at_ A.l v10).kind = 4
         ·rw [if_pos h11]
          refine wT .eql 20 (.int .u8 4) h11 ?_
          by_cases h12 : (at_ A.l v10).by_.reeve = A.p.by_.reeve
          ·rw [if_pos h12]
           refine wU 25 10 h12 ?_
           by_cases h13 : (at_ A.l v10).by_.number = A.p.by_.number
           ·rw [if_pos h13]
            refine wU 26 11 h13 ?_
            exact wQ (fun hr => ⟨(0, v10, ()), rfl, Or.inl ⟨⟨rfl, (by first | trivial | omega | (simp; omega))⟩, rndEnd xeR hr⟩⟩) 16 ⟨9, [], 0, [], 15, [15]⟩ [] ⟨rfl, trivial⟩
           ·rw [if_neg h13]
            refine wS (I (v10 + 1) :: []) (wV 26 11 h13 (wA 15 (J 1) 28 ?_))
            exact wQ (rnG (ih (v10 + 1) (by omega) (by omega))) 16 ⟨9, [], 0, [], 15, [28]⟩ [] ⟨rfl, trivial⟩
          ·rw [if_neg h12]
           refine wS (I (v10 + 1) :: []) (wV 25 10 h12 (wA 15 (J 1) 28 ?_))
           exact wQ (rnG (ih (v10 + 1) (by omega) (by omega))) 16 ⟨9, [], 0, [], 15, [28]⟩ [] ⟨rfl, trivial⟩
         ·rw [if_neg h11]
          refine wS (I (v10 + 1) :: []) (wF .eql 20 (.int .u8 4) h11 (wA 15 (J 1) 28 ?_))
          exact wQ (rnG (ih (v10 + 1) (by omega) (by omega))) 16 ⟨9, [], 0, [], 15, [28]⟩ [] ⟨rfl, trivial⟩
        ·rw [if_neg h10]
         refine wF .lss 15 13 h10 ?_
         exact wQ (fun hr => ⟨(1, default, ()), rfl, Or.inr (⟨⟨rfl, trivial⟩, rndEnd xeE hr⟩)⟩) 16 ⟨9, [], 0, [], 15, []⟩ [] trivial
      obtain ⟨⟨q9, x1_00, _⟩, h9, hk9⟩ := key9 ((((A.l.length : Int) - 0) : Int).toNat + 1) 0 (by first | trivial | omega | (simp; omega)) (by first | omega | (simp; omega))
      rw [h9]
      rcases hk9 with ⟨⟨he9, h10⟩, hr9⟩ | ⟨⟨he9, h10⟩, hr9⟩
      ·have he9 : q9 = 0 := he9
       subst he9
       have h10 : 0 ≤ x1_00 ∧ x1_00 < (A.l.length : Int) ∧ x1_00 ≤ (A.l.length : Int) := h10
       refine wS (I x1_00 :: []) ?_
       refine wLp (x := .ret) rfl hr9 pF_L1_R [] (fun _ => rfl) (by kernel_rfl) (fun _ => rfl) (fun _ => ⟨rfl, trivial⟩) (fun _ => rfl) ?_
       refine wT .geq 15 (J 0) (show 0 ≤ x1_00 by omega) ?_
       exact wZ (.int .i64 6) [1, .agg [2, 3, 4, 5, 6, 7, 8, 9, 10, 11, 12]]
      ·have he9 : q9 = 1 := he9
       subst he9
       refine wLp (x := (.exit 0)) rfl hr9 pF_L1_R [] (fun _ => rfl) (by kernel_rfl) (fun _ => rfl) (fun _ => ⟨rfl, trivial⟩) (fun _ => rfl) ?_
       refine wS (I (A.p.of.number - 1) :: .pointer (some ⟨A.b_l, A.o_l + ((A.p.of.number - 1) : Int).toNat * 11, none⟩) :: poV (at_ A.l (A.p.of.number - 1)) ++ []) (wD 9 (J 1) 15 (wX 38 1 15 16 H_l 11 (A.p.of.number - 1) (wR 25 16 [17, 18, 19, 20, 21, 22, 23, 24, 25, 26, 27] H_l (A.p.of.number - 1) ?_)))
       by_cases h11 : (at_ A.l (A.p.of.number - 1)).kind = 1 ∨ (at_ A.l (A.p.of.number - 1)).kind = 2
       ·rw [if_pos h11]
        refine wC (⟨112, [.tup [.agg [17, 18, 19, 20, 21, 22, 23, 24, 25, 26, 27]], .tup []], (.bool true)⟩) (fun _ => q_cV (h := fun w hw => by have hb := decide_eq_true h11; rw [← hb]; exact pCharge_n _ _)) ?_
        by_cases h12 : (at_ A.l (A.p.of.number - 1)).owner = A.p.owner
        ·rw [if_pos h12]
         refine wF .neq 22 7 (fun h => h h12) ?_
         exact wZ (.int .i64 0) [1, .agg [2, 3, 4, 5, 6, 7, 8, 9, 10, 11, 12]]
        ·rw [if_neg h12]
         refine wT .neq 22 7 h12 ?_
         exact wZ (.int .i64 5) [1, .agg [2, 3, 4, 5, 6, 7, 8, 9, 10, 11, 12]]
       ·rw [if_neg h11]
        refine wC (⟨112, [.tup [.agg [17, 18, 19, 20, 21, 22, 23, 24, 25, 26, 27]], .tup []], (.bool false)⟩) (fun _ => q_cV (h := fun w hw => by have hb := decide_eq_false h11; rw [← hb]; exact pCharge_n _ _)) ?_
        exact wZ (.int .i64 5) [1, .agg [2, 3, 4, 5, 6, 7, 8, 9, 10, 11, 12]]
    ·rw [if_neg h7]
     refine wV 10 (J 0) h7 ?_
     refine wK (K := ∀ (fu_ : Nat) (v20 : Int), (0 ≤ v20 ∧ v20 ≤ (A.l.length : Int)) → (((A.l.length : Int) - v20) : Int) < fu_ → ∃ o, pF_L2 A w fu_ v20 = some o ∧ RdsD Tryz.prog 8 202 2 w pF_L2_H (pF_L2_B A w [.int .i64 v20]) fu_ [(o.1 = 0 ∧ (0 ≤ o.2.1 ∧ o.2.1 < (A.l.length : Int) ∧ o.2.1 ≤ (A.l.length : Int)), pF_L2_X0, pF_L2_B A w [.int .i64 o.2.1], .ret), (o.1 = 1 ∧ True, pF_L2_X1, pF_L2_B A w [], (.exit 0))]) (fun hq hc hm hp fu_ => ?_) (fun key8 => ?_)
     ·induction fu_ with
      | zero => intro v20 _ hz; exfalso; omega
      | succ fu_ ih =>
       intro v20 h8 hz
       rw [pF_L2]
       refine wB hq hc hm hp ?_
       refine wS (I v20 :: []) ?_
       by_cases h9 : v20 < (A.l.length : Int)
       ·rw [if_pos h9]
        refine wS (.pointer (some ⟨A.b_l, A.o_l + (v20 : Int).toNat * 11, none⟩) :: poV (at_ A.l v20) ++ []) (wT .lss 15 13 h9 (wX 38 1 15 16 H_l 11 v20 (wR 25 16 [17, 18, 19, 20, 21, 22, 23, 24, 25, 26, 27] H_l v20 ?_)))
        by_cases h10 : (at_ A.l v20).kind = 4
        ·rw [if_pos h10]
         refine wT .eql 20 (.int .u8 4) h10 ?_
         by_cases h11 : (at_ A.l v20).by_.reeve = A.p.by_.reeve
         ·rw [if_pos h11]
          refine wU 25 10 h11 ?_
          by_cases h12 : (at_ A.l v20).by_.number = A.p.by_.number
          ·rw [if_pos h12]
           refine wU 26 11 h12 ?_
           exact wQ (fun hr => ⟨(0, v20, ()), rfl, Or.inl ⟨⟨rfl, (by first | trivial | omega | (simp; omega))⟩, rndEnd xeR hr⟩⟩) 16 ⟨9, [], 0, [], 15, [15]⟩ [] ⟨rfl, trivial⟩
          ·rw [if_neg h12]
           refine wS (I (v20 + 1) :: []) (wV 26 11 h12 (wA 15 (J 1) 28 ?_))
           exact wQ (rnG (ih (v20 + 1) (by omega) (by omega))) 16 ⟨9, [], 0, [], 15, [28]⟩ [] ⟨rfl, trivial⟩
         ·rw [if_neg h11]
          refine wS (I (v20 + 1) :: []) (wV 25 10 h11 (wA 15 (J 1) 28 ?_))
          exact wQ (rnG (ih (v20 + 1) (by omega) (by omega))) 16 ⟨9, [], 0, [], 15, [28]⟩ [] ⟨rfl, trivial⟩
        ·rw [if_neg h10]
         refine wS (I (v20 + 1) :: []) (wF .eql 20 (.int .u8 4) h10 (wA 15 (J 1) 28 ?_))
         exact wQ (rnG (ih (v20 + 1) (by omega) (by omega))) 16 ⟨9, [], 0, [], 15, [28]⟩ [] ⟨rfl, trivial⟩
       ·rw [if_neg h9]
        refine wF .lss 15 13 h9 ?_
        exact wQ (fun hr => ⟨(1, default, ()), rfl, Or.inr (⟨⟨rfl, trivial⟩, rndEnd xeE hr⟩)⟩) 16 ⟨9, [], 0, [], 15, []⟩ [] trivial
     obtain ⟨⟨q8, x2_00, _⟩, h8, hk8⟩ := key8 ((((A.l.length : Int) - 0) : Int).toNat + 1) 0 (by first | trivial | omega | (simp; omega)) (by first | omega | (simp; omega))
     rw [h8]
     rcases hk8 with ⟨⟨he8, h9⟩, hr8⟩ | ⟨⟨he8, h9⟩, hr8⟩
     ·have he8 : q8 = 0 := he8
      subst he8
      have h9 : 0 ≤ x2_00 ∧ x2_00 < (A.l.length : Int) ∧ x2_00 ≤ (A.l.length : Int) := h9
      refine wS (I x2_00 :: []) ?_
      refine wLp (x := .ret) rfl hr8 pF_L2_R [] (fun _ => rfl) (by kernel_rfl) (fun _ => rfl) (fun _ => ⟨rfl, trivial⟩) (fun _ => rfl) ?_
      refine wT .geq 15 (J 0) (show 0 ≤ x2_00 by omega) ?_
      exact wZ (.int .i64 6) [1, .agg [2, 3, 4, 5, 6, 7, 8, 9, 10, 11, 12]]
     ·have he8 : q8 = 1 := he8
      subst he8
      refine wLp (x := (.exit 0)) rfl hr8 pF_L2_R [] (fun _ => rfl) (by kernel_rfl) (fun _ => rfl) (fun _ => ⟨rfl, trivial⟩) (fun _ => rfl) ?_
      refine wS (I (A.p.of.number - 1) :: .pointer (some ⟨A.b_l, A.o_l + ((A.p.of.number - 1) : Int).toNat * 11, none⟩) :: poV (at_ A.l (A.p.of.number - 1)) ++ []) (wD 9 (J 1) 15 (wX 38 1 15 16 H_l 11 (A.p.of.number - 1) (wR 25 16 [17, 18, 19, 20, 21, 22, 23, 24, 25, 26, 27] H_l (A.p.of.number - 1) ?_)))
      by_cases h10 : (at_ A.l (A.p.of.number - 1)).kind = 1 ∨ (at_ A.l (A.p.of.number - 1)).kind = 2
      ·rw [if_pos h10]
       refine wC (⟨112, [.tup [.agg [17, 18, 19, 20, 21, 22, 23, 24, 25, 26, 27]], .tup []], (.bool true)⟩) (fun _ => q_cV (h := fun w hw => by have hb := decide_eq_true h10; rw [← hb]; exact pCharge_n _ _)) ?_
       by_cases h11 : (at_ A.l (A.p.of.number - 1)).owner = A.p.owner
       ·rw [if_pos h11]
        refine wF .neq 22 7 (fun h => h h11) ?_
        exact wZ (.int .i64 0) [1, .agg [2, 3, 4, 5, 6, 7, 8, 9, 10, 11, 12]]
       ·rw [if_neg h11]
        refine wT .neq 22 7 h11 ?_
        exact wZ (.int .i64 5) [1, .agg [2, 3, 4, 5, 6, 7, 8, 9, 10, 11, 12]]
      ·rw [if_neg h10]
       refine wC (⟨112, [.tup [.agg [17, 18, 19, 20, 21, 22, 23, 24, 25, 26, 27]], .tup []], (.bool false)⟩) (fun _ => q_cV (h := fun w hw => by have hb := decide_eq_false h10; rw [← hb]; exact pCharge_n _ _)) ?_
       exact wZ (.int .i64 5) [1, .agg [2, 3, 4, 5, 6, 7, 8, 9, 10, 11, 12]]
 ·rw [if_neg h4]
  refine wT .neq 3 14 h4 ?_
  exact wZ (.int .i64 8) [1, .agg [2, 3, 4, 5, 6, 7, 8, 9, 10, 11, 12]]
theorem pF_L0_n (A : pF_A) (w : World) : ∀ (n : Nat) (i : Int), (0 ≤ i ∧ i ≤ (A.l.length : Int)) → (A.l.length : Int) - i < n → ∃ k, pF_L0 A w n i = if (A.l.drop i.toNat).any (twiceC A.p) = true then some (0, k, ()) else some (1, default, ()) := by
 intro n
 induction n with
 | zero => intros; omega
 | succ n ih =>
  intro i h0 hm
  rw [pF_L0]
  by_cases hi : i < (A.l.length : Int)
  ·obtain ⟨k, e⟩ := ih (i + 1) (by omega) (by omega)
   rw [if_pos hi, drop_at ⟨h0.1, hi⟩, List.any_cons]
   by_cases hp : twiceC A.p (at_ A.l i) = true
   ·refine ⟨i, ?_⟩
    simp only [hp, Bool.true_or, if_true]
    simp only [twiceC, decide_eq_true_eq] at hp
    simp only [hp, if_true, true_and, and_self]
   ·refine ⟨k, ?_⟩
    simp only [e]
    simp only [Bool.not_eq_true] at hp
    simp only [hp, Bool.false_or]
    simp only [twiceC, decide_eq_false_iff_not] at hp
    repeat' split
    all_goals first | rfl | (exfalso; simp_all; done)
  ·exact ⟨0, by rw [if_neg hi, drop_end hi]; rfl⟩
theorem pF_L1_n (A : pF_A) (w : World) : ∀ (n : Nat) (i : Int), (0 ≤ i ∧ i ≤ (A.l.length : Int)) → (A.l.length : Int) - i < n → ∃ k, pF_L1 A w n i = if (A.l.drop i.toNat).any (twiceB A.p) = true then some (0, k, ()) else some (1, default, ()) := by
 intro n
 induction n with
 | zero => intros; omega
 | succ n ih =>
  intro i h0 hm
  rw [pF_L1]
  by_cases hi : i < (A.l.length : Int)
  ·obtain ⟨k, e⟩ := ih (i + 1) (by omega) (by omega)
   rw [if_pos hi, drop_at ⟨h0.1, hi⟩, List.any_cons]
   by_cases hp : twiceB A.p (at_ A.l i) = true
   ·refine ⟨i, ?_⟩
    simp only [hp, Bool.true_or, if_true]
    simp only [twiceB, decide_eq_true_eq] at hp
    simp only [hp, if_true, true_and, and_self]
   ·refine ⟨k, ?_⟩
    simp only [e]
    simp only [Bool.not_eq_true] at hp
    simp only [hp, Bool.false_or]
    simp only [twiceB, decide_eq_false_iff_not] at hp
    repeat' split
    all_goals first | rfl | (exfalso; simp_all; done)
  ·exact ⟨0, by rw [if_neg hi, drop_end hi]; rfl⟩
theorem pF_L2_n (A : pF_A) (w : World) : ∀ (n : Nat) (i : Int), (0 ≤ i ∧ i ≤ (A.l.length : Int)) → (A.l.length : Int) - i < n → ∃ k, pF_L2 A w n i = if (A.l.drop i.toNat).any (twiceB A.p) = true then some (0, k, ()) else some (1, default, ()) := by
 intro n
 induction n with
 | zero => intros; omega
 | succ n ih =>
  intro i h0 hm
  rw [pF_L2]
  by_cases hi : i < (A.l.length : Int)
  ·obtain ⟨k, e⟩ := ih (i + 1) (by omega) (by omega)
   rw [if_pos hi, drop_at ⟨h0.1, hi⟩, List.any_cons]
   by_cases hp : twiceB A.p (at_ A.l i) = true
   ·refine ⟨i, ?_⟩
    simp only [hp, Bool.true_or, if_true]
    simp only [twiceB, decide_eq_true_eq] at hp
    simp only [hp, if_true, true_and, and_self]
   ·refine ⟨k, ?_⟩
    simp only [e]
    simp only [Bool.not_eq_true] at hp
    simp only [hp, Bool.false_or]
    simp only [twiceB, decide_eq_false_iff_not] at hp
    repeat' split
    all_goals first | rfl | (exfalso; simp_all; done)
  ·exact ⟨0, by rw [if_neg hi, drop_end hi]; rfl⟩
theorem pFollows_r_n (A : pF_A) (w : World) : pF_r A w = followsN A.l A.p := by
 obtain ⟨k0, e0⟩ := pF_L0_n A w ((((A.l.length : Int) - 0) : Int).toNat + 1) 0 (by omega) (by omega)
 obtain ⟨k1, e1⟩ := pF_L1_n A w ((((A.l.length : Int) - 0) : Int).toNat + 1) 0 (by omega) (by omega)
 obtain ⟨k2, e2⟩ := pF_L2_n A w ((((A.l.length : Int) - 0) : Int).toNat + 1) 0 (by omega) (by omega)
 have hd : A.l.drop (0 : Int).toNat = A.l := rfl
 rw [hd] at e0 e1 e2
 unfold pF_r followsN isCh
 rw [e0, e1, e2]
 by_cases a1 : A.l.any (twiceC A.p) = true <;> by_cases a2 : A.l.any (twiceB A.p) = true <;> simp only [a1, a2, if_true, if_false, Bool.false_eq_true]
 all_goals
  repeat' split
  all_goals first | rfl | (exfalso; simp_all; done) | (exfalso; simp_all; omega)
theorem pFollows_n {a_l : Option Addr} {b_l o_l κ_l : Nat} {l : List Po} {w : World} (H : LstAt poC w a_l b_l o_l l) (h0 : l.length ≤ κ_l) (h1 : (l.length : Int) ≤ 1000) {p : Po} (h2 : (p.kind = 4 ∨ p.kind = 5) → 1 ≤ p.of.number ∧ p.of.number < p.number) (h3 : 1 ≤ p.kind ∧ p.kind ≤ 5) : Calls Tryz.prog 190 #[.slice a_l l.length κ_l, p.val] w fun e w' => e = .returned (.int .i64 (followsN l p)) ∧ Chg (fun _ => False) w w' := by
 have := pF_any ⟨a_l, b_l, o_l, κ_l, l, p⟩ w H (by show (l.length : Int) ≤ (κ_l : Int); omega) h1 h2 h3
 rw [pFollows_r_n] at this
 exact this
structure pY_A where
 x : Rf
 y : Rf
def pY_r  (A : pY_A) (w : World) : Int := (if A.x.reeve < A.y.reeve then (if A.x.number < A.y.number then (-1) else (if A.y.number < A.x.number then (-1) else (-1))) else (if A.y.reeve < A.x.reeve then (if A.x.number < A.y.number then 1 else (if A.y.number < A.x.number then 1 else 1)) else (if A.x.number < A.y.number then (-1) else (if A.y.number < A.x.number then 1 else 0))))
theorem pY_any  (A : pY_A) (w : World) : Calls Tryz.prog 187 #[A.x.val, A.y.val] w fun e w' => e = .returned (.int .i64 (pY_r A w)) ∧ Chg (fun _ => False) w w' := by
 unfold pY_r
 refine wGo (E := E0) (n := 8) (w := w) (L := id) ?_
 refine wS (.agg #[] :: I A.x.reeve :: I A.x.number :: I A.y.reeve :: I A.y.number :: []) (wF .neq 1 1 (fun h => h (show A.x.reeve = A.x.reeve by omega)) (wF .neq 3 3 (fun h => h (show A.y.reeve = A.y.reeve by omega)) ?_))
 split <;> rename_i h0
 ·refine wT .lss 1 3 h0 (wF .neq 2 2 (fun h => h (show A.x.number = A.x.number by omega)) (wF .neq 4 4 (fun h => h (show A.y.number = A.y.number by omega)) ?_))
  split <;> rename_i h1
  ·refine wT .lss 2 4 h1 ?_
   exact wZ (.int .i64 (-1)) [.agg [1, 2], .agg [3, 4]]
  ·refine wF .lss 2 4 h1 ?_
   split <;> rename_i h2
   ·refine wT .gtr 2 4 h2 ?_
    exact wZ (.int .i64 (-1)) [.agg [1, 2], .agg [3, 4]]
   ·refine wF .gtr 2 4 h2 ?_
    exact wZ (.int .i64 (-1)) [.agg [1, 2], .agg [3, 4]]
 ·refine wF .lss 1 3 h0 ?_
  split <;> rename_i h1
  ·refine wT .gtr 1 3 h1 (wF .neq 2 2 (fun h => h (show A.x.number = A.x.number by omega)) (wF .neq 4 4 (fun h => h (show A.y.number = A.y.number by omega)) ?_))
   split <;> rename_i h2
   ·refine wT .lss 2 4 h2 ?_
    exact wZ (.int .i64 1) [.agg [1, 2], .agg [3, 4]]
   ·refine wF .lss 2 4 h2 ?_
    split <;> rename_i h3
    ·refine wT .gtr 2 4 h3 ?_
     exact wZ (.int .i64 1) [.agg [1, 2], .agg [3, 4]]
    ·refine wF .gtr 2 4 h3 ?_
     exact wZ (.int .i64 1) [.agg [1, 2], .agg [3, 4]]
  ·refine wF .gtr 1 3 h1 (wF .neq 2 2 (fun h => h (show A.x.number = A.x.number by omega)) (wF .neq 4 4 (fun h => h (show A.y.number = A.y.number by omega)) ?_))
   split <;> rename_i h2
   ·refine wT .lss 2 4 h2 ?_
    exact wZ (.int .i64 (-1)) [.agg [1, 2], .agg [3, 4]]
   ·refine wF .lss 2 4 h2 ?_
    split <;> rename_i h3
    ·refine wT .gtr 2 4 h3 ?_
     exact wZ (.int .i64 1) [.agg [1, 2], .agg [3, 4]]
    ·refine wF .gtr 2 4 h3 ?_
     exact wZ (.int .i64 0) [.agg [1, 2], .agg [3, 4]]
theorem pByRef_n (x y : Rf) (w : World) : Calls Tryz.prog 187 #[x.val, y.val] w fun e w' => e = .returned (.int .i64 (byRefN x y)) ∧ Chg (fun _ => False) w w' := by
 have := pY_any ⟨x, y⟩ w
 have e : pY_r ⟨x, y⟩ w = byRefN x y := by
  unfold pY_r byRefN
  repeat' split
  all_goals first | rfl | (exfalso; omega)
 rw [e] at this
 exact this
structure pK_A where
 n : Int
 a_l : Option Addr
 b_l : Nat
 o_l : Nat
 κ_l : Nat
 l : List Po
def pK_L0_H : Head := (⟨[(0, 1), (1, 2), (4, .ptr 8 0), (5, .int .i64 0), (6, .int .i64 0), (7, .ptr 9 0), (11, 1), (12, .bool true), (13, .bool false), (15, 2), (16, 3), (17, 4)], [(8, .cells [.ns, .ns, .ns, .ns, .ns] 0 0), (9, .cells [.sls 10 11 (.int .i64 0) 6 2, .sls 11 11 (.int .i64 0) 8 3, .sls 12 11 (.int .i64 0) 10 4, .sls 13 11 (.int .i64 0) 12 5, .sls 14 11 (.int .i64 0) 14 6] 0 0), (10, .lst 5 11 1), (11, .lst 7 11 2), (12, .lst 9 11 3), (13, .lst 11 11 4), (14, .lst 13 11 5)], 10, 15, 0, 5, 4, 15⟩ : Head)
def pK_L0_R : Rn := ⟨10, [10, 11, 12, 13, 14], 0, [0, 1, 2, 3, 4], 4, [.int .i64 0, 0, .int .i64 0, 0, .int .i64 0, 0, .int .i64 0, 0, .int .i64 0, 0, .int .i64 0]⟩
def pK_L0_B  (A : pK_A) (w : World) (R : List Value) : List Value := .agg #[] :: .int .i64 A.n :: .slice A.a_l A.l.length A.κ_l :: .int .i64 (A.l.length : Int) :: R
def pK_L0_X0 : Head := (⟨[(0, 1), (1, 2), (4, .ptr 8 0), (5, 4), (6, 5), (7, .ptr 9 0), (11, 1), (12, .bool true), (13, .bool false), (15, 2)], [(8, .cells [.sls 10 11 (.int .i64 0) 7 2, .sls 11 11 (.int .i64 0) 9 3, .sls 12 11 (.int .i64 0) 11 4, .sls 13 11 (.int .i64 0) 13 5, .sls 14 11 (.int .i64 0) 15 6] 0 0), (9, .cells [.sls 10 11 (.int .i64 0) 7 2, .sls 11 11 (.int .i64 0) 9 3, .sls 12 11 (.int .i64 0) 11 4, .sls 13 11 (.int .i64 0) 13 5, .sls 14 11 (.int .i64 0) 15 6] 0 0), (10, .lst 6 11 1), (11, .lst 8 11 2), (12, .lst 10 11 3), (13, .lst 12 11 4), (14, .lst 14 11 5)], 10, 15, 0, 5, 4, 16⟩ : Head)
def pK_L0_X1 : Head := (⟨[(0, 1), (1, 2), (4, .ptr 8 0), (5, .int .i64 0), (6, .int .i64 0), (7, .ptr 9 0), (11, 1), (12, .bool true), (13, .bool false), (15, 2)], [(8, .cells [.ns, .ns, .ns, .ns, .ns] 0 0), (9, .cells [.sls 10 11 (.int .i64 0) 5 2, .sls 11 11 (.int .i64 0) 7 3, .sls 12 11 (.int .i64 0) 9 4, .sls 13 11 (.int .i64 0) 11 5, .sls 14 11 (.int .i64 0) 13 6] 0 0), (10, .lst 4 11 1), (11, .lst 6 11 2), (12, .lst 8 11 3), (13, .lst 10 11 4), (14, .lst 12 11 5)], 10, 15, 0, 5, 4, 14⟩ : Head)
def pK_L0  (A : pK_A) (w : World) : Nat → Int → List Po → List Po → List Po → List Po → List Po → Option (Nat × Int × Int × List Po × List Po × List Po × List Po × List Po × List Po × List Po × List Po × List Po × List Po × Unit)
 | 0, _, _, _, _, _, _ => none
 | fu_ + 1, v00, l01, l02, l03, l04, l05 => (if v00 < (A.l.length : Int) then (if (checkN A.n (at_ A.l v00)) = 0 then (if 0 < v00 then (if 0 ≤ (byRefN (⟨((at_ A.l (v00 - 1)).reeve), ((at_ A.l (v00 - 1)).number)⟩) (⟨((at_ A.l v00).reeve), ((at_ A.l v00).number)⟩)) then some (0, v00, 8, l01, l02, l03, l04, l05, default, default, default, default, default, ()) else (if (at_ A.l v00).reeve = 0 then (if (followsN l01 (at_ A.l v00)) = 0 then pK_L0 A w fu_ (v00 + 1) (l01 ++ [(at_ A.l v00)]) l02 l03 l04 l05 else some (0, v00, (followsN l01 (at_ A.l v00)), l01, l02, l03, l04, l05, default, default, default, default, default, ())) else (if (at_ A.l v00).reeve = 1 then (if (followsN l02 (at_ A.l v00)) = 0 then pK_L0 A w fu_ (v00 + 1) l01 (l02 ++ [(at_ A.l v00)]) l03 l04 l05 else some (0, v00, (followsN l02 (at_ A.l v00)), l01, l02, l03, l04, l05, default, default, default, default, default, ())) else (if (at_ A.l v00).reeve = 2 then (if (followsN l03 (at_ A.l v00)) = 0 then pK_L0 A w fu_ (v00 + 1) l01 l02 (l03 ++ [(at_ A.l v00)]) l04 l05 else some (0, v00, (followsN l03 (at_ A.l v00)), l01, l02, l03, l04, l05, default, default, default, default, default, ())) else (if (at_ A.l v00).reeve = 3 then (if (followsN l04 (at_ A.l v00)) = 0 then pK_L0 A w fu_ (v00 + 1) l01 l02 l03 (l04 ++ [(at_ A.l v00)]) l05 else some (0, v00, (followsN l04 (at_ A.l v00)), l01, l02, l03, l04, l05, default, default, default, default, default, ())) else (if (followsN l05 (at_ A.l v00)) = 0 then pK_L0 A w fu_ (v00 + 1) l01 l02 l03 l04 (l05 ++ [(at_ A.l v00)]) else some (0, v00, (followsN l05 (at_ A.l v00)), l01, l02, l03, l04, l05, default, default, default, default, default, ()))))))) else (if (at_ A.l v00).reeve = 0 then (if (followsN l01 (at_ A.l v00)) = 0 then pK_L0 A w fu_ (v00 + 1) (l01 ++ [(at_ A.l v00)]) l02 l03 l04 l05 else some (0, v00, (followsN l01 (at_ A.l v00)), l01, l02, l03, l04, l05, default, default, default, default, default, ())) else (if (at_ A.l v00).reeve = 1 then (if (followsN l02 (at_ A.l v00)) = 0 then pK_L0 A w fu_ (v00 + 1) l01 (l02 ++ [(at_ A.l v00)]) l03 l04 l05 else some (0, v00, (followsN l02 (at_ A.l v00)), l01, l02, l03, l04, l05, default, default, default, default, default, ())) else (if (at_ A.l v00).reeve = 2 then (if (followsN l03 (at_ A.l v00)) = 0 then pK_L0 A w fu_ (v00 + 1) l01 l02 (l03 ++ [(at_ A.l v00)]) l04 l05 else some (0, v00, (followsN l03 (at_ A.l v00)), l01, l02, l03, l04, l05, default, default, default, default, default, ())) else (if (at_ A.l v00).reeve = 3 then (if (followsN l04 (at_ A.l v00)) = 0 then pK_L0 A w fu_ (v00 + 1) l01 l02 l03 (l04 ++ [(at_ A.l v00)]) l05 else some (0, v00, (followsN l04 (at_ A.l v00)), l01, l02, l03, l04, l05, default, default, default, default, default, ())) else (if (followsN l05 (at_ A.l v00)) = 0 then pK_L0 A w fu_ (v00 + 1) l01 l02 l03 l04 (l05 ++ [(at_ A.l v00)]) else some (0, v00, (followsN l05 (at_ A.l v00)), l01, l02, l03, l04, l05, default, default, default, default, default, ()))))))) else some (0, v00, (checkN A.n (at_ A.l v00)), l01, l02, l03, l04, l05, default, default, default, default, default, ())) else some (1, default, default, default, default, default, default, default, l01, l02, l03, l04, l05, ()))
def pK_r  (A : pK_A) (w : World) : List Po × List Po × List Po × List Po × List Po × Int × Int := (if A.n = 3 ∨ A.n = 5 then (match pK_L0 A w ((((A.l.length : Int) - 0) : Int).toNat + 1) 0 ([]) ([]) ([]) ([]) ([]) with | some (0, x0_00, x0_01, y0_02, y0_03, y0_04, y0_05, y0_06, y0_10, y0_11, y0_12, y0_13, y0_14, _) => (y0_02, y0_03, y0_04, y0_05, y0_06, x0_00, x0_01) | some (1, x0_00, x0_01, y0_02, y0_03, y0_04, y0_05, y0_06, y0_10, y0_11, y0_12, y0_13, y0_14, _) => (y0_10, y0_11, y0_12, y0_13, y0_14, 0, 0) | _ => default) else ([], [], [], [], [], 0, 1))
theorem pK_any  (A : pK_A) (w : World) (H_l : LstAt poC w A.a_l A.b_l A.o_l A.l) (h0 : (A.l.length : Int) ≤ (A.κ_l : Int)) (h1 : (A.l.length : Int) ≤ 1000) (h2 : -9223372036854775808 ≤ A.n ∧ A.n ≤ 9223372036854775807) : Calls Tryz.prog 97 #[.int .i64 A.n, .slice A.a_l A.l.length A.κ_l] w fun e w' => ∃ zs : List Value, e = .returned (.tuple #[.agg #[(zs.getD 0 undef), (zs.getD 1 undef), (zs.getD 2 undef), (zs.getD 3 undef), (zs.getD 4 undef)], .int .i64 ((pK_r A w).2.2.2.2.2.1), .int .i64 ((pK_r A w).2.2.2.2.2.2)]) ∧ FrAll w.heap.size w' [⟨((pK_r A w).1 : List Po).flatMap poC.f, 11, ((pK_r A w).1 : List Po).length⟩, ⟨((pK_r A w).2.1 : List Po).flatMap poC.f, 11, ((pK_r A w).2.1 : List Po).length⟩, ⟨((pK_r A w).2.2.1 : List Po).flatMap poC.f, 11, ((pK_r A w).2.2.1 : List Po).length⟩, ⟨((pK_r A w).2.2.2.1 : List Po).flatMap poC.f, 11, ((pK_r A w).2.2.2.1 : List Po).length⟩, ⟨((pK_r A w).2.2.2.2.1 : List Po).flatMap poC.f, 11, ((pK_r A w).2.2.2.2.1 : List Po).length⟩] zs [] ∧ Chg (fun _ => False) w w' := by
 unfold pK_r
 refine wGo (E := E0) (n := 8) (w := w) (L := id) ?_
 refine wS (.agg #[] :: I A.n :: .slice A.a_l A.l.length A.κ_l :: []) ?_
 by_cases h3 : A.n = 3 ∨ A.n = 5
 ·rw [if_pos h3]
  refine wS (I (A.l.length : Int) :: []) (wN 38 2 3 (wC (⟨75, [.tup [1], .tup []], (.bool true)⟩) (fun _ => q_cV (h := fun w hw => by have hb := decide_eq_true h3; rw [← hb]; exact pMany_n _ _)) ?_))
  refine wK (K := ∀ (fu_ : Nat) (v00 : Int) (l01 l02 l03 l04 l05 : List Po), (0 ≤ v00 ∧ v00 ≤ (A.l.length : Int) ∧ (l01.length : Int) ≤ (A.l.length : Int) ∧ (l01.length : Int) ≤ v00 ∧ (l02.length : Int) ≤ (A.l.length : Int) ∧ (l02.length : Int) ≤ v00 ∧ (l03.length : Int) ≤ (A.l.length : Int) ∧ (l03.length : Int) ≤ v00 ∧ (l04.length : Int) ≤ (A.l.length : Int) ∧ (l04.length : Int) ≤ v00 ∧ (l05.length : Int) ≤ (A.l.length : Int) ∧ (l05.length : Int) ≤ v00) → (((A.l.length : Int) - v00) : Int) < fu_ → ∃ o, pK_L0 A w fu_ v00 l01 l02 l03 l04 l05 = some o ∧ RdsD Tryz.prog 8 97 5 w pK_L0_H (pK_L0_B A w [.int .i64 v00, Codec.flat poC l01, .int .i64 (l01.length : Int), Codec.flat poC l02, .int .i64 (l02.length : Int), Codec.flat poC l03, .int .i64 (l03.length : Int), Codec.flat poC l04, .int .i64 (l04.length : Int), Codec.flat poC l05, .int .i64 (l05.length : Int)]) fu_ [(o.1 = 0 ∧ (0 ≤ o.2.1 ∧ o.2.1 < (A.l.length : Int) ∧ o.2.1 ≤ (A.l.length : Int) ∧ (o.2.2.2.1.length : Int) ≤ (A.l.length : Int) ∧ (o.2.2.2.2.1.length : Int) ≤ (A.l.length : Int) ∧ (o.2.2.2.2.2.1.length : Int) ≤ (A.l.length : Int) ∧ (o.2.2.2.2.2.2.1.length : Int) ≤ (A.l.length : Int) ∧ (o.2.2.2.2.2.2.2.1.length : Int) ≤ (A.l.length : Int)), pK_L0_X0, pK_L0_B A w [.int .i64 o.2.1, .int .i64 o.2.2.1, Codec.flat poC o.2.2.2.1, .int .i64 (o.2.2.2.1.length : Int), Codec.flat poC o.2.2.2.2.1, .int .i64 (o.2.2.2.2.1.length : Int), Codec.flat poC o.2.2.2.2.2.1, .int .i64 (o.2.2.2.2.2.1.length : Int), Codec.flat poC o.2.2.2.2.2.2.1, .int .i64 (o.2.2.2.2.2.2.1.length : Int), Codec.flat poC o.2.2.2.2.2.2.2.1, .int .i64 (o.2.2.2.2.2.2.2.1.length : Int)], .ret), (o.1 = 1 ∧ ((o.2.2.2.2.2.2.2.2.1.length : Int) ≤ (A.l.length : Int) ∧ (o.2.2.2.2.2.2.2.2.2.1.length : Int) ≤ (A.l.length : Int) ∧ (o.2.2.2.2.2.2.2.2.2.2.1.length : Int) ≤ (A.l.length : Int) ∧ (o.2.2.2.2.2.2.2.2.2.2.2.1.length : Int) ≤ (A.l.length : Int) ∧ (o.2.2.2.2.2.2.2.2.2.2.2.2.1.length : Int) ≤ (A.l.length : Int)), pK_L0_X1, pK_L0_B A w [Codec.flat poC o.2.2.2.2.2.2.2.2.1, .int .i64 (o.2.2.2.2.2.2.2.2.1.length : Int), Codec.flat poC o.2.2.2.2.2.2.2.2.2.1, .int .i64 (o.2.2.2.2.2.2.2.2.2.1.length : Int), Codec.flat poC o.2.2.2.2.2.2.2.2.2.2.1, .int .i64 (o.2.2.2.2.2.2.2.2.2.2.1.length : Int), Codec.flat poC o.2.2.2.2.2.2.2.2.2.2.2.1, .int .i64 (o.2.2.2.2.2.2.2.2.2.2.2.1.length : Int), Codec.flat poC o.2.2.2.2.2.2.2.2.2.2.2.2.1, .int .i64 (o.2.2.2.2.2.2.2.2.2.2.2.2.1.length : Int)], (.exit 0))]) (fun hq hc hm hp fu_ => ?_) (fun key4 => ?_)
  ·induction fu_ with
   | zero => intro v00 l01 l02 l03 l04 l05 _ hz; exfalso; omega
   | succ fu_ ih =>
    intro v00 l01 l02 l03 l04 l05 h4 hz
    rw [pK_L0]
    refine wB hq hc hm hp ?_
    refine wS (I v00 :: Codec.flat poC l01 :: I (l01.length : Int) :: Codec.flat poC l02 :: I (l02.length : Int) :: Codec.flat poC l03 :: I (l03.length : Int) :: Codec.flat poC l04 :: I (l04.length : Int) :: Codec.flat poC l05 :: I (l05.length : Int) :: []) ?_
    by_cases h5 : v00 < (A.l.length : Int)
    ·rw [if_pos h5]
     have h6 : checkN A.n (at_ A.l v00) = 0 → (1 ≤ (at_ A.l v00).kind ∧ (at_ A.l v00).kind ≤ 5) ∧ (0 ≤ (at_ A.l v00).reeve ∧ (at_ A.l v00).reeve ≤ A.n - 1) ∧ (A.n = 3 ∨ A.n = 5) ∧ 1 ≤ (at_ A.l v00).amount ∧ (at_ A.l v00).amount ≤ 1000000 ∧ 1 ≤ (at_ A.l v00).number ∧ (at_ A.l v00).number ≤ 300 ∧ (((at_ A.l v00).kind = 4 ∨ (at_ A.l v00).kind = 5) → 1 ≤ (at_ A.l v00).of.number ∧ (at_ A.l v00).of.number < (at_ A.l v00).number) := formN2 (n := A.n) (p := (at_ A.l v00))
     refine wS (.pointer (some ⟨A.b_l, A.o_l + (v00 : Int).toNat * 11, none⟩) :: poV (at_ A.l v00) ++ I (checkN A.n (at_ A.l v00)) :: []) (wT .lss 4 3 h5 (wX 38 2 4 15 H_l 11 v00 (wR 25 15 [16, 17, 18, 19, 20, 21, 22, 23, 24, 25, 26] H_l v00 (wC (⟨19, [.tup [1, .agg [16, 17, 18, 19, 20, 21, 22, 23, 24, 25, 26]], .tup []], 27⟩) (fun _ => q_cV (h := fun w hw => by exact pCheck_n _ _ _)) ?_))))
     by_cases h7 : (checkN A.n (at_ A.l v00)) = 0
     ·rw [if_pos h7]
      refine wT .eql 27 (J 0) h7 ?_
      by_cases h8 : 0 < v00
      ·rw [if_pos h8]
       refine wS (I (v00 - 1) :: .pointer (some ⟨A.b_l, A.o_l + ((v00 - 1) : Int).toNat * 11, none⟩) :: poV (at_ A.l (v00 - 1)) ++ I ((byRefN (⟨((at_ A.l (v00 - 1)).reeve), ((at_ A.l (v00 - 1)).number)⟩) (⟨((at_ A.l v00).reeve), ((at_ A.l v00).number)⟩))) :: []) (wT .gtr 4 (J 0) h8 (wD 4 (J 1) 28 (wX 38 2 28 29 H_l 11 (v00 - 1) (wR 25 29 [30, 31, 32, 33, 34, 35, 36, 37, 38, 39, 40] H_l (v00 - 1) (wC (⟨187, [.tup [.agg [30, 31], .agg [16, 17]], .tup []], 41⟩) (fun _ => q_cV (h := fun w hw => by exact pByRef_n _ _ _)) ?_)))))
       by_cases h9 : 0 ≤ (byRefN (⟨((at_ A.l (v00 - 1)).reeve), ((at_ A.l (v00 - 1)).number)⟩) (⟨((at_ A.l v00).reeve), ((at_ A.l v00).number)⟩))
       ·rw [if_pos h9]
        refine wT .geq 41 (J 0) h9 ?_
        exact wQ (fun hr => ⟨(0, v00, 8, l01, l02, l03, l04, l05, default, default, default, default, default, ()), rfl, Or.inl ⟨⟨rfl, (by first | trivial | omega | (simp only [List.length_append, List.length_cons, List.length_nil, List.length_set]; omega))⟩, rndEnd xeR hr⟩⟩) 15 ⟨10, [10, 11, 12, 13, 14], 0, [0, 1, 2, 3, 4], 4, [4, .int .i64 8, 5, 6, 7, 8, 9, 10, 11, 12, 13, 14]⟩ [] ⟨rfl, rfl, rfl, rfl, rfl, rfl, rfl, rfl, rfl, rfl, rfl, rfl, trivial⟩
       ·rw [if_neg h9]
        refine wF .geq 41 (J 0) h9 ?_
        by_cases h10 : (at_ A.l v00).reeve = 0
        ·rw [if_pos h10]
         refine wS (I (followsN l01 (at_ A.l v00)) :: []) (wE (⟨2000000000 + 158, [.ptr 9 0, 16], .ptr 9 0⟩) (fun _ => q_idxAt rfl rfl (c := 0) h10 (by kernel_rfl)) (wC (⟨190, [.tup [.sls 10 11 (J 0) 6 2, .agg [16, 17, 18, 19, 20, 21, 22, 23, 24, 25, 26]], .tup [5]], 42⟩) (fun _ => q_callT (.lst _ poC l01 l01 _ 11 _ _ _ _ 0 _ _ _ rfl rfl rfl rfl (by simp) (.val _ _ _ _ _ rfl .nil)) rfl rfl rfl (fun w xs hw hq => by obtain ⟨a0, b0, o0, κ0, _, rfl, hκ0, hL0, _, rfl, rfl⟩ := hq; exact pFollows_n hL0 hκ0 (show ((l01).length : Int) ≤ 1000 by omega) (show ((at_ A.l v00).kind = 4 ∨ (at_ A.l v00).kind = 5) → 1 ≤ (at_ A.l v00).of.number ∧ (at_ A.l v00).of.number < (at_ A.l v00).number by omega) (show 1 ≤ (at_ A.l v00).kind ∧ (at_ A.l v00).kind ≤ 5 by omega))) ?_))
         by_cases h11 : (followsN l01 (at_ A.l v00)) = 0
         ·rw [if_pos h11]
          refine wS (Codec.flat poC (l01 ++ [(at_ A.l v00)]) :: I ((l01.length : Int) + 1) :: I (v00 + 1) :: []) (wF .neq 42 (J 0) (fun h => h h11) (wE (⟨8000000000 + 200000011, [.tup [5, J 0, 6], .tup [.agg [16, 17, 18, 19, 20, 21, 22, 23, 24, 25, 26]]], .tup [43, 44]⟩) (fun _ => q_app1 (sz := 11) (C := poC) (X := l01) (e := (at_ A.l v00)) rfl rfl rfl rfl (by show some (l01.length : Int) = some (((l01).length : Int)); simp) rfl rfl (by show some ((l01.length : Int) + 1) = some (((l01).length : Int) + 1); simp) (by first | omega | (simp only [List.length_append, List.length_cons, List.length_nil]; omega))) (wA 4 (J 1) 45 ?_)))
          exact wQ (rnG (ih (v00 + 1) (l01 ++ [(at_ A.l v00)]) l02 l03 l04 l05 (by simp only [List.length_append, List.length_cons, List.length_nil, List.length_set]; omega) (by omega))) 15 ⟨10, [56, 11, 12, 13, 14], 0, [5, 1, 2, 3, 4], 4, [45, 43, 44, 7, 8, 9, 10, 11, 12, 13, 14]⟩ [] ⟨rfl, rfl, (show some (Value.int .i64 ((l01.length : Int) + 1)) = some (Value.int .i64 ((l01 ++ [(at_ A.l v00)]).length : Int)) from congrArg some (congrArg (Value.int .i64) (by simp))), rfl, rfl, rfl, rfl, rfl, rfl, rfl, rfl, trivial⟩
         ·rw [if_neg h11]
          refine wT .neq 42 (J 0) h11 ?_
          exact wQ (fun hr => ⟨(0, v00, (followsN l01 (at_ A.l v00)), l01, l02, l03, l04, l05, default, default, default, default, default, ()), rfl, Or.inl ⟨⟨rfl, (by first | trivial | omega | (simp only [List.length_append, List.length_cons, List.length_nil, List.length_set]; omega))⟩, rndEnd xeR hr⟩⟩) 15 ⟨10, [10, 11, 12, 13, 14], 0, [0, 1, 2, 3, 4], 4, [4, 42, 5, 6, 7, 8, 9, 10, 11, 12, 13, 14]⟩ [] ⟨rfl, rfl, rfl, rfl, rfl, rfl, rfl, rfl, rfl, rfl, rfl, rfl, trivial⟩
        ·rw [if_neg h10]
         by_cases h11 : (at_ A.l v00).reeve = 1
         ·rw [if_pos h11]
          refine wS (I (followsN l02 (at_ A.l v00)) :: []) (wE (⟨2000000000 + 158, [.ptr 9 0, 16], .ptr 9 1⟩) (fun _ => q_idxAt rfl rfl (c := 1) h11 (by kernel_rfl)) (wC (⟨190, [.tup [.sls 11 11 (J 0) 8 3, .agg [16, 17, 18, 19, 20, 21, 22, 23, 24, 25, 26]], .tup [7]], 42⟩) (fun _ => q_callT (.lst _ poC l02 l02 _ 11 _ _ _ _ 0 _ _ _ rfl rfl rfl rfl (by simp) (.val _ _ _ _ _ rfl .nil)) rfl rfl rfl (fun w xs hw hq => by obtain ⟨a0, b0, o0, κ0, _, rfl, hκ0, hL0, _, rfl, rfl⟩ := hq; exact pFollows_n hL0 hκ0 (show ((l02).length : Int) ≤ 1000 by omega) (show ((at_ A.l v00).kind = 4 ∨ (at_ A.l v00).kind = 5) → 1 ≤ (at_ A.l v00).of.number ∧ (at_ A.l v00).of.number < (at_ A.l v00).number by omega) (show 1 ≤ (at_ A.l v00).kind ∧ (at_ A.l v00).kind ≤ 5 by omega))) ?_))
          by_cases h12 : (followsN l02 (at_ A.l v00)) = 0
          ·rw [if_pos h12]
           refine wS (Codec.flat poC (l02 ++ [(at_ A.l v00)]) :: I ((l02.length : Int) + 1) :: I (v00 + 1) :: []) (wF .neq 42 (J 0) (fun h => h h12) (wE (⟨8000000000 + 200000011, [.tup [7, J 0, 8], .tup [.agg [16, 17, 18, 19, 20, 21, 22, 23, 24, 25, 26]]], .tup [43, 44]⟩) (fun _ => q_app1 (sz := 11) (C := poC) (X := l02) (e := (at_ A.l v00)) rfl rfl rfl rfl (by show some (l02.length : Int) = some (((l02).length : Int)); simp) rfl rfl (by show some ((l02.length : Int) + 1) = some (((l02).length : Int) + 1); simp) (by first | omega | (simp only [List.length_append, List.length_cons, List.length_nil]; omega))) (wA 4 (J 1) 45 ?_)))
           exact wQ (rnG (ih (v00 + 1) l01 (l02 ++ [(at_ A.l v00)]) l03 l04 l05 (by simp only [List.length_append, List.length_cons, List.length_nil, List.length_set]; omega) (by omega))) 15 ⟨10, [10, 56, 12, 13, 14], 0, [0, 5, 2, 3, 4], 4, [45, 5, 6, 43, 44, 9, 10, 11, 12, 13, 14]⟩ [] ⟨rfl, rfl, rfl, rfl, (show some (Value.int .i64 ((l02.length : Int) + 1)) = some (Value.int .i64 ((l02 ++ [(at_ A.l v00)]).length : Int)) from congrArg some (congrArg (Value.int .i64) (by simp))), rfl, rfl, rfl, rfl, rfl, rfl, trivial⟩
          ·rw [if_neg h12]
           refine wT .neq 42 (J 0) h12 ?_
           exact wQ (fun hr => ⟨(0, v00, (followsN l02 (at_ A.l v00)), l01, l02, l03, l04, l05, default, default, default, default, default, ()), rfl, Or.inl ⟨⟨rfl, (by first | trivial | omega | (simp only [List.length_append, List.length_cons, List.length_nil, List.length_set]; omega))⟩, rndEnd xeR hr⟩⟩) 15 ⟨10, [10, 11, 12, 13, 14], 0, [0, 1, 2, 3, 4], 4, [4, 42, 5, 6, 7, 8, 9, 10, 11, 12, 13, 14]⟩ [] ⟨rfl, rfl, rfl, rfl, rfl, rfl, rfl, rfl, rfl, rfl, rfl, rfl, trivial⟩
         ·rw [if_neg h11]
          by_cases h12 : (at_ A.l v00).reeve = 2
          ·rw [if_pos h12]
           refine wS (I (followsN l03 (at_ A.l v00)) :: []) (wE (⟨2000000000 + 158, [.ptr 9 0, 16], .ptr 9 2⟩) (fun _ => q_idxAt rfl rfl (c := 2) h12 (by kernel_rfl)) (wC (⟨190, [.tup [.sls 12 11 (J 0) 10 4, .agg [16, 17, 18, 19, 20, 21, 22, 23, 24, 25, 26]], .tup [9]], 42⟩) (fun _ => q_callT (.lst _ poC l03 l03 _ 11 _ _ _ _ 0 _ _ _ rfl rfl rfl rfl (by simp) (.val _ _ _ _ _ rfl .nil)) rfl rfl rfl (fun w xs hw hq => by obtain ⟨a0, b0, o0, κ0, _, rfl, hκ0, hL0, _, rfl, rfl⟩ := hq; exact pFollows_n hL0 hκ0 (show ((l03).length : Int) ≤ 1000 by omega) (show ((at_ A.l v00).kind = 4 ∨ (at_ A.l v00).kind = 5) → 1 ≤ (at_ A.l v00).of.number ∧ (at_ A.l v00).of.number < (at_ A.l v00).number by omega) (show 1 ≤ (at_ A.l v00).kind ∧ (at_ A.l v00).kind ≤ 5 by omega))) ?_))
           by_cases h13 : (followsN l03 (at_ A.l v00)) = 0
           ·rw [if_pos h13]
            refine wS (Codec.flat poC (l03 ++ [(at_ A.l v00)]) :: I ((l03.length : Int) + 1) :: I (v00 + 1) :: []) (wF .neq 42 (J 0) (fun h => h h13) (wE (⟨8000000000 + 200000011, [.tup [9, J 0, 10], .tup [.agg [16, 17, 18, 19, 20, 21, 22, 23, 24, 25, 26]]], .tup [43, 44]⟩) (fun _ => q_app1 (sz := 11) (C := poC) (X := l03) (e := (at_ A.l v00)) rfl rfl rfl rfl (by show some (l03.length : Int) = some (((l03).length : Int)); simp) rfl rfl (by show some ((l03.length : Int) + 1) = some (((l03).length : Int) + 1); simp) (by first | omega | (simp only [List.length_append, List.length_cons, List.length_nil]; omega))) (wA 4 (J 1) 45 ?_)))
            exact wQ (rnG (ih (v00 + 1) l01 l02 (l03 ++ [(at_ A.l v00)]) l04 l05 (by simp only [List.length_append, List.length_cons, List.length_nil, List.length_set]; omega) (by omega))) 15 ⟨10, [10, 11, 56, 13, 14], 0, [0, 1, 5, 3, 4], 4, [45, 5, 6, 7, 8, 43, 44, 11, 12, 13, 14]⟩ [] ⟨rfl, rfl, rfl, rfl, rfl, rfl, (show some (Value.int .i64 ((l03.length : Int) + 1)) = some (Value.int .i64 ((l03 ++ [(at_ A.l v00)]).length : Int)) from congrArg some (congrArg (Value.int .i64) (by simp))), rfl, rfl, rfl, rfl, trivial⟩
           ·rw [if_neg h13]
            refine wT .neq 42 (J 0) h13 ?_
            exact wQ (fun hr => ⟨(0, v00, (followsN l03 (at_ A.l v00)), l01, l02, l03, l04, l05, default, default, default, default, default, ()), rfl, Or.inl ⟨⟨rfl, (by first | trivial | omega | (simp only [List.length_append, List.length_cons, List.length_nil, List.length_set]; omega))⟩, rndEnd xeR hr⟩⟩) 15 ⟨10, [10, 11, 12, 13, 14], 0, [0, 1, 2, 3, 4], 4, [4, 42, 5, 6, 7, 8, 9, 10, 11, 12, 13, 14]⟩ [] ⟨rfl, rfl, rfl, rfl, rfl, rfl, rfl, rfl, rfl, rfl, rfl, rfl, trivial⟩
          ·rw [if_neg h12]
           by_cases h13 : (at_ A.l v00).reeve = 3
           ·rw [if_pos h13]
            refine wS (I (followsN l04 (at_ A.l v00)) :: []) (wE (⟨2000000000 + 158, [.ptr 9 0, 16], .ptr 9 3⟩) (fun _ => q_idxAt rfl rfl (c := 3) h13 (by kernel_rfl)) (wC (⟨190, [.tup [.sls 13 11 (J 0) 12 5, .agg [16, 17, 18, 19, 20, 21, 22, 23, 24, 25, 26]], .tup [11]], 42⟩) (fun _ => q_callT (.lst _ poC l04 l04 _ 11 _ _ _ _ 0 _ _ _ rfl rfl rfl rfl (by simp) (.val _ _ _ _ _ rfl .nil)) rfl rfl rfl (fun w xs hw hq => by obtain ⟨a0, b0, o0, κ0, _, rfl, hκ0, hL0, _, rfl, rfl⟩ := hq; exact pFollows_n hL0 hκ0 (show ((l04).length : Int) ≤ 1000 by omega) (show ((at_ A.l v00).kind = 4 ∨ (at_ A.l v00).kind = 5) → 1 ≤ (at_ A.l v00).of.number ∧ (at_ A.l v00).of.number < (at_ A.l v00).number by omega) (show 1 ≤ (at_ A.l v00).kind ∧ (at_ A.l v00).kind ≤ 5 by omega))) ?_))
            by_cases h14 : (followsN l04 (at_ A.l v00)) = 0
            ·rw [if_pos h14]
             refine wS (Codec.flat poC (l04 ++ [(at_ A.l v00)]) :: I ((l04.length : Int) + 1) :: I (v00 + 1) :: []) (wF .neq 42 (J 0) (fun h => h h14) (wE (⟨8000000000 + 200000011, [.tup [11, J 0, 12], .tup [.agg [16, 17, 18, 19, 20, 21, 22, 23, 24, 25, 26]]], .tup [43, 44]⟩) (fun _ => q_app1 (sz := 11) (C := poC) (X := l04) (e := (at_ A.l v00)) rfl rfl rfl rfl (by show some (l04.length : Int) = some (((l04).length : Int)); simp) rfl rfl (by show some ((l04.length : Int) + 1) = some (((l04).length : Int) + 1); simp) (by first | omega | (simp only [List.length_append, List.length_cons, List.length_nil]; omega))) (wA 4 (J 1) 45 ?_)))
             exact wQ (rnG (ih (v00 + 1) l01 l02 l03 (l04 ++ [(at_ A.l v00)]) l05 (by simp only [List.length_append, List.length_cons, List.length_nil, List.length_set]; omega) (by omega))) 15 ⟨10, [10, 11, 12, 56, 14], 0, [0, 1, 2, 5, 4], 4, [45, 5, 6, 7, 8, 9, 10, 43, 44, 13, 14]⟩ [] ⟨rfl, rfl, rfl, rfl, rfl, rfl, rfl, rfl, (show some (Value.int .i64 ((l04.length : Int) + 1)) = some (Value.int .i64 ((l04 ++ [(at_ A.l v00)]).length : Int)) from congrArg some (congrArg (Value.int .i64) (by simp))), rfl, rfl, trivial⟩
            ·rw [if_neg h14]
             refine wT .neq 42 (J 0) h14 ?_
             exact wQ (fun hr => ⟨(0, v00, (followsN l04 (at_ A.l v00)), l01, l02, l03, l04, l05, default, default, default, default, default, ()), rfl, Or.inl ⟨⟨rfl, (by first | trivial | omega | (simp only [List.length_append, List.length_cons, List.length_nil, List.length_set]; omega))⟩, rndEnd xeR hr⟩⟩) 15 ⟨10, [10, 11, 12, 13, 14], 0, [0, 1, 2, 3, 4], 4, [4, 42, 5, 6, 7, 8, 9, 10, 11, 12, 13, 14]⟩ [] ⟨rfl, rfl, rfl, rfl, rfl, rfl, rfl, rfl, rfl, rfl, rfl, rfl, trivial⟩
           ·rw [if_neg h13]
            refine wS (I (followsN l05 (at_ A.l v00)) :: []) (wE (⟨2000000000 + 158, [.ptr 9 0, 16], .ptr 9 4⟩) (fun _ => q_idxAt rfl rfl (c := 4) (show (at_ A.l v00).reeve = 4 by omega) (by kernel_rfl)) (wC (⟨190, [.tup [.sls 14 11 (J 0) 14 6, .agg [16, 17, 18, 19, 20, 21, 22, 23, 24, 25, 26]], .tup [13]], 42⟩) (fun _ => q_callT (.lst _ poC l05 l05 _ 11 _ _ _ _ 0 _ _ _ rfl rfl rfl rfl (by simp) (.val _ _ _ _ _ rfl .nil)) rfl rfl rfl (fun w xs hw hq => by obtain ⟨a0, b0, o0, κ0, _, rfl, hκ0, hL0, _, rfl, rfl⟩ := hq; exact pFollows_n hL0 hκ0 (show ((l05).length : Int) ≤ 1000 by omega) (show ((at_ A.l v00).kind = 4 ∨ (at_ A.l v00).kind = 5) → 1 ≤ (at_ A.l v00).of.number ∧ (at_ A.l v00).of.number < (at_ A.l v00).number by omega) (show 1 ≤ (at_ A.l v00).kind ∧ (at_ A.l v00).kind ≤ 5 by omega))) ?_))
            by_cases h14 : (followsN l05 (at_ A.l v00)) = 0
            ·rw [if_pos h14]
             refine wS (Codec.flat poC (l05 ++ [(at_ A.l v00)]) :: I ((l05.length : Int) + 1) :: I (v00 + 1) :: []) (wF .neq 42 (J 0) (fun h => h h14) (wE (⟨8000000000 + 200000011, [.tup [13, J 0, 14], .tup [.agg [16, 17, 18, 19, 20, 21, 22, 23, 24, 25, 26]]], .tup [43, 44]⟩) (fun _ => q_app1 (sz := 11) (C := poC) (X := l05) (e := (at_ A.l v00)) rfl rfl rfl rfl (by show some (l05.length : Int) = some (((l05).length : Int)); simp) rfl rfl (by show some ((l05.length : Int) + 1) = some (((l05).length : Int) + 1); simp) (by first | omega | (simp only [List.length_append, List.length_cons, List.length_nil]; omega))) (wA 4 (J 1) 45 ?_)))
             exact wQ (rnG (ih (v00 + 1) l01 l02 l03 l04 (l05 ++ [(at_ A.l v00)]) (by simp only [List.length_append, List.length_cons, List.length_nil, List.length_set]; omega) (by omega))) 15 ⟨10, [10, 11, 12, 13, 56], 0, [0, 1, 2, 3, 5], 4, [45, 5, 6, 7, 8, 9, 10, 11, 12, 43, 44]⟩ [] ⟨rfl, rfl, rfl, rfl, rfl, rfl, rfl, rfl, rfl, rfl, (show some (Value.int .i64 ((l05.length : Int) + 1)) = some (Value.int .i64 ((l05 ++ [(at_ A.l v00)]).length : Int)) from congrArg some (congrArg (Value.int .i64) (by simp))), trivial⟩
            ·rw [if_neg h14]
             refine wT .neq 42 (J 0) h14 ?_
             exact wQ (fun hr => ⟨(0, v00, (followsN l05 (at_ A.l v00)), l01, l02, l03, l04, l05, default, default, default, default, default, ()), rfl, Or.inl ⟨⟨rfl, (by first | trivial | omega | (simp only [List.length_append, List.length_cons, List.length_nil, List.length_set]; omega))⟩, rndEnd xeR hr⟩⟩) 15 ⟨10, [10, 11, 12, 13, 14], 0, [0, 1, 2, 3, 4], 4, [4, 42, 5, 6, 7, 8, 9, 10, 11, 12, 13, 14]⟩ [] ⟨rfl, rfl, rfl, rfl, rfl, rfl, rfl, rfl, rfl, rfl, rfl, rfl, trivial⟩
      ·rw [if_neg h8]
       refine wF .gtr 4 (J 0) h8 ?_
       by_cases h9 : (at_ A.l v00).reeve = 0
       ·rw [if_pos h9]
        refine wS (I (followsN l01 (at_ A.l v00)) :: []) (wE (⟨2000000000 + 158, [.ptr 9 0, 16], .ptr 9 0⟩) (fun _ => q_idxAt rfl rfl (c := 0) h9 (by kernel_rfl)) (wC (⟨190, [.tup [.sls 10 11 (J 0) 6 2, .agg [16, 17, 18, 19, 20, 21, 22, 23, 24, 25, 26]], .tup [5]], 28⟩) (fun _ => q_callT (.lst _ poC l01 l01 _ 11 _ _ _ _ 0 _ _ _ rfl rfl rfl rfl (by simp) (.val _ _ _ _ _ rfl .nil)) rfl rfl rfl (fun w xs hw hq => by obtain ⟨a0, b0, o0, κ0, _, rfl, hκ0, hL0, _, rfl, rfl⟩ := hq; exact pFollows_n hL0 hκ0 (show ((l01).length : Int) ≤ 1000 by omega) (show ((at_ A.l v00).kind = 4 ∨ (at_ A.l v00).kind = 5) → 1 ≤ (at_ A.l v00).of.number ∧ (at_ A.l v00).of.number < (at_ A.l v00).number by omega) (show 1 ≤ (at_ A.l v00).kind ∧ (at_ A.l v00).kind ≤ 5 by omega))) ?_))
        by_cases h10 : (followsN l01 (at_ A.l v00)) = 0
        ·rw [if_pos h10]
         refine wS (Codec.flat poC (l01 ++ [(at_ A.l v00)]) :: I ((l01.length : Int) + 1) :: I (v00 + 1) :: []) (wF .neq 28 (J 0) (fun h => h h10) (wE (⟨8000000000 + 200000011, [.tup [5, J 0, 6], .tup [.agg [16, 17, 18, 19, 20, 21, 22, 23, 24, 25, 26]]], .tup [29, 30]⟩) (fun _ => q_app1 (sz := 11) (C := poC) (X := l01) (e := (at_ A.l v00)) rfl rfl rfl rfl (by show some (l01.length : Int) = some (((l01).length : Int)); simp) rfl rfl (by show some ((l01.length : Int) + 1) = some (((l01).length : Int) + 1); simp) (by first | omega | (simp only [List.length_append, List.length_cons, List.length_nil]; omega))) (wA 4 (J 1) 31 ?_)))
         exact wQ (rnG (ih (v00 + 1) (l01 ++ [(at_ A.l v00)]) l02 l03 l04 l05 (by simp only [List.length_append, List.length_cons, List.length_nil, List.length_set]; omega) (by omega))) 15 ⟨10, [52, 11, 12, 13, 14], 0, [5, 1, 2, 3, 4], 4, [31, 29, 30, 7, 8, 9, 10, 11, 12, 13, 14]⟩ [] ⟨rfl, rfl, (show some (Value.int .i64 ((l01.length : Int) + 1)) = some (Value.int .i64 ((l01 ++ [(at_ A.l v00)]).length : Int)) from congrArg some (congrArg (Value.int .i64) (by simp))), rfl, rfl, rfl, rfl, rfl, rfl, rfl, rfl, trivial⟩
        ·rw [if_neg h10]
         refine wT .neq 28 (J 0) h10 ?_
         exact wQ (fun hr => ⟨(0, v00, (followsN l01 (at_ A.l v00)), l01, l02, l03, l04, l05, default, default, default, default, default, ()), rfl, Or.inl ⟨⟨rfl, (by first | trivial | omega | (simp only [List.length_append, List.length_cons, List.length_nil, List.length_set]; omega))⟩, rndEnd xeR hr⟩⟩) 15 ⟨10, [10, 11, 12, 13, 14], 0, [0, 1, 2, 3, 4], 4, [4, 28, 5, 6, 7, 8, 9, 10, 11, 12, 13, 14]⟩ [] ⟨rfl, rfl, rfl, rfl, rfl, rfl, rfl, rfl, rfl, rfl, rfl, rfl, trivial⟩
       ·rw [if_neg h9]
        by_cases h10 : (at_ A.l v00).reeve = 1
        ·rw [if_pos h10]
         refine wS (I (followsN l02 (at_ A.l v00)) :: []) (wE (⟨2000000000 + 158, [.ptr 9 0, 16], .ptr 9 1⟩) (fun _ => q_idxAt rfl rfl (c := 1) h10 (by kernel_rfl)) (wC (⟨190, [.tup [.sls 11 11 (J 0) 8 3, .agg [16, 17, 18, 19, 20, 21, 22, 23, 24, 25, 26]], .tup [7]], 28⟩) (fun _ => q_callT (.lst _ poC l02 l02 _ 11 _ _ _ _ 0 _ _ _ rfl rfl rfl rfl (by simp) (.val _ _ _ _ _ rfl .nil)) rfl rfl rfl (fun w xs hw hq => by obtain ⟨a0, b0, o0, κ0, _, rfl, hκ0, hL0, _, rfl, rfl⟩ := hq; exact pFollows_n hL0 hκ0 (show ((l02).length : Int) ≤ 1000 by omega) (show ((at_ A.l v00).kind = 4 ∨ (at_ A.l v00).kind = 5) → 1 ≤ (at_ A.l v00).of.number ∧ (at_ A.l v00).of.number < (at_ A.l v00).number by omega) (show 1 ≤ (at_ A.l v00).kind ∧ (at_ A.l v00).kind ≤ 5 by omega))) ?_))
         by_cases h11 : (followsN l02 (at_ A.l v00)) = 0
         ·rw [if_pos h11]
          refine wS (Codec.flat poC (l02 ++ [(at_ A.l v00)]) :: I ((l02.length : Int) + 1) :: I (v00 + 1) :: []) (wF .neq 28 (J 0) (fun h => h h11) (wE (⟨8000000000 + 200000011, [.tup [7, J 0, 8], .tup [.agg [16, 17, 18, 19, 20, 21, 22, 23, 24, 25, 26]]], .tup [29, 30]⟩) (fun _ => q_app1 (sz := 11) (C := poC) (X := l02) (e := (at_ A.l v00)) rfl rfl rfl rfl (by show some (l02.length : Int) = some (((l02).length : Int)); simp) rfl rfl (by show some ((l02.length : Int) + 1) = some (((l02).length : Int) + 1); simp) (by first | omega | (simp only [List.length_append, List.length_cons, List.length_nil]; omega))) (wA 4 (J 1) 31 ?_)))
          exact wQ (rnG (ih (v00 + 1) l01 (l02 ++ [(at_ A.l v00)]) l03 l04 l05 (by simp only [List.length_append, List.length_cons, List.length_nil, List.length_set]; omega) (by omega))) 15 ⟨10, [10, 52, 12, 13, 14], 0, [0, 5, 2, 3, 4], 4, [31, 5, 6, 29, 30, 9, 10, 11, 12, 13, 14]⟩ [] ⟨rfl, rfl, rfl, rfl, (show some (Value.int .i64 ((l02.length : Int) + 1)) = some (Value.int .i64 ((l02 ++ [(at_ A.l v00)]).length : Int)) from congrArg some (congrArg (Value.int .i64) (by simp))), rfl, rfl, rfl, rfl, rfl, rfl, trivial⟩
         ·rw [if_neg h11]
          refine wT .neq 28 (J 0) h11 ?_
          exact wQ (fun hr => ⟨(0, v00, (followsN l02 (at_ A.l v00)), l01, l02, l03, l04, l05, default, default, default, default, default, ()), rfl, Or.inl ⟨⟨rfl, (by first | trivial | omega | (simp only [List.length_append, List.length_cons, List.length_nil, List.length_set]; omega))⟩, rndEnd xeR hr⟩⟩) 15 ⟨10, [10, 11, 12, 13, 14], 0, [0, 1, 2, 3, 4], 4, [4, 28, 5, 6, 7, 8, 9, 10, 11, 12, 13, 14]⟩ [] ⟨rfl, rfl, rfl, rfl, rfl, rfl, rfl, rfl, rfl, rfl, rfl, rfl, trivial⟩
        ·rw [if_neg h10]
         by_cases h11 : (at_ A.l v00).reeve = 2
         ·rw [if_pos h11]
          refine wS (I (followsN l03 (at_ A.l v00)) :: []) (wE (⟨2000000000 + 158, [.ptr 9 0, 16], .ptr 9 2⟩) (fun _ => q_idxAt rfl rfl (c := 2) h11 (by kernel_rfl)) (wC (⟨190, [.tup [.sls 12 11 (J 0) 10 4, .agg [16, 17, 18, 19, 20, 21, 22, 23, 24, 25, 26]], .tup [9]], 28⟩) (fun _ => q_callT (.lst _ poC l03 l03 _ 11 _ _ _ _ 0 _ _ _ rfl rfl rfl rfl (by simp) (.val _ _ _ _ _ rfl .nil)) rfl rfl rfl (fun w xs hw hq => by obtain ⟨a0, b0, o0, κ0, _, rfl, hκ0, hL0, _, rfl, rfl⟩ := hq; exact pFollows_n hL0 hκ0 (show ((l03).length : Int) ≤ 1000 by omega) (show ((at_ A.l v00).kind = 4 ∨ (at_ A.l v00).kind = 5) → 1 ≤ (at_ A.l v00).of.number ∧ (at_ A.l v00).of.number < (at_ A.l v00).number by omega) (show 1 ≤ (at_ A.l v00).kind ∧ (at_ A.l v00).kind ≤ 5 by omega))) ?_))
          by_cases h12 : (followsN l03 (at_ A.l v00)) = 0
          ·rw [if_pos h12]
           refine wS (Codec.flat poC (l03 ++ [(at_ A.l v00)]) :: I ((l03.length : Int) + 1) :: I (v00 + 1) :: []) (wF .neq 28 (J 0) (fun h => h h12) (wE (⟨8000000000 + 200000011, [.tup [9, J 0, 10], .tup [.agg [16, 17, 18, 19, 20, 21, 22, 23, 24, 25, 26]]], .tup [29, 30]⟩) (fun _ => q_app1 (sz := 11) (C := poC) (X := l03) (e := (at_ A.l v00)) rfl rfl rfl rfl (by show some (l03.length : Int) = some (((l03).length : Int)); simp) rfl rfl (by show some ((l03.length : Int) + 1) = some (((l03).length : Int) + 1); simp) (by first | omega | (simp only [List.length_append, List.length_cons, List.length_nil]; omega))) (wA 4 (J 1) 31 ?_)))
           exact wQ (rnG (ih (v00 + 1) l01 l02 (l03 ++ [(at_ A.l v00)]) l04 l05 (by simp only [List.length_append, List.length_cons, List.length_nil, List.length_set]; omega) (by omega))) 15 ⟨10, [10, 11, 52, 13, 14], 0, [0, 1, 5, 3, 4], 4, [31, 5, 6, 7, 8, 29, 30, 11, 12, 13, 14]⟩ [] ⟨rfl, rfl, rfl, rfl, rfl, rfl, (show some (Value.int .i64 ((l03.length : Int) + 1)) = some (Value.int .i64 ((l03 ++ [(at_ A.l v00)]).length : Int)) from congrArg some (congrArg (Value.int .i64) (by simp))), rfl, rfl, rfl, rfl, trivial⟩
          ·rw [if_neg h12]
           refine wT .neq 28 (J 0) h12 ?_
           exact wQ (fun hr => ⟨(0, v00, (followsN l03 (at_ A.l v00)), l01, l02, l03, l04, l05, default, default, default, default, default, ()), rfl, Or.inl ⟨⟨rfl, (by first | trivial | omega | (simp only [List.length_append, List.length_cons, List.length_nil, List.length_set]; omega))⟩, rndEnd xeR hr⟩⟩) 15 ⟨10, [10, 11, 12, 13, 14], 0, [0, 1, 2, 3, 4], 4, [4, 28, 5, 6, 7, 8, 9, 10, 11, 12, 13, 14]⟩ [] ⟨rfl, rfl, rfl, rfl, rfl, rfl, rfl, rfl, rfl, rfl, rfl, rfl, trivial⟩
         ·rw [if_neg h11]
          by_cases h12 : (at_ A.l v00).reeve = 3
          ·rw [if_pos h12]
           refine wS (I (followsN l04 (at_ A.l v00)) :: []) (wE (⟨2000000000 + 158, [.ptr 9 0, 16], .ptr 9 3⟩) (fun _ => q_idxAt rfl rfl (c := 3) h12 (by kernel_rfl)) (wC (⟨190, [.tup [.sls 13 11 (J 0) 12 5, .agg [16, 17, 18, 19, 20, 21, 22, 23, 24, 25, 26]], .tup [11]], 28⟩) (fun _ => q_callT (.lst _ poC l04 l04 _ 11 _ _ _ _ 0 _ _ _ rfl rfl rfl rfl (by simp) (.val _ _ _ _ _ rfl .nil)) rfl rfl rfl (fun w xs hw hq => by obtain ⟨a0, b0, o0, κ0, _, rfl, hκ0, hL0, _, rfl, rfl⟩ := hq; exact pFollows_n hL0 hκ0 (show ((l04).length : Int) ≤ 1000 by omega) (show ((at_ A.l v00).kind = 4 ∨ (at_ A.l v00).kind = 5) → 1 ≤ (at_ A.l v00).of.number ∧ (at_ A.l v00).of.number < (at_ A.l v00).number by omega) (show 1 ≤ (at_ A.l v00).kind ∧ (at_ A.l v00).kind ≤ 5 by omega))) ?_))
           by_cases h13 : (followsN l04 (at_ A.l v00)) = 0
           ·rw [if_pos h13]
            refine wS (Codec.flat poC (l04 ++ [(at_ A.l v00)]) :: I ((l04.length : Int) + 1) :: I (v00 + 1) :: []) (wF .neq 28 (J 0) (fun h => h h13) (wE (⟨8000000000 + 200000011, [.tup [11, J 0, 12], .tup [.agg [16, 17, 18, 19, 20, 21, 22, 23, 24, 25, 26]]], .tup [29, 30]⟩) (fun _ => q_app1 (sz := 11) (C := poC) (X := l04) (e := (at_ A.l v00)) rfl rfl rfl rfl (by show some (l04.length : Int) = some (((l04).length : Int)); simp) rfl rfl (by show some ((l04.length : Int) + 1) = some (((l04).length : Int) + 1); simp) (by first | omega | (simp only [List.length_append, List.length_cons, List.length_nil]; omega))) (wA 4 (J 1) 31 ?_)))
            exact wQ (rnG (ih (v00 + 1) l01 l02 l03 (l04 ++ [(at_ A.l v00)]) l05 (by simp only [List.length_append, List.length_cons, List.length_nil, List.length_set]; omega) (by omega))) 15 ⟨10, [10, 11, 12, 52, 14], 0, [0, 1, 2, 5, 4], 4, [31, 5, 6, 7, 8, 9, 10, 29, 30, 13, 14]⟩ [] ⟨rfl, rfl, rfl, rfl, rfl, rfl, rfl, rfl, (show some (Value.int .i64 ((l04.length : Int) + 1)) = some (Value.int .i64 ((l04 ++ [(at_ A.l v00)]).length : Int)) from congrArg some (congrArg (Value.int .i64) (by simp))), rfl, rfl, trivial⟩
           ·rw [if_neg h13]
            refine wT .neq 28 (J 0) h13 ?_
            exact wQ (fun hr => ⟨(0, v00, (followsN l04 (at_ A.l v00)), l01, l02, l03, l04, l05, default, default, default, default, default, ()), rfl, Or.inl ⟨⟨rfl, (by first | trivial | omega | (simp only [List.length_append, List.length_cons, List.length_nil, List.length_set]; omega))⟩, rndEnd xeR hr⟩⟩) 15 ⟨10, [10, 11, 12, 13, 14], 0, [0, 1, 2, 3, 4], 4, [4, 28, 5, 6, 7, 8, 9, 10, 11, 12, 13, 14]⟩ [] ⟨rfl, rfl, rfl, rfl, rfl, rfl, rfl, rfl, rfl, rfl, rfl, rfl, trivial⟩
          ·rw [if_neg h12]
           refine wS (I (followsN l05 (at_ A.l v00)) :: []) (wE (⟨2000000000 + 158, [.ptr 9 0, 16], .ptr 9 4⟩) (fun _ => q_idxAt rfl rfl (c := 4) (show (at_ A.l v00).reeve = 4 by omega) (by kernel_rfl)) (wC (⟨190, [.tup [.sls 14 11 (J 0) 14 6, .agg [16, 17, 18, 19, 20, 21, 22, 23, 24, 25, 26]], .tup [13]], 28⟩) (fun _ => q_callT (.lst _ poC l05 l05 _ 11 _ _ _ _ 0 _ _ _ rfl rfl rfl rfl (by simp) (.val _ _ _ _ _ rfl .nil)) rfl rfl rfl (fun w xs hw hq => by obtain ⟨a0, b0, o0, κ0, _, rfl, hκ0, hL0, _, rfl, rfl⟩ := hq; exact pFollows_n hL0 hκ0 (show ((l05).length : Int) ≤ 1000 by omega) (show ((at_ A.l v00).kind = 4 ∨ (at_ A.l v00).kind = 5) → 1 ≤ (at_ A.l v00).of.number ∧ (at_ A.l v00).of.number < (at_ A.l v00).number by omega) (show 1 ≤ (at_ A.l v00).kind ∧ (at_ A.l v00).kind ≤ 5 by omega))) ?_))
           by_cases h13 : (followsN l05 (at_ A.l v00)) = 0
           ·rw [if_pos h13]
            refine wS (Codec.flat poC (l05 ++ [(at_ A.l v00)]) :: I ((l05.length : Int) + 1) :: I (v00 + 1) :: []) (wF .neq 28 (J 0) (fun h => h h13) (wE (⟨8000000000 + 200000011, [.tup [13, J 0, 14], .tup [.agg [16, 17, 18, 19, 20, 21, 22, 23, 24, 25, 26]]], .tup [29, 30]⟩) (fun _ => q_app1 (sz := 11) (C := poC) (X := l05) (e := (at_ A.l v00)) rfl rfl rfl rfl (by show some (l05.length : Int) = some (((l05).length : Int)); simp) rfl rfl (by show some ((l05.length : Int) + 1) = some (((l05).length : Int) + 1); simp) (by first | omega | (simp only [List.length_append, List.length_cons, List.length_nil]; omega))) (wA 4 (J 1) 31 ?_)))
            exact wQ (rnG (ih (v00 + 1) l01 l02 l03 l04 (l05 ++ [(at_ A.l v00)]) (by simp only [List.length_append, List.length_cons, List.length_nil, List.length_set]; omega) (by omega))) 15 ⟨10, [10, 11, 12, 13, 52], 0, [0, 1, 2, 3, 5], 4, [31, 5, 6, 7, 8, 9, 10, 11, 12, 29, 30]⟩ [] ⟨rfl, rfl, rfl, rfl, rfl, rfl, rfl, rfl, rfl, rfl, (show some (Value.int .i64 ((l05.length : Int) + 1)) = some (Value.int .i64 ((l05 ++ [(at_ A.l v00)]).length : Int)) from congrArg some (congrArg (Value.int .i64) (by simp))), trivial⟩
           ·rw [if_neg h13]
            refine wT .neq 28 (J 0) h13 ?_
            exact wQ (fun hr => ⟨(0, v00, (followsN l05 (at_ A.l v00)), l01, l02, l03, l04, l05, default, default, default, default, default, ()), rfl, Or.inl ⟨⟨rfl, (by first | trivial | omega | (simp only [List.length_append, List.length_cons, List.length_nil, List.length_set]; omega))⟩, rndEnd xeR hr⟩⟩) 15 ⟨10, [10, 11, 12, 13, 14], 0, [0, 1, 2, 3, 4], 4, [4, 28, 5, 6, 7, 8, 9, 10, 11, 12, 13, 14]⟩ [] ⟨rfl, rfl, rfl, rfl, rfl, rfl, rfl, rfl, rfl, rfl, rfl, rfl, trivial⟩
     ·rw [if_neg h7]
      refine wF .eql 27 (J 0) h7 (wT .neq 27 (J 0) (show ¬ ((checkN A.n (at_ A.l v00)) = 0) by omega) ?_)
      exact wQ (fun hr => ⟨(0, v00, (checkN A.n (at_ A.l v00)), l01, l02, l03, l04, l05, default, default, default, default, default, ()), rfl, Or.inl ⟨⟨rfl, (by first | trivial | omega | (simp only [List.length_append, List.length_cons, List.length_nil, List.length_set]; omega))⟩, rndEnd xeR hr⟩⟩) 15 ⟨10, [10, 11, 12, 13, 14], 0, [0, 1, 2, 3, 4], 4, [4, 27, 5, 6, 7, 8, 9, 10, 11, 12, 13, 14]⟩ [] ⟨rfl, rfl, rfl, rfl, rfl, rfl, rfl, rfl, rfl, rfl, rfl, rfl, trivial⟩
    ·rw [if_neg h5]
     refine wF .lss 4 3 h5 ?_
     exact wQ (fun hr => ⟨(1, default, default, default, default, default, default, default, l01, l02, l03, l04, l05, ()), rfl, Or.inr (⟨⟨rfl, (by first | trivial | omega | (simp only [List.length_append, List.length_cons, List.length_nil, List.length_set]; omega))⟩, rndEnd xeE hr⟩)⟩) 15 ⟨10, [10, 11, 12, 13, 14], 0, [0, 1, 2, 3, 4], 4, [5, 6, 7, 8, 9, 10, 11, 12, 13, 14]⟩ [] ⟨rfl, rfl, rfl, rfl, rfl, rfl, rfl, rfl, rfl, rfl, trivial⟩
  obtain ⟨⟨q4, x0_00, x0_01, y0_02, y0_03, y0_04, y0_05, y0_06, y0_10, y0_11, y0_12, y0_13, y0_14, _⟩, h4, hk4⟩ := key4 ((((A.l.length : Int) - 0) : Int).toNat + 1) 0 ([]) ([]) ([]) ([]) ([]) (by first | trivial | omega | (simp only [List.length_append, List.length_cons, List.length_nil, List.length_set]; omega)) (by first | omega | (simp only [List.length_append, List.length_cons, List.length_nil, List.length_set]; omega))
  rw [h4]
  rcases hk4 with ⟨⟨he4, h5⟩, hr4⟩ | ⟨⟨he4, h5⟩, hr4⟩
  ·have he4 : q4 = 0 := he4
   subst he4
   have h5 : 0 ≤ x0_00 ∧ x0_00 < (A.l.length : Int) ∧ x0_00 ≤ (A.l.length : Int) ∧ (y0_02.length : Int) ≤ (A.l.length : Int) ∧ (y0_03.length : Int) ≤ (A.l.length : Int) ∧ (y0_04.length : Int) ≤ (A.l.length : Int) ∧ (y0_05.length : Int) ≤ (A.l.length : Int) ∧ (y0_06.length : Int) ≤ (A.l.length : Int) := h5
   refine wS (I x0_00 :: I x0_01 :: Codec.flat poC y0_02 :: I (y0_02.length : Int) :: Codec.flat poC y0_03 :: I (y0_03.length : Int) :: Codec.flat poC y0_04 :: I (y0_04.length : Int) :: Codec.flat poC y0_05 :: I (y0_05.length : Int) :: Codec.flat poC y0_06 :: I (y0_06.length : Int) :: []) ?_
   refine wLp (x := .ret) rfl hr4 pK_L0_R [11, 11, 11, 11, 11] (fun _ => rfl) (by kernel_rfl) (fun _ => rfl) (fun _ => ⟨rfl, rfl, (show some (Value.int .i64 0) = some (Value.int .i64 (([]).length : Int)) from congrArg some (congrArg (Value.int .i64) (by simp))), rfl, (show some (Value.int .i64 0) = some (Value.int .i64 (([]).length : Int)) from congrArg some (congrArg (Value.int .i64) (by simp))), rfl, (show some (Value.int .i64 0) = some (Value.int .i64 (([]).length : Int)) from congrArg some (congrArg (Value.int .i64) (by simp))), rfl, (show some (Value.int .i64 0) = some (Value.int .i64 (([]).length : Int)) from congrArg some (congrArg (Value.int .i64) (by simp))), rfl, (show some (Value.int .i64 0) = some (Value.int .i64 (([]).length : Int)) from congrArg some (congrArg (Value.int .i64) (by simp))), trivial⟩) (fun _ => rfl) ?_
   exact wRetL (v := .tup [.agg [.sls 10 11 (.int .i64 0) 7 2, .sls 11 11 (.int .i64 0) 9 3, .sls 12 11 (.int .i64 0) 11 4, .sls 13 11 (.int .i64 0) 13 5, .sls 14 11 (.int .i64 0) 15 6], 4, 5]) (rs := [⟨(y0_02 : List Po).flatMap poC.f, 11, (y0_02 : List Po).length⟩, ⟨(y0_03 : List Po).flatMap poC.f, 11, (y0_03 : List Po).length⟩, ⟨(y0_04 : List Po).flatMap poC.f, 11, (y0_04 : List Po).length⟩, ⟨(y0_05 : List Po).flatMap poC.f, 11, (y0_05 : List Po).length⟩, ⟨(y0_06 : List Po).flatMap poC.f, 11, (y0_06 : List Po).length⟩]) ok0 60 60 [1, 2] [(10, .lst 6 11 1), (11, .lst 8 11 2), (12, .lst 10 11 3), (13, .lst 12 11 4), (14, .lst 14 11 5)] rfl rfl rfl (by kernel_rfl) ⟨⟨rfl, by decide, ⟨6, 1, rfl, rfl, .inr ⟨rfl, by decide⟩⟩, rfl, (by show some ((y0_02.length : Int) : Int) = some ((y0_02).length : Int); simp), rfl, flat_length _ _⟩, ⟨⟨rfl, by decide, ⟨8, 2, rfl, rfl, .inr ⟨rfl, by decide⟩⟩, rfl, (by show some ((y0_03.length : Int) : Int) = some ((y0_03).length : Int); simp), rfl, flat_length _ _⟩, ⟨⟨rfl, by decide, ⟨10, 3, rfl, rfl, .inr ⟨rfl, by decide⟩⟩, rfl, (by show some ((y0_04.length : Int) : Int) = some ((y0_04).length : Int); simp), rfl, flat_length _ _⟩, ⟨⟨rfl, by decide, ⟨12, 4, rfl, rfl, .inr ⟨rfl, by decide⟩⟩, rfl, (by show some ((y0_05.length : Int) : Int) = some ((y0_05).length : Int); simp), rfl, flat_length _ _⟩, ⟨⟨rfl, by decide, ⟨14, 5, rfl, rfl, .inr ⟨rfl, by decide⟩⟩, rfl, (by show some ((y0_06.length : Int) : Int) = some ((y0_06).length : Int); simp), rfl, flat_length _ _⟩, trivial⟩⟩⟩⟩⟩ (fun zs hz => match zs, hz with | [_, _, _, _, _], _ => rfl)
  ·have he4 : q4 = 1 := he4
   subst he4
   have h5 : (y0_10.length : Int) ≤ (A.l.length : Int) ∧ (y0_11.length : Int) ≤ (A.l.length : Int) ∧ (y0_12.length : Int) ≤ (A.l.length : Int) ∧ (y0_13.length : Int) ≤ (A.l.length : Int) ∧ (y0_14.length : Int) ≤ (A.l.length : Int) := h5
   refine wS (Codec.flat poC y0_10 :: I (y0_10.length : Int) :: Codec.flat poC y0_11 :: I (y0_11.length : Int) :: Codec.flat poC y0_12 :: I (y0_12.length : Int) :: Codec.flat poC y0_13 :: I (y0_13.length : Int) :: Codec.flat poC y0_14 :: I (y0_14.length : Int) :: []) ?_
   refine wLp (x := (.exit 0)) rfl hr4 pK_L0_R [11, 11, 11, 11, 11] (fun _ => rfl) (by kernel_rfl) (fun _ => rfl) (fun _ => ⟨rfl, rfl, (show some (Value.int .i64 0) = some (Value.int .i64 (([]).length : Int)) from congrArg some (congrArg (Value.int .i64) (by simp))), rfl, (show some (Value.int .i64 0) = some (Value.int .i64 (([]).length : Int)) from congrArg some (congrArg (Value.int .i64) (by simp))), rfl, (show some (Value.int .i64 0) = some (Value.int .i64 (([]).length : Int)) from congrArg some (congrArg (Value.int .i64) (by simp))), rfl, (show some (Value.int .i64 0) = some (Value.int .i64 (([]).length : Int)) from congrArg some (congrArg (Value.int .i64) (by simp))), rfl, (show some (Value.int .i64 0) = some (Value.int .i64 (([]).length : Int)) from congrArg some (congrArg (Value.int .i64) (by simp))), trivial⟩) (fun _ => rfl) ?_
   exact wRetL (v := .tup [.agg [.sls 10 11 (.int .i64 0) 5 2, .sls 11 11 (.int .i64 0) 7 3, .sls 12 11 (.int .i64 0) 9 4, .sls 13 11 (.int .i64 0) 11 5, .sls 14 11 (.int .i64 0) 13 6], .int .i64 0, .int .i64 0]) (rs := [⟨(y0_10 : List Po).flatMap poC.f, 11, (y0_10 : List Po).length⟩, ⟨(y0_11 : List Po).flatMap poC.f, 11, (y0_11 : List Po).length⟩, ⟨(y0_12 : List Po).flatMap poC.f, 11, (y0_12 : List Po).length⟩, ⟨(y0_13 : List Po).flatMap poC.f, 11, (y0_13 : List Po).length⟩, ⟨(y0_14 : List Po).flatMap poC.f, 11, (y0_14 : List Po).length⟩]) ok0 60 60 [1, 2] [(10, .lst 4 11 1), (11, .lst 6 11 2), (12, .lst 8 11 3), (13, .lst 10 11 4), (14, .lst 12 11 5)] rfl rfl rfl (by kernel_rfl) ⟨⟨rfl, by decide, ⟨4, 1, rfl, rfl, .inr ⟨rfl, by decide⟩⟩, rfl, (by show some ((y0_10.length : Int) : Int) = some ((y0_10).length : Int); simp), rfl, flat_length _ _⟩, ⟨⟨rfl, by decide, ⟨6, 2, rfl, rfl, .inr ⟨rfl, by decide⟩⟩, rfl, (by show some ((y0_11.length : Int) : Int) = some ((y0_11).length : Int); simp), rfl, flat_length _ _⟩, ⟨⟨rfl, by decide, ⟨8, 3, rfl, rfl, .inr ⟨rfl, by decide⟩⟩, rfl, (by show some ((y0_12.length : Int) : Int) = some ((y0_12).length : Int); simp), rfl, flat_length _ _⟩, ⟨⟨rfl, by decide, ⟨10, 4, rfl, rfl, .inr ⟨rfl, by decide⟩⟩, rfl, (by show some ((y0_13.length : Int) : Int) = some ((y0_13).length : Int); simp), rfl, flat_length _ _⟩, ⟨⟨rfl, by decide, ⟨12, 5, rfl, rfl, .inr ⟨rfl, by decide⟩⟩, rfl, (by show some ((y0_14.length : Int) : Int) = some ((y0_14).length : Int); simp), rfl, flat_length _ _⟩, trivial⟩⟩⟩⟩⟩ (fun zs hz => match zs, hz with | [_, _, _, _, _], _ => rfl)
 ·rw [if_neg h3]
  refine wC (⟨75, [.tup [1], .tup []], (.bool false)⟩) (fun _ => q_cV (h := fun w hw => by have hb := decide_eq_false h3; rw [← hb]; exact pMany_n _ _)) ?_
  exact wRetL (v := .tup [.agg [.ns, .ns, .ns, .ns, .ns], .int .i64 0, .int .i64 1]) (rs := [⟨([] : List Po).flatMap poC.f, 11, ([] : List Po).length⟩, ⟨([] : List Po).flatMap poC.f, 11, ([] : List Po).length⟩, ⟨([] : List Po).flatMap poC.f, 11, ([] : List Po).length⟩, ⟨([] : List Po).flatMap poC.f, 11, ([] : List Po).length⟩, ⟨([] : List Po).flatMap poC.f, 11, ([] : List Po).length⟩]) ok0 60 60 [1, 2] [] rfl rfl rfl (by kernel_rfl) ⟨rfl, ⟨rfl, ⟨rfl, ⟨rfl, ⟨rfl, trivial⟩⟩⟩⟩⟩ (fun zs hz => match zs, hz with | [_, _, _, _, _], _ => rfl)
theorem pK_L0_n (A : pK_A) (w : World) {n : Int} {l : List Po} (hA : A.n = n) (hl : A.l = l) : ∀ (fu : Nat) (i : Int) (b0 b1 b2 b3 b4 : List Po), (0 ≤ i ∧ i ≤ (l.length : Int)) → (l.length : Int) - i < fu → b0 = bookN l i 0 → b1 = bookN l i 1 → b2 = bookN l i 2 → b3 = bookN l i 3 → b4 = bookN l i 4 →
  ((okF n l ((l.length : Int) - i).toNat i = true → pK_L0 A w fu i b0 b1 b2 b3 b4 = some (1, default, default, default, default, default, default, default, bookN l l.length 0, bookN l l.length 1, bookN l l.length 2, bookN l l.length 3, bookN l l.length 4, ())) ∧
  (okF n l ((l.length : Int) - i).toNat i = false → pK_L0 A w fu i b0 b1 b2 b3 b4 = some (0, (rollF n l ((l.length : Int) - i).toNat i).1, (rollF n l ((l.length : Int) - i).toNat i).2, bookN l (rollF n l ((l.length : Int) - i).toNat i).1 0, bookN l (rollF n l ((l.length : Int) - i).toNat i).1 1, bookN l (rollF n l ((l.length : Int) - i).toNat i).1 2, bookN l (rollF n l ((l.length : Int) - i).toNat i).1 3, bookN l (rollF n l ((l.length : Int) - i).toNat i).1 4, default, default, default, default, default, ()))) := by
 intro fu
 induction fu with
 | zero => intros; omega
 | succ fu ih =>
  intro i b0 b1 b2 b3 b4 h0 hm g0 g1 g2 g3 g4
  subst g0 g1 g2 g3 g4
  by_cases hi : i < (l.length : Int)
  ·have hk : ((l.length : Int) - i).toNat = ((l.length : Int) - (i + 1)).toNat + 1 := by omega
   rw [hk, okF, rollF]
   have e1 := fun b0 b1 b2 b3 b4 => ih (i + 1) b0 b1 b2 b3 b4 (by omega) (by omega)
   have hb : ∀ j : Int, (at_ l i).reeve = j → (l.take i.toNat).filter (fun x => decide (x.reeve = (at_ l i).reeve)) = bookN l i j := by
    intro j hj; rw [hj]; rfl
   by_cases hs : stepN n l i = 0
   ·obtain ⟨hck, hn2, hr1, hr2⟩ := reeve_of (n := n) hs
    simp only [hs, if_true, decide_true, Bool.true_and]
    have key : pK_L0 A w (fu + 1) i (bookN l i 0) (bookN l i 1) (bookN l i 2) (bookN l i 3) (bookN l i 4) = pK_L0 A w fu (i + 1) (bookN l (i + 1) 0) (bookN l (i + 1) 1) (bookN l (i + 1) 2) (bookN l (i + 1) 3) (bookN l (i + 1) 4) := by
     rw [pK_L0, hA, hl, if_pos hi]
     rw [book_succ 0 ⟨h0.1, hi⟩]; rw [book_succ 1 ⟨h0.1, hi⟩]; rw [book_succ 2 ⟨h0.1, hi⟩]; rw [book_succ 3 ⟨h0.1, hi⟩]; rw [book_succ 4 ⟨h0.1, hi⟩]
     have hj : (at_ l i).reeve = 0 ∨ (at_ l i).reeve = 1 ∨ (at_ l i).reeve = 2 ∨ (at_ l i).reeve = 3 ∨ (at_ l i).reeve = 4 := by omega
     rcases hj with hj | hj | hj | hj | hj
     ·have n1 : ¬ (at_ l i).reeve = 1 := by omega
      have n2 : ¬ (at_ l i).reeve = 2 := by omega
      have n3 : ¬ (at_ l i).reeve = 3 := by omega
      have n4 : ¬ (at_ l i).reeve = 4 := by omega
      simp only [stepN, if_pos hck, hb _ hj] at hs
      have h1 : ¬ (0 < i ∧ 0 ≤ byRefN ⟨(at_ l (i - 1)).reeve, (at_ l (i - 1)).number⟩ ⟨(at_ l i).reeve, (at_ l i).number⟩) := by
       intro h; rw [if_pos h] at hs; omega
      rw [if_neg h1] at hs
      by_cases a : 0 < i
      ·have b : ¬ 0 ≤ byRefN ⟨(at_ l (i - 1)).reeve, (at_ l (i - 1)).number⟩ ⟨(at_ l i).reeve, (at_ l i).number⟩ := fun b => h1 ⟨a, b⟩
       simp only [if_pos hck, if_pos a, if_neg b, if_pos hs, if_pos hj, if_neg n1, if_neg n2, if_neg n3, if_neg n4]
      ·simp only [if_pos hck, if_neg a, if_pos hs, if_pos hj, if_neg n1, if_neg n2, if_neg n3, if_neg n4]
     ·have n0 : ¬ (at_ l i).reeve = 0 := by omega
      have n2 : ¬ (at_ l i).reeve = 2 := by omega
      have n3 : ¬ (at_ l i).reeve = 3 := by omega
      have n4 : ¬ (at_ l i).reeve = 4 := by omega
      simp only [stepN, if_pos hck, hb _ hj] at hs
      have h1 : ¬ (0 < i ∧ 0 ≤ byRefN ⟨(at_ l (i - 1)).reeve, (at_ l (i - 1)).number⟩ ⟨(at_ l i).reeve, (at_ l i).number⟩) := by
       intro h; rw [if_pos h] at hs; omega
      rw [if_neg h1] at hs
      by_cases a : 0 < i
      ·have b : ¬ 0 ≤ byRefN ⟨(at_ l (i - 1)).reeve, (at_ l (i - 1)).number⟩ ⟨(at_ l i).reeve, (at_ l i).number⟩ := fun b => h1 ⟨a, b⟩
       simp only [if_pos hck, if_pos a, if_neg b, if_pos hs, if_pos hj, if_neg n0, if_neg n2, if_neg n3, if_neg n4]
      ·simp only [if_pos hck, if_neg a, if_pos hs, if_pos hj, if_neg n0, if_neg n2, if_neg n3, if_neg n4]
     ·have n0 : ¬ (at_ l i).reeve = 0 := by omega
      have n1 : ¬ (at_ l i).reeve = 1 := by omega
      have n3 : ¬ (at_ l i).reeve = 3 := by omega
      have n4 : ¬ (at_ l i).reeve = 4 := by omega
      simp only [stepN, if_pos hck, hb _ hj] at hs
      have h1 : ¬ (0 < i ∧ 0 ≤ byRefN ⟨(at_ l (i - 1)).reeve, (at_ l (i - 1)).number⟩ ⟨(at_ l i).reeve, (at_ l i).number⟩) := by
       intro h; rw [if_pos h] at hs; omega
      rw [if_neg h1] at hs
      by_cases a : 0 < i
      ·have b : ¬ 0 ≤ byRefN ⟨(at_ l (i - 1)).reeve, (at_ l (i - 1)).number⟩ ⟨(at_ l i).reeve, (at_ l i).number⟩ := fun b => h1 ⟨a, b⟩
       simp only [if_pos hck, if_pos a, if_neg b, if_pos hs, if_pos hj, if_neg n0, if_neg n1, if_neg n3, if_neg n4]
      ·simp only [if_pos hck, if_neg a, if_pos hs, if_pos hj, if_neg n0, if_neg n1, if_neg n3, if_neg n4]
     ·have n0 : ¬ (at_ l i).reeve = 0 := by omega
      have n1 : ¬ (at_ l i).reeve = 1 := by omega
      have n2 : ¬ (at_ l i).reeve = 2 := by omega
      have n4 : ¬ (at_ l i).reeve = 4 := by omega
      simp only [stepN, if_pos hck, hb _ hj] at hs
      have h1 : ¬ (0 < i ∧ 0 ≤ byRefN ⟨(at_ l (i - 1)).reeve, (at_ l (i - 1)).number⟩ ⟨(at_ l i).reeve, (at_ l i).number⟩) := by
       intro h; rw [if_pos h] at hs; omega
      rw [if_neg h1] at hs
      by_cases a : 0 < i
      ·have b : ¬ 0 ≤ byRefN ⟨(at_ l (i - 1)).reeve, (at_ l (i - 1)).number⟩ ⟨(at_ l i).reeve, (at_ l i).number⟩ := fun b => h1 ⟨a, b⟩
       simp only [if_pos hck, if_pos a, if_neg b, if_pos hs, if_pos hj, if_neg n0, if_neg n1, if_neg n2, if_neg n4]
      ·simp only [if_pos hck, if_neg a, if_pos hs, if_pos hj, if_neg n0, if_neg n1, if_neg n2, if_neg n4]
     ·have n0 : ¬ (at_ l i).reeve = 0 := by omega
      have n1 : ¬ (at_ l i).reeve = 1 := by omega
      have n2 : ¬ (at_ l i).reeve = 2 := by omega
      have n3 : ¬ (at_ l i).reeve = 3 := by omega
      simp only [stepN, if_pos hck, hb _ hj] at hs
      have h1 : ¬ (0 < i ∧ 0 ≤ byRefN ⟨(at_ l (i - 1)).reeve, (at_ l (i - 1)).number⟩ ⟨(at_ l i).reeve, (at_ l i).number⟩) := by
       intro h; rw [if_pos h] at hs; omega
      rw [if_neg h1] at hs
      by_cases a : 0 < i
      ·have b : ¬ 0 ≤ byRefN ⟨(at_ l (i - 1)).reeve, (at_ l (i - 1)).number⟩ ⟨(at_ l i).reeve, (at_ l i).number⟩ := fun b => h1 ⟨a, b⟩
       simp only [if_pos hck, if_pos a, if_neg b, if_pos hs, if_pos hj, if_neg n0, if_neg n1, if_neg n2, if_neg n3]
      ·simp only [if_pos hck, if_neg a, if_pos hs, if_pos hj, if_neg n0, if_neg n1, if_neg n2, if_neg n3]
    rw [key]
    exact e1 _ _ _ _ _ rfl rfl rfl rfl rfl
   ·simp only [hs, if_false, decide_false, Bool.false_and, Bool.false_eq_true, false_imp_iff, true_and, true_imp_iff]
    rw [pK_L0, hA, hl, if_pos hi]
    by_cases hck : checkN n (at_ l i) = 0
    ·obtain ⟨hn2, hr1, hr2⟩ := reeve_of2 (n := n) hck
     have hj : (at_ l i).reeve = 0 ∨ (at_ l i).reeve = 1 ∨ (at_ l i).reeve = 2 ∨ (at_ l i).reeve = 3 ∨ (at_ l i).reeve = 4 := by omega
     rcases hj with hj | hj | hj | hj | hj
     ·have n1 : ¬ (at_ l i).reeve = 1 := by omega
      have n2 : ¬ (at_ l i).reeve = 2 := by omega
      have n3 : ¬ (at_ l i).reeve = 3 := by omega
      have n4 : ¬ (at_ l i).reeve = 4 := by omega
      simp only [stepN, if_pos hck, hb _ hj] at hs ⊢
      by_cases a : 0 < i
      ·by_cases b : 0 ≤ byRefN ⟨(at_ l (i - 1)).reeve, (at_ l (i - 1)).number⟩ ⟨(at_ l i).reeve, (at_ l i).number⟩
       ·have h1 := And.intro a b
        simp only [if_pos hck, if_pos a, if_pos b, if_pos h1, if_pos hj, if_neg n1, if_neg n2, if_neg n3, if_neg n4]
        skip
       ·have h1 : ¬ (0 < i ∧ 0 ≤ byRefN ⟨(at_ l (i - 1)).reeve, (at_ l (i - 1)).number⟩ ⟨(at_ l i).reeve, (at_ l i).number⟩) := fun h => b h.2
        rw [if_neg h1] at hs
        simp only [if_pos hck, if_pos a, if_neg b, if_neg h1, if_neg hs, if_pos hj, if_neg n1, if_neg n2, if_neg n3, if_neg n4]
        skip
      ·have h1 : ¬ (0 < i ∧ 0 ≤ byRefN ⟨(at_ l (i - 1)).reeve, (at_ l (i - 1)).number⟩ ⟨(at_ l i).reeve, (at_ l i).number⟩) := fun h => a h.1
       rw [if_neg h1] at hs
       simp only [if_pos hck, if_neg a, if_neg h1, if_neg hs, if_pos hj, if_neg n1, if_neg n2, if_neg n3, if_neg n4]
       skip
     ·have n0 : ¬ (at_ l i).reeve = 0 := by omega
      have n2 : ¬ (at_ l i).reeve = 2 := by omega
      have n3 : ¬ (at_ l i).reeve = 3 := by omega
      have n4 : ¬ (at_ l i).reeve = 4 := by omega
      simp only [stepN, if_pos hck, hb _ hj] at hs ⊢
      by_cases a : 0 < i
      ·by_cases b : 0 ≤ byRefN ⟨(at_ l (i - 1)).reeve, (at_ l (i - 1)).number⟩ ⟨(at_ l i).reeve, (at_ l i).number⟩
       ·have h1 := And.intro a b
        simp only [if_pos hck, if_pos a, if_pos b, if_pos h1, if_pos hj, if_neg n0, if_neg n2, if_neg n3, if_neg n4]
        skip
       ·have h1 : ¬ (0 < i ∧ 0 ≤ byRefN ⟨(at_ l (i - 1)).reeve, (at_ l (i - 1)).number⟩ ⟨(at_ l i).reeve, (at_ l i).number⟩) := fun h => b h.2
        rw [if_neg h1] at hs
        simp only [if_pos hck, if_pos a, if_neg b, if_neg h1, if_neg hs, if_pos hj, if_neg n0, if_neg n2, if_neg n3, if_neg n4]
        skip
      ·have h1 : ¬ (0 < i ∧ 0 ≤ byRefN ⟨(at_ l (i - 1)).reeve, (at_ l (i - 1)).number⟩ ⟨(at_ l i).reeve, (at_ l i).number⟩) := fun h => a h.1
       rw [if_neg h1] at hs
       simp only [if_pos hck, if_neg a, if_neg h1, if_neg hs, if_pos hj, if_neg n0, if_neg n2, if_neg n3, if_neg n4]
       skip
     ·have n0 : ¬ (at_ l i).reeve = 0 := by omega
      have n1 : ¬ (at_ l i).reeve = 1 := by omega
      have n3 : ¬ (at_ l i).reeve = 3 := by omega
      have n4 : ¬ (at_ l i).reeve = 4 := by omega
      simp only [stepN, if_pos hck, hb _ hj] at hs ⊢
      by_cases a : 0 < i
      ·by_cases b : 0 ≤ byRefN ⟨(at_ l (i - 1)).reeve, (at_ l (i - 1)).number⟩ ⟨(at_ l i).reeve, (at_ l i).number⟩
       ·have h1 := And.intro a b
        simp only [if_pos hck, if_pos a, if_pos b, if_pos h1, if_pos hj, if_neg n0, if_neg n1, if_neg n3, if_neg n4]
        skip
       ·have h1 : ¬ (0 < i ∧ 0 ≤ byRefN ⟨(at_ l (i - 1)).reeve, (at_ l (i - 1)).number⟩ ⟨(at_ l i).reeve, (at_ l i).number⟩) := fun h => b h.2
        rw [if_neg h1] at hs
        simp only [if_pos hck, if_pos a, if_neg b, if_neg h1, if_neg hs, if_pos hj, if_neg n0, if_neg n1, if_neg n3, if_neg n4]
        skip
      ·have h1 : ¬ (0 < i ∧ 0 ≤ byRefN ⟨(at_ l (i - 1)).reeve, (at_ l (i - 1)).number⟩ ⟨(at_ l i).reeve, (at_ l i).number⟩) := fun h => a h.1
       rw [if_neg h1] at hs
       simp only [if_pos hck, if_neg a, if_neg h1, if_neg hs, if_pos hj, if_neg n0, if_neg n1, if_neg n3, if_neg n4]
       skip
     ·have n0 : ¬ (at_ l i).reeve = 0 := by omega
      have n1 : ¬ (at_ l i).reeve = 1 := by omega
      have n2 : ¬ (at_ l i).reeve = 2 := by omega
      have n4 : ¬ (at_ l i).reeve = 4 := by omega
      simp only [stepN, if_pos hck, hb _ hj] at hs ⊢
      by_cases a : 0 < i
      ·by_cases b : 0 ≤ byRefN ⟨(at_ l (i - 1)).reeve, (at_ l (i - 1)).number⟩ ⟨(at_ l i).reeve, (at_ l i).number⟩
       ·have h1 := And.intro a b
        simp only [if_pos hck, if_pos a, if_pos b, if_pos h1, if_pos hj, if_neg n0, if_neg n1, if_neg n2, if_neg n4]
        skip
       ·have h1 : ¬ (0 < i ∧ 0 ≤ byRefN ⟨(at_ l (i - 1)).reeve, (at_ l (i - 1)).number⟩ ⟨(at_ l i).reeve, (at_ l i).number⟩) := fun h => b h.2
        rw [if_neg h1] at hs
        simp only [if_pos hck, if_pos a, if_neg b, if_neg h1, if_neg hs, if_pos hj, if_neg n0, if_neg n1, if_neg n2, if_neg n4]
        skip
      ·have h1 : ¬ (0 < i ∧ 0 ≤ byRefN ⟨(at_ l (i - 1)).reeve, (at_ l (i - 1)).number⟩ ⟨(at_ l i).reeve, (at_ l i).number⟩) := fun h => a h.1
       rw [if_neg h1] at hs
       simp only [if_pos hck, if_neg a, if_neg h1, if_neg hs, if_pos hj, if_neg n0, if_neg n1, if_neg n2, if_neg n4]
       skip
     ·have n0 : ¬ (at_ l i).reeve = 0 := by omega
      have n1 : ¬ (at_ l i).reeve = 1 := by omega
      have n2 : ¬ (at_ l i).reeve = 2 := by omega
      have n3 : ¬ (at_ l i).reeve = 3 := by omega
      simp only [stepN, if_pos hck, hb _ hj] at hs ⊢
      by_cases a : 0 < i
      ·by_cases b : 0 ≤ byRefN ⟨(at_ l (i - 1)).reeve, (at_ l (i - 1)).number⟩ ⟨(at_ l i).reeve, (at_ l i).number⟩
       ·have h1 := And.intro a b
        simp only [if_pos hck, if_pos a, if_pos b, if_pos h1, if_pos hj, if_neg n0, if_neg n1, if_neg n2, if_neg n3]
        skip
       ·have h1 : ¬ (0 < i ∧ 0 ≤ byRefN ⟨(at_ l (i - 1)).reeve, (at_ l (i - 1)).number⟩ ⟨(at_ l i).reeve, (at_ l i).number⟩) := fun h => b h.2
        rw [if_neg h1] at hs
        simp only [if_pos hck, if_pos a, if_neg b, if_neg h1, if_neg hs, if_pos hj, if_neg n0, if_neg n1, if_neg n2, if_neg n3]
        skip
      ·have h1 : ¬ (0 < i ∧ 0 ≤ byRefN ⟨(at_ l (i - 1)).reeve, (at_ l (i - 1)).number⟩ ⟨(at_ l i).reeve, (at_ l i).number⟩) := fun h => a h.1
       rw [if_neg h1] at hs
       simp only [if_pos hck, if_neg a, if_neg h1, if_neg hs, if_pos hj, if_neg n0, if_neg n1, if_neg n2, if_neg n3]
       skip
    ·simp only [stepN, if_neg hck]
  ·have : i = (l.length : Int) := by omega
   subst this
   have hk : ((l.length : Int) - (l.length : Int)).toNat = 0 := by omega
   rw [hk, pK_L0, hl, if_neg hi]
   exact ⟨fun _ => rfl, fun h => by simp [okF] at h⟩
theorem pChecked_r_n (A : pK_A) (w : World) {n : Int} {l : List Po} (hA : A.n = n) (hl : A.l = l) : pK_r A w = (booksN n l 0, booksN n l 1, booksN n l 2, booksN n l 3, booksN n l 4, (rollN n l).1, (rollN n l).2) := by
 have hk : ((l.length : Int) - 0).toNat = l.length := by omega
 have h0 : (0 : Int) ≤ 0 ∧ (0 : Int) ≤ (l.length : Int) := by omega
 unfold pK_r booksN endN rollN
 rw [hA, hl]
 by_cases hn : n = 3 ∨ n = 5
 ·obtain ⟨e1, e2⟩ := pK_L0_n A w hA hl (((l.length : Int) - 0).toNat + 1) 0 [] [] [] [] [] h0 (by omega) rfl rfl rfl rfl rfl
  rw [hk] at e1 e2 ⊢
  cases h : okF n l l.length 0
  ·simp [hn, e2 h, rollF_bad h]
  ·simp [hn, e1 h, okF_roll h]
 ·simp [hn]
theorem pChecked_n {n : Int} {a_l : Option Addr} {b_l o_l κ_l : Nat} {l : List Po} {w : World} (H : LstAt poC w a_l b_l o_l l) (h0 : l.length ≤ κ_l) (h1 : (l.length : Int) ≤ 1000) (h2 : -9223372036854775808 ≤ n ∧ n ≤ 9223372036854775807) : Calls Tryz.prog 97 #[.int .i64 n, .slice a_l l.length κ_l] w fun e w' => ∃ zs : List Value, e = .returned (.tuple #[.agg #[(zs.getD 0 undef), (zs.getD 1 undef), (zs.getD 2 undef), (zs.getD 3 undef), (zs.getD 4 undef)], .int .i64 (rollN n l).1, .int .i64 (rollN n l).2]) ∧ FrAll w.heap.size w' [⟨(booksN n l 0).flatMap poC.f, 11, (booksN n l 0).length⟩, ⟨(booksN n l 1).flatMap poC.f, 11, (booksN n l 1).length⟩, ⟨(booksN n l 2).flatMap poC.f, 11, (booksN n l 2).length⟩, ⟨(booksN n l 3).flatMap poC.f, 11, (booksN n l 3).length⟩, ⟨(booksN n l 4).flatMap poC.f, 11, (booksN n l 4).length⟩] zs [] ∧ Chg (fun _ => False) w w' := by
 have := pK_any ⟨n, a_l, b_l, o_l, κ_l, l⟩ w H (by show (l.length : Int) ≤ (κ_l : Int); omega) h1 h2
 rw [pChecked_r_n _ w rfl rfl] at this
 exact this
structure pL_A where
 n : Int
 a_l : Option Addr
 b_l : Nat
 o_l : Nat
 κ_l : Nat
 l : List Po
def pL_r  (A : pL_A) (w : World) : Int × Int := (((rollN A.n A.l).1), ((rollN A.n A.l).2))
theorem pL_any  (A : pL_A) (w : World) (H_l : LstAt poC w A.a_l A.b_l A.o_l A.l) (h0 : (A.l.length : Int) ≤ (A.κ_l : Int)) (h1 : (A.l.length : Int) ≤ 1000) (h2 : -9223372036854775808 ≤ A.n ∧ A.n ≤ 9223372036854775807) : Calls Tryz.prog 29 #[.int .i64 A.n, .slice A.a_l A.l.length A.κ_l] w fun e w' => e = .returned (.tuple #[.int .i64 ((pL_r A w).1), .int .i64 ((pL_r A w).2)]) ∧ Chg (fun _ => False) w w' := by
 unfold pL_r
 refine wGo (E := E0) (n := 8) (w := w) (L := id) ?_
 have h3 : ((booksN A.n A.l 0).length : Int) ≤ ((A.l).length : Int) := books_le _ _ _
 have h4 : ((booksN A.n A.l 1).length : Int) ≤ ((A.l).length : Int) := books_le _ _ _
 have h5 : ((booksN A.n A.l 2).length : Int) ≤ ((A.l).length : Int) := books_le _ _ _
 have h6 : ((booksN A.n A.l 3).length : Int) ≤ ((A.l).length : Int) := books_le _ _ _
 have h7 : ((booksN A.n A.l 4).length : Int) ≤ ((A.l).length : Int) := books_le _ _ _
 refine wS (.agg #[] :: I A.n :: .slice A.a_l A.l.length A.κ_l :: Codec.flat poC (booksN A.n A.l 0) :: I (((booksN A.n A.l 0).length : Int)) :: Codec.flat poC (booksN A.n A.l 1) :: I (((booksN A.n A.l 1).length : Int)) :: Codec.flat poC (booksN A.n A.l 2) :: I (((booksN A.n A.l 2).length : Int)) :: Codec.flat poC (booksN A.n A.l 3) :: I (((booksN A.n A.l 3).length : Int)) :: Codec.flat poC (booksN A.n A.l 4) :: I (((booksN A.n A.l 4).length : Int)) :: I ((rollN A.n A.l).1) :: I ((rollN A.n A.l).2) :: []) (wM (⟨97, [1, 2], [], 8, 0, .tup [.agg [(.sls 8 11 (J 0) 4 2), (.sls 9 11 (J 0) 6 3), (.sls 10 11 (J 0) 8 4), (.sls 11 11 (J 0) 10 5), (.sls 12 11 (J 0) 12 6)], 13, 14], [(3, 11, 4), (5, 11, 6), (7, 11, 8), (9, 11, 10), (11, 11, 12)]⟩) (fun _ => q_callN (F := fun zs => .tuple #[.agg #[(zs.getD 0 undef), (zs.getD 1 undef), (zs.getD 2 undef), (zs.getD 3 undef), (zs.getD 4 undef)], .int .i64 ((rollN A.n A.l).1), .int .i64 ((rollN A.n A.l).2)]) (rs := [⟨(booksN A.n A.l 0).flatMap poC.f, 11, (booksN A.n A.l 0).length⟩, ⟨(booksN A.n A.l 1).flatMap poC.f, 11, (booksN A.n A.l 1).length⟩, ⟨(booksN A.n A.l 2).flatMap poC.f, 11, (booksN A.n A.l 2).length⟩, ⟨(booksN A.n A.l 3).flatMap poC.f, 11, (booksN A.n A.l 3).length⟩, ⟨(booksN A.n A.l 4).flatMap poC.f, 11, (booksN A.n A.l 4).length⟩]) (.val _ _ _ _ _ rfl (.val _ _ _ _ _ rfl .nil)) rfl rfl ⟨rfl, rfl, flat_length _ _, flat_one _ _, rfl, ⟨rfl, rfl, flat_length _ _, flat_one _ _, rfl, ⟨rfl, rfl, flat_length _ _, flat_one _ _, rfl, ⟨rfl, rfl, flat_length _ _, flat_one _ _, rfl, ⟨rfl, rfl, flat_length _ _, flat_one _ _, rfl, trivial⟩⟩⟩⟩⟩ rfl (fun zs h => match zs, h with | [_, _, _, _, _], _ => rfl) (fun w xs hw hq => by obtain ⟨_, rfl, _, rfl, rfl⟩ := hq; exact pChecked_n (LstAt.old H_l hw) (by omega) (by omega) (show -9223372036854775808 ≤ A.n ∧ A.n ≤ 9223372036854775807 by omega))) ?_)
 exact wZ (.tup [13, 14]) [1, 2]
theorem pRoll_n {n : Int} {a_l : Option Addr} {b_l o_l κ_l : Nat} {l : List Po} {w : World} (H : LstAt poC w a_l b_l o_l l) (h0 : l.length ≤ κ_l) (h1 : (l.length : Int) ≤ 1000) (h2 : -9223372036854775808 ≤ n ∧ n ≤ 9223372036854775807) : Calls Tryz.prog 29 #[.int .i64 n, .slice a_l l.length κ_l] w fun e w' => e = .returned (.tuple #[.int .i64 (rollN n l).1, .int .i64 (rollN n l).2]) ∧ Chg (fun _ => False) w w' := by
 have := pL_any ⟨n, a_l, b_l, o_l, κ_l, l⟩ w H (by show (l.length : Int) ≤ (κ_l : Int); omega) h1 h2
 exact this
structure pT_A where
 n : Int
 a_l : Option Addr
 b_l : Nat
 o_l : Nat
 κ_l : Nat
 l : List Po
 x : Rf
def pT_r  (A : pT_A) (w : World) : Int × Int := (if ((rollN A.n A.l).2) = 0 then (if 0 ≤ A.x.reeve then (if A.x.reeve ≤ 4 then (if A.x.reeve = 0 then (if 1 ≤ A.x.number then (if A.x.number ≤ ((booksN A.n A.l 0).length : Int) then (if (at_ (booksN A.n A.l 0) (A.x.number - 1)).kind = 1 ∨ (at_ (booksN A.n A.l 0) (A.x.number - 1)).kind = 2 then ((owedN (booksN A.n A.l 0) (at_ (booksN A.n A.l 0) (A.x.number - 1))), 0) else (0, 5)) else (0, 5)) else (0, 5)) else (if A.x.reeve = 1 then (if 1 ≤ A.x.number then (if A.x.number ≤ ((booksN A.n A.l 1).length : Int) then (if (at_ (booksN A.n A.l 1) (A.x.number - 1)).kind = 1 ∨ (at_ (booksN A.n A.l 1) (A.x.number - 1)).kind = 2 then ((owedN (booksN A.n A.l 1) (at_ (booksN A.n A.l 1) (A.x.number - 1))), 0) else (0, 5)) else (0, 5)) else (0, 5)) else (if A.x.reeve = 2 then (if 1 ≤ A.x.number then (if A.x.number ≤ ((booksN A.n A.l 2).length : Int) then (if (at_ (booksN A.n A.l 2) (A.x.number - 1)).kind = 1 ∨ (at_ (booksN A.n A.l 2) (A.x.number - 1)).kind = 2 then ((owedN (booksN A.n A.l 2) (at_ (booksN A.n A.l 2) (A.x.number - 1))), 0) else (0, 5)) else (0, 5)) else (0, 5)) else (if A.x.reeve = 3 then (if 1 ≤ A.x.number then (if A.x.number ≤ ((booksN A.n A.l 3).length : Int) then (if (at_ (booksN A.n A.l 3) (A.x.number - 1)).kind = 1 ∨ (at_ (booksN A.n A.l 3) (A.x.number - 1)).kind = 2 then ((owedN (booksN A.n A.l 3) (at_ (booksN A.n A.l 3) (A.x.number - 1))), 0) else (0, 5)) else (0, 5)) else (0, 5)) else (if 1 ≤ A.x.number then (if A.x.number ≤ ((booksN A.n A.l 4).length : Int) then (if (at_ (booksN A.n A.l 4) (A.x.number - 1)).kind = 1 ∨ (at_ (booksN A.n A.l 4) (A.x.number - 1)).kind = 2 then ((owedN (booksN A.n A.l 4) (at_ (booksN A.n A.l 4) (A.x.number - 1))), 0) else (0, 5)) else (0, 5)) else (0, 5)))))) else (0, 5)) else (0, 5)) else (0, ((rollN A.n A.l).2)))
theorem pT_any  (A : pT_A) (w : World) (H_l : LstAt poC w A.a_l A.b_l A.o_l A.l) (h0 : (A.l.length : Int) ≤ (A.κ_l : Int)) (h1 : (A.l.length : Int) ≤ 1000) (h2 : -9223372036854775808 ≤ A.n ∧ A.n ≤ 9223372036854775807) (h3 : -9223372036854775808 ≤ A.x.reeve ∧ A.x.reeve ≤ 9223372036854775807) (h4 : -9223372036854775808 ≤ A.x.number ∧ A.x.number ≤ 9223372036854775807) : Calls Tryz.prog 31 #[.int .i64 A.n, .slice A.a_l A.l.length A.κ_l, A.x.val] w fun e w' => e = .returned (.tuple #[.int .i64 ((pT_r A w).1), .int .i64 ((pT_r A w).2)]) ∧ Chg (fun _ => False) w w' := by
 unfold pT_r
 refine wGo (E := E0) (n := 8) (w := w) (L := id) ?_
 have h5 : ((booksN A.n A.l 0).length : Int) ≤ ((A.l).length : Int) := books_le _ _ _
 have h6 : ((booksN A.n A.l 1).length : Int) ≤ ((A.l).length : Int) := books_le _ _ _
 have h7 : ((booksN A.n A.l 2).length : Int) ≤ ((A.l).length : Int) := books_le _ _ _
 have h8 : ((booksN A.n A.l 3).length : Int) ≤ ((A.l).length : Int) := books_le _ _ _
 have h9 : ((booksN A.n A.l 4).length : Int) ≤ ((A.l).length : Int) := books_le _ _ _
 refine wS (.agg #[] :: I A.n :: .slice A.a_l A.l.length A.κ_l :: I A.x.reeve :: I A.x.number :: Codec.flat poC (booksN A.n A.l 0) :: I (((booksN A.n A.l 0).length : Int)) :: Codec.flat poC (booksN A.n A.l 1) :: I (((booksN A.n A.l 1).length : Int)) :: Codec.flat poC (booksN A.n A.l 2) :: I (((booksN A.n A.l 2).length : Int)) :: Codec.flat poC (booksN A.n A.l 3) :: I (((booksN A.n A.l 3).length : Int)) :: Codec.flat poC (booksN A.n A.l 4) :: I (((booksN A.n A.l 4).length : Int)) :: I ((rollN A.n A.l).1) :: I ((rollN A.n A.l).2) :: []) (wM (⟨97, [1, 2], [], 9, 0, .tup [.agg [(.sls 9 11 (J 0) 6 2), (.sls 10 11 (J 0) 8 3), (.sls 11 11 (J 0) 10 4), (.sls 12 11 (J 0) 12 5), (.sls 13 11 (J 0) 14 6)], 15, 16], [(5, 11, 6), (7, 11, 8), (9, 11, 10), (11, 11, 12), (13, 11, 14)]⟩) (fun _ => q_callN (F := fun zs => .tuple #[.agg #[(zs.getD 0 undef), (zs.getD 1 undef), (zs.getD 2 undef), (zs.getD 3 undef), (zs.getD 4 undef)], .int .i64 ((rollN A.n A.l).1), .int .i64 ((rollN A.n A.l).2)]) (rs := [⟨(booksN A.n A.l 0).flatMap poC.f, 11, (booksN A.n A.l 0).length⟩, ⟨(booksN A.n A.l 1).flatMap poC.f, 11, (booksN A.n A.l 1).length⟩, ⟨(booksN A.n A.l 2).flatMap poC.f, 11, (booksN A.n A.l 2).length⟩, ⟨(booksN A.n A.l 3).flatMap poC.f, 11, (booksN A.n A.l 3).length⟩, ⟨(booksN A.n A.l 4).flatMap poC.f, 11, (booksN A.n A.l 4).length⟩]) (.val _ _ _ _ _ rfl (.val _ _ _ _ _ rfl .nil)) rfl rfl ⟨rfl, rfl, flat_length _ _, flat_one _ _, rfl, ⟨rfl, rfl, flat_length _ _, flat_one _ _, rfl, ⟨rfl, rfl, flat_length _ _, flat_one _ _, rfl, ⟨rfl, rfl, flat_length _ _, flat_one _ _, rfl, ⟨rfl, rfl, flat_length _ _, flat_one _ _, rfl, trivial⟩⟩⟩⟩⟩ rfl (fun zs h => match zs, h with | [_, _, _, _, _], _ => rfl) (fun w xs hw hq => by obtain ⟨_, rfl, _, rfl, rfl⟩ := hq; exact pChecked_n (LstAt.old H_l hw) (by omega) (by omega) (show -9223372036854775808 ≤ A.n ∧ A.n ≤ 9223372036854775807 by omega))) ?_)
 by_cases h10 : ((rollN A.n A.l).2) = 0
 ·rw [if_pos h10]
  refine wF .neq 16 (J 0) (fun h => h h10) ?_
  by_cases h11 : 0 ≤ A.x.reeve
  ·rw [if_pos h11]
   refine wT .geq 3 (J 0) h11 ?_
   by_cases h12 : A.x.reeve ≤ 4
   ·rw [if_pos h12]
    refine wT .leq 3 (J 4) h12 ?_
    by_cases h13 : A.x.reeve = 0
    ·rw [if_pos h13]
     refine wE (⟨2000000000 + 158, [.ptr 14 0, 3], .ptr 14 0⟩) (fun _ => q_idxAt rfl rfl (c := 0) h13 (by kernel_rfl)) (wE (⟨6000000000 + 38, [.sls 9 11 (J 0) 6 2], 6⟩) (fun _ => q_lenL rfl rfl (by kernel_rfl)) ?_)
     by_cases h14 : 1 ≤ A.x.number
     ·rw [if_pos h14]
      refine wT .geq 4 (J 1) h14 ?_
      by_cases h15 : A.x.number ≤ ((booksN A.n A.l 0).length : Int)
      ·rw [if_pos h15]
       refine wS (I (A.x.number - 1) :: poV (at_ (booksN A.n A.l 0) (A.x.number - 1)) ++ []) (wT .leq 4 6 h15 (wD 4 (J 1) 17 (wE (⟨2000000000 + 38, [.sls 9 11 (J 0) 6 2, 17], .pls 9 11 17 0⟩) (fun _ => q_idxL (oz := 0) (m := (A.x.number - 1)) (n := ((booksN A.n A.l 0).length : Int)) rfl rfl rfl rfl (by omega) (by show some (A.x.number - 1) = some (0 + (A.x.number - 1)); exact congrArg some (by omega)) (by kernel_rfl)) (wE (⟨8000000000 + 25, [.pls 9 11 17 0, 5], .agg [18, 19, 20, 21, 22, 23, 24, 25, 26, 27, 28]⟩) (fun _ => q_rowL (C := poC) (X := (booksN A.n A.l 0)) (i := (A.x.number - 1)) rfl rfl rfl rfl ⟨by omega, by first | omega | (simp; omega)⟩ rfl (by kernel_rfl)) ?_))))
       by_cases h16 : (at_ (booksN A.n A.l 0) (A.x.number - 1)).kind = 1 ∨ (at_ (booksN A.n A.l 0) (A.x.number - 1)).kind = 2
       ·rw [if_pos h16]
        have h17 : 0 ≤ owedN (booksN A.n A.l 0) (at_ (booksN A.n A.l 0) (A.x.number - 1)) := owedN_nn _ _
        refine wS (I ((owedN (booksN A.n A.l 0) (at_ (booksN A.n A.l 0) (A.x.number - 1)))) :: []) (wC (⟨112, [.tup [.agg [18, 19, 20, 21, 22, 23, 24, 25, 26, 27, 28]], .tup []], (.bool true)⟩) (fun _ => q_cV (h := fun w hw => by have hb := decide_eq_true h16; rw [← hb]; exact pCharge_n _ _)) (wC (⟨100, [.tup [.sls 9 11 (J 0) 6 2, .agg [18, 19, 20, 21, 22, 23, 24, 25, 26, 27, 28]], .tup [5]], 29⟩) (fun _ => q_callT (.lst _ poC (booksN A.n A.l 0) (booksN A.n A.l 0) _ 11 _ _ _ _ 0 _ _ _ rfl rfl rfl rfl (by simp) (.val _ _ _ _ _ rfl .nil)) rfl rfl rfl (fun w xs hw hq => by obtain ⟨a0, b0, o0, κ0, _, rfl, hκ0, hL0, _, rfl, rfl⟩ := hq; exact pOwed_n hL0 hκ0 (show ((booksN A.n A.l 0).length : Int) ≤ 1000 by omega) _)) ?_))
        exact wZ (.tup [29, .int .i64 0]) [1, 2, .agg [3, 4]]
       ·rw [if_neg h16]
        refine wC (⟨112, [.tup [.agg [18, 19, 20, 21, 22, 23, 24, 25, 26, 27, 28]], .tup []], (.bool false)⟩) (fun _ => q_cV (h := fun w hw => by have hb := decide_eq_false h16; rw [← hb]; exact pCharge_n _ _)) ?_
        exact wZ (.tup [.int .i64 0, .int .i64 5]) [1, 2, .agg [3, 4]]
      ·rw [if_neg h15]
       refine wF .leq 4 6 h15 ?_
       exact wZ (.tup [.int .i64 0, .int .i64 5]) [1, 2, .agg [3, 4]]
     ·rw [if_neg h14]
      refine wF .geq 4 (J 1) h14 ?_
      exact wZ (.tup [.int .i64 0, .int .i64 5]) [1, 2, .agg [3, 4]]
    ·rw [if_neg h13]
     by_cases h14 : A.x.reeve = 1
     ·rw [if_pos h14]
      refine wE (⟨2000000000 + 158, [.ptr 14 0, 3], .ptr 14 1⟩) (fun _ => q_idxAt rfl rfl (c := 1) h14 (by kernel_rfl)) (wE (⟨6000000000 + 38, [.sls 10 11 (J 0) 8 3], 8⟩) (fun _ => q_lenL rfl rfl (by kernel_rfl)) ?_)
      by_cases h15 : 1 ≤ A.x.number
      ·rw [if_pos h15]
       refine wT .geq 4 (J 1) h15 ?_
       by_cases h16 : A.x.number ≤ ((booksN A.n A.l 1).length : Int)
       ·rw [if_pos h16]
        refine wS (I (A.x.number - 1) :: poV (at_ (booksN A.n A.l 1) (A.x.number - 1)) ++ []) (wT .leq 4 8 h16 (wD 4 (J 1) 17 (wE (⟨2000000000 + 38, [.sls 10 11 (J 0) 8 3, 17], .pls 10 11 17 0⟩) (fun _ => q_idxL (oz := 0) (m := (A.x.number - 1)) (n := ((booksN A.n A.l 1).length : Int)) rfl rfl rfl rfl (by omega) (by show some (A.x.number - 1) = some (0 + (A.x.number - 1)); exact congrArg some (by omega)) (by kernel_rfl)) (wE (⟨8000000000 + 25, [.pls 10 11 17 0, 7], .agg [18, 19, 20, 21, 22, 23, 24, 25, 26, 27, 28]⟩) (fun _ => q_rowL (C := poC) (X := (booksN A.n A.l 1)) (i := (A.x.number - 1)) rfl rfl rfl rfl ⟨by omega, by first | omega | (simp; omega)⟩ rfl (by kernel_rfl)) ?_))))
        by_cases h17 : (at_ (booksN A.n A.l 1) (A.x.number - 1)).kind = 1 ∨ (at_ (booksN A.n A.l 1) (A.x.number - 1)).kind = 2
        ·rw [if_pos h17]
         have h18 : 0 ≤ owedN (booksN A.n A.l 1) (at_ (booksN A.n A.l 1) (A.x.number - 1)) := owedN_nn _ _
         refine wS (I ((owedN (booksN A.n A.l 1) (at_ (booksN A.n A.l 1) (A.x.number - 1)))) :: []) (wC (⟨112, [.tup [.agg [18, 19, 20, 21, 22, 23, 24, 25, 26, 27, 28]], .tup []], (.bool true)⟩) (fun _ => q_cV (h := fun w hw => by have hb := decide_eq_true h17; rw [← hb]; exact pCharge_n _ _)) (wC (⟨100, [.tup [.sls 10 11 (J 0) 8 3, .agg [18, 19, 20, 21, 22, 23, 24, 25, 26, 27, 28]], .tup [7]], 29⟩) (fun _ => q_callT (.lst _ poC (booksN A.n A.l 1) (booksN A.n A.l 1) _ 11 _ _ _ _ 0 _ _ _ rfl rfl rfl rfl (by simp) (.val _ _ _ _ _ rfl .nil)) rfl rfl rfl (fun w xs hw hq => by obtain ⟨a0, b0, o0, κ0, _, rfl, hκ0, hL0, _, rfl, rfl⟩ := hq; exact pOwed_n hL0 hκ0 (show ((booksN A.n A.l 1).length : Int) ≤ 1000 by omega) _)) ?_))
         exact wZ (.tup [29, .int .i64 0]) [1, 2, .agg [3, 4]]
        ·rw [if_neg h17]
         refine wC (⟨112, [.tup [.agg [18, 19, 20, 21, 22, 23, 24, 25, 26, 27, 28]], .tup []], (.bool false)⟩) (fun _ => q_cV (h := fun w hw => by have hb := decide_eq_false h17; rw [← hb]; exact pCharge_n _ _)) ?_
         exact wZ (.tup [.int .i64 0, .int .i64 5]) [1, 2, .agg [3, 4]]
       ·rw [if_neg h16]
        refine wF .leq 4 8 h16 ?_
        exact wZ (.tup [.int .i64 0, .int .i64 5]) [1, 2, .agg [3, 4]]
      ·rw [if_neg h15]
       refine wF .geq 4 (J 1) h15 ?_
       exact wZ (.tup [.int .i64 0, .int .i64 5]) [1, 2, .agg [3, 4]]
     ·rw [if_neg h14]
      by_cases h15 : A.x.reeve = 2
      ·rw [if_pos h15]
       refine wE (⟨2000000000 + 158, [.ptr 14 0, 3], .ptr 14 2⟩) (fun _ => q_idxAt rfl rfl (c := 2) h15 (by kernel_rfl)) (wE (⟨6000000000 + 38, [.sls 11 11 (J 0) 10 4], 10⟩) (fun _ => q_lenL rfl rfl (by kernel_rfl)) ?_)
       by_cases h16 : 1 ≤ A.x.number
       ·rw [if_pos h16]
        refine wT .geq 4 (J 1) h16 ?_
        by_cases h17 : A.x.number ≤ ((booksN A.n A.l 2).length : Int)
        ·rw [if_pos h17]
         refine wS (I (A.x.number - 1) :: poV (at_ (booksN A.n A.l 2) (A.x.number - 1)) ++ []) (wT .leq 4 10 h17 (wD 4 (J 1) 17 (wE (⟨2000000000 + 38, [.sls 11 11 (J 0) 10 4, 17], .pls 11 11 17 0⟩) (fun _ => q_idxL (oz := 0) (m := (A.x.number - 1)) (n := ((booksN A.n A.l 2).length : Int)) rfl rfl rfl rfl (by omega) (by show some (A.x.number - 1) = some (0 + (A.x.number - 1)); exact congrArg some (by omega)) (by kernel_rfl)) (wE (⟨8000000000 + 25, [.pls 11 11 17 0, 9], .agg [18, 19, 20, 21, 22, 23, 24, 25, 26, 27, 28]⟩) (fun _ => q_rowL (C := poC) (X := (booksN A.n A.l 2)) (i := (A.x.number - 1)) rfl rfl rfl rfl ⟨by omega, by first | omega | (simp; omega)⟩ rfl (by kernel_rfl)) ?_))))
         by_cases h18 : (at_ (booksN A.n A.l 2) (A.x.number - 1)).kind = 1 ∨ (at_ (booksN A.n A.l 2) (A.x.number - 1)).kind = 2
         ·rw [if_pos h18]
          have h19 : 0 ≤ owedN (booksN A.n A.l 2) (at_ (booksN A.n A.l 2) (A.x.number - 1)) := owedN_nn _ _
          refine wS (I ((owedN (booksN A.n A.l 2) (at_ (booksN A.n A.l 2) (A.x.number - 1)))) :: []) (wC (⟨112, [.tup [.agg [18, 19, 20, 21, 22, 23, 24, 25, 26, 27, 28]], .tup []], (.bool true)⟩) (fun _ => q_cV (h := fun w hw => by have hb := decide_eq_true h18; rw [← hb]; exact pCharge_n _ _)) (wC (⟨100, [.tup [.sls 11 11 (J 0) 10 4, .agg [18, 19, 20, 21, 22, 23, 24, 25, 26, 27, 28]], .tup [9]], 29⟩) (fun _ => q_callT (.lst _ poC (booksN A.n A.l 2) (booksN A.n A.l 2) _ 11 _ _ _ _ 0 _ _ _ rfl rfl rfl rfl (by simp) (.val _ _ _ _ _ rfl .nil)) rfl rfl rfl (fun w xs hw hq => by obtain ⟨a0, b0, o0, κ0, _, rfl, hκ0, hL0, _, rfl, rfl⟩ := hq; exact pOwed_n hL0 hκ0 (show ((booksN A.n A.l 2).length : Int) ≤ 1000 by omega) _)) ?_))
          exact wZ (.tup [29, .int .i64 0]) [1, 2, .agg [3, 4]]
         ·rw [if_neg h18]
          refine wC (⟨112, [.tup [.agg [18, 19, 20, 21, 22, 23, 24, 25, 26, 27, 28]], .tup []], (.bool false)⟩) (fun _ => q_cV (h := fun w hw => by have hb := decide_eq_false h18; rw [← hb]; exact pCharge_n _ _)) ?_
          exact wZ (.tup [.int .i64 0, .int .i64 5]) [1, 2, .agg [3, 4]]
        ·rw [if_neg h17]
         refine wF .leq 4 10 h17 ?_
         exact wZ (.tup [.int .i64 0, .int .i64 5]) [1, 2, .agg [3, 4]]
       ·rw [if_neg h16]
        refine wF .geq 4 (J 1) h16 ?_
        exact wZ (.tup [.int .i64 0, .int .i64 5]) [1, 2, .agg [3, 4]]
      ·rw [if_neg h15]
       by_cases h16 : A.x.reeve = 3
       ·rw [if_pos h16]
        refine wE (⟨2000000000 + 158, [.ptr 14 0, 3], .ptr 14 3⟩) (fun _ => q_idxAt rfl rfl (c := 3) h16 (by kernel_rfl)) (wE (⟨6000000000 + 38, [.sls 12 11 (J 0) 12 5], 12⟩) (fun _ => q_lenL rfl rfl (by kernel_rfl)) ?_)
        by_cases h17 : 1 ≤ A.x.number
        ·rw [if_pos h17]
         refine wT .geq 4 (J 1) h17 ?_
         by_cases h18 : A.x.number ≤ ((booksN A.n A.l 3).length : Int)
         ·rw [if_pos h18]
          refine wS (I (A.x.number - 1) :: poV (at_ (booksN A.n A.l 3) (A.x.number - 1)) ++ []) (wT .leq 4 12 h18 (wD 4 (J 1) 17 (wE (⟨2000000000 + 38, [.sls 12 11 (J 0) 12 5, 17], .pls 12 11 17 0⟩) (fun _ => q_idxL (oz := 0) (m := (A.x.number - 1)) (n := ((booksN A.n A.l 3).length : Int)) rfl rfl rfl rfl (by omega) (by show some (A.x.number - 1) = some (0 + (A.x.number - 1)); exact congrArg some (by omega)) (by kernel_rfl)) (wE (⟨8000000000 + 25, [.pls 12 11 17 0, 11], .agg [18, 19, 20, 21, 22, 23, 24, 25, 26, 27, 28]⟩) (fun _ => q_rowL (C := poC) (X := (booksN A.n A.l 3)) (i := (A.x.number - 1)) rfl rfl rfl rfl ⟨by omega, by first | omega | (simp; omega)⟩ rfl (by kernel_rfl)) ?_))))
          by_cases h19 : (at_ (booksN A.n A.l 3) (A.x.number - 1)).kind = 1 ∨ (at_ (booksN A.n A.l 3) (A.x.number - 1)).kind = 2
          ·rw [if_pos h19]
           have h20 : 0 ≤ owedN (booksN A.n A.l 3) (at_ (booksN A.n A.l 3) (A.x.number - 1)) := owedN_nn _ _
           refine wS (I ((owedN (booksN A.n A.l 3) (at_ (booksN A.n A.l 3) (A.x.number - 1)))) :: []) (wC (⟨112, [.tup [.agg [18, 19, 20, 21, 22, 23, 24, 25, 26, 27, 28]], .tup []], (.bool true)⟩) (fun _ => q_cV (h := fun w hw => by have hb := decide_eq_true h19; rw [← hb]; exact pCharge_n _ _)) (wC (⟨100, [.tup [.sls 12 11 (J 0) 12 5, .agg [18, 19, 20, 21, 22, 23, 24, 25, 26, 27, 28]], .tup [11]], 29⟩) (fun _ => q_callT (.lst _ poC (booksN A.n A.l 3) (booksN A.n A.l 3) _ 11 _ _ _ _ 0 _ _ _ rfl rfl rfl rfl (by simp) (.val _ _ _ _ _ rfl .nil)) rfl rfl rfl (fun w xs hw hq => by obtain ⟨a0, b0, o0, κ0, _, rfl, hκ0, hL0, _, rfl, rfl⟩ := hq; exact pOwed_n hL0 hκ0 (show ((booksN A.n A.l 3).length : Int) ≤ 1000 by omega) _)) ?_))
           exact wZ (.tup [29, .int .i64 0]) [1, 2, .agg [3, 4]]
          ·rw [if_neg h19]
           refine wC (⟨112, [.tup [.agg [18, 19, 20, 21, 22, 23, 24, 25, 26, 27, 28]], .tup []], (.bool false)⟩) (fun _ => q_cV (h := fun w hw => by have hb := decide_eq_false h19; rw [← hb]; exact pCharge_n _ _)) ?_
           exact wZ (.tup [.int .i64 0, .int .i64 5]) [1, 2, .agg [3, 4]]
         ·rw [if_neg h18]
          refine wF .leq 4 12 h18 ?_
          exact wZ (.tup [.int .i64 0, .int .i64 5]) [1, 2, .agg [3, 4]]
        ·rw [if_neg h17]
         refine wF .geq 4 (J 1) h17 ?_
         exact wZ (.tup [.int .i64 0, .int .i64 5]) [1, 2, .agg [3, 4]]
       ·rw [if_neg h16]
        refine wE (⟨2000000000 + 158, [.ptr 14 0, 3], .ptr 14 4⟩) (fun _ => q_idxAt rfl rfl (c := 4) (show A.x.reeve = 4 by omega) (by kernel_rfl)) (wE (⟨6000000000 + 38, [.sls 13 11 (J 0) 14 6], 14⟩) (fun _ => q_lenL rfl rfl (by kernel_rfl)) ?_)
        by_cases h17 : 1 ≤ A.x.number
        ·rw [if_pos h17]
         refine wT .geq 4 (J 1) h17 ?_
         by_cases h18 : A.x.number ≤ ((booksN A.n A.l 4).length : Int)
         ·rw [if_pos h18]
          refine wS (I (A.x.number - 1) :: poV (at_ (booksN A.n A.l 4) (A.x.number - 1)) ++ []) (wT .leq 4 14 h18 (wD 4 (J 1) 17 (wE (⟨2000000000 + 38, [.sls 13 11 (J 0) 14 6, 17], .pls 13 11 17 0⟩) (fun _ => q_idxL (oz := 0) (m := (A.x.number - 1)) (n := ((booksN A.n A.l 4).length : Int)) rfl rfl rfl rfl (by omega) (by show some (A.x.number - 1) = some (0 + (A.x.number - 1)); exact congrArg some (by omega)) (by kernel_rfl)) (wE (⟨8000000000 + 25, [.pls 13 11 17 0, 13], .agg [18, 19, 20, 21, 22, 23, 24, 25, 26, 27, 28]⟩) (fun _ => q_rowL (C := poC) (X := (booksN A.n A.l 4)) (i := (A.x.number - 1)) rfl rfl rfl rfl ⟨by omega, by first | omega | (simp; omega)⟩ rfl (by kernel_rfl)) ?_))))
          by_cases h19 : (at_ (booksN A.n A.l 4) (A.x.number - 1)).kind = 1 ∨ (at_ (booksN A.n A.l 4) (A.x.number - 1)).kind = 2
          ·rw [if_pos h19]
           have h20 : 0 ≤ owedN (booksN A.n A.l 4) (at_ (booksN A.n A.l 4) (A.x.number - 1)) := owedN_nn _ _
           refine wS (I ((owedN (booksN A.n A.l 4) (at_ (booksN A.n A.l 4) (A.x.number - 1)))) :: []) (wC (⟨112, [.tup [.agg [18, 19, 20, 21, 22, 23, 24, 25, 26, 27, 28]], .tup []], (.bool true)⟩) (fun _ => q_cV (h := fun w hw => by have hb := decide_eq_true h19; rw [← hb]; exact pCharge_n _ _)) (wC (⟨100, [.tup [.sls 13 11 (J 0) 14 6, .agg [18, 19, 20, 21, 22, 23, 24, 25, 26, 27, 28]], .tup [13]], 29⟩) (fun _ => q_callT (.lst _ poC (booksN A.n A.l 4) (booksN A.n A.l 4) _ 11 _ _ _ _ 0 _ _ _ rfl rfl rfl rfl (by simp) (.val _ _ _ _ _ rfl .nil)) rfl rfl rfl (fun w xs hw hq => by obtain ⟨a0, b0, o0, κ0, _, rfl, hκ0, hL0, _, rfl, rfl⟩ := hq; exact pOwed_n hL0 hκ0 (show ((booksN A.n A.l 4).length : Int) ≤ 1000 by omega) _)) ?_))
           exact wZ (.tup [29, .int .i64 0]) [1, 2, .agg [3, 4]]
          ·rw [if_neg h19]
           refine wC (⟨112, [.tup [.agg [18, 19, 20, 21, 22, 23, 24, 25, 26, 27, 28]], .tup []], (.bool false)⟩) (fun _ => q_cV (h := fun w hw => by have hb := decide_eq_false h19; rw [← hb]; exact pCharge_n _ _)) ?_
           exact wZ (.tup [.int .i64 0, .int .i64 5]) [1, 2, .agg [3, 4]]
         ·rw [if_neg h18]
          refine wF .leq 4 14 h18 ?_
          exact wZ (.tup [.int .i64 0, .int .i64 5]) [1, 2, .agg [3, 4]]
        ·rw [if_neg h17]
         refine wF .geq 4 (J 1) h17 ?_
         exact wZ (.tup [.int .i64 0, .int .i64 5]) [1, 2, .agg [3, 4]]
   ·rw [if_neg h12]
    refine wF .leq 3 (J 4) h12 ?_
    exact wZ (.tup [.int .i64 0, .int .i64 5]) [1, 2, .agg [3, 4]]
  ·rw [if_neg h11]
   refine wF .geq 3 (J 0) h11 ?_
   exact wZ (.tup [.int .i64 0, .int .i64 5]) [1, 2, .agg [3, 4]]
 ·rw [if_neg h10]
  refine wT .neq 16 (J 0) h10 ?_
  exact wZ (.tup [.int .i64 0, 16]) [1, 2, .agg [3, 4]]
theorem pOwedT_r_n (n : Int) (a_l : Option Addr) (b_l o_l κ_l : Nat) (l : List Po) (x : Rf) (w : World) : pT_r ⟨n, a_l, b_l, o_l, κ_l, l, x⟩ w = owedTN n l x := by
 unfold pT_r owedTN isCh
 show (if (rollN n l).2 = 0 then _ else _) = _
 by_cases h : (rollN n l).2 = 0
 case neg => rw [if_neg h, if_neg h]
 rw [if_pos h, if_pos h]
 by_cases h0 : 0 ≤ x.reeve
 case neg => rw [if_neg h0, if_neg (fun g => h0 g.1)]
 by_cases h4 : x.reeve ≤ 4
 case neg => rw [if_pos h0, if_neg h4, if_neg (fun g => h4 g.2.1)]
 rw [if_pos h0, if_pos h4]
 have hr : x.reeve = 0 ∨ x.reeve = 1 ∨ x.reeve = 2 ∨ x.reeve = 3 ∨ x.reeve = 4 := by omega
 rcases hr with hr | hr | hr | hr | hr <;> simp only [hr] <;> (repeat' split) <;> first | rfl | (exfalso; omega) | (exfalso; simp_all; done) | (exfalso; simp_all; omega)
theorem pOwedT_n {n : Int} {a_l : Option Addr} {b_l o_l κ_l : Nat} {l : List Po} {w : World} (H : LstAt poC w a_l b_l o_l l) (h0 : l.length ≤ κ_l) (h1 : (l.length : Int) ≤ 1000) (h2 : -9223372036854775808 ≤ n ∧ n ≤ 9223372036854775807) {x : Rf} (h3 : -9223372036854775808 ≤ x.reeve ∧ x.reeve ≤ 9223372036854775807) (h4 : -9223372036854775808 ≤ x.number ∧ x.number ≤ 9223372036854775807) : Calls Tryz.prog 31 #[.int .i64 n, .slice a_l l.length κ_l, x.val] w fun e w' => e = .returned (.tuple #[.int .i64 (owedTN n l x).1, .int .i64 (owedTN n l x).2]) ∧ Chg (fun _ => False) w w' := by
 have := pT_any ⟨n, a_l, b_l, o_l, κ_l, l, x⟩ w H (by show (l.length : Int) ≤ (κ_l : Int); omega) h1 h2 h3 h4
 rw [pOwedT_r_n] at this
 exact this
structure pR_A where
 p : Po
def pR_r  (A : pR_A) (w : World) : Int × Int × Int := (if 1 ≤ A.p.kind then (if A.p.kind ≤ 5 then (if A.p.kind = 1 then (A.p.owner, 0, A.p.amount) else (if A.p.kind = 2 then (A.p.owner, 0, A.p.amount) else (if A.p.kind = 3 then ((IntKind.wrap .i64 (100 + A.p.reeve)), 200, A.p.amount) else (if A.p.kind = 4 then (if A.p.by_.reeve = 0 then (if A.p.by_.number = 0 then ((IntKind.wrap .i64 (100 + A.p.reeve)), A.p.owner, A.p.amount) else (200, A.p.owner, A.p.amount)) else (200, A.p.owner, A.p.amount)) else (0, A.p.owner, A.p.amount))))) else (0, 0, 0)) else (0, 0, 0))
theorem pR_any  (A : pR_A) (w : World) (h0 : 0 ≤ A.p.kind ∧ A.p.kind ≤ 255) : Calls Tryz.prog 21 #[A.p.val] w fun e w' => e = .returned (.agg #[.int .i64 ((pR_r A w).1), .int .i64 ((pR_r A w).2.1), .int .i64 ((pR_r A w).2.2)]) ∧ Chg (fun _ => False) w w' := by
 unfold pR_r
 refine wGo (E := E0) (n := 8) (w := w) (L := id) ?_
 refine wS (.agg #[] :: poV A.p ++ I A.p.kind :: []) (wE (⟨1000000000 + (5 * 10000 + 3), [4], 12⟩) (fun _ => q_convI (ks := .u8) (kd := .i64) (by kernel_rfl) (by kernel_rfl) rfl (show -9223372036854775808 ≤ A.p.kind ∧ A.p.kind ≤ 9223372036854775807 by omega) rfl rfl rfl) ?_)
 split <;> rename_i h1
 ·refine wT .geq 12 (J 1) h1 ?_
  split <;> rename_i h2
  ·refine wT .leq 12 (J 5) h2 ?_
   split <;> rename_i h3
   ·refine wE (⟨3000000000 + 142, [.agg [.nf, .nf, .fn (.func 178) [] [], .fn (.func 179) [] [], .fn (.func 178) [] [], .fn (.func 179) [] [], .fn (.func 180) [] [], .fn (.func 181) [] [], .fn (.func 182) [] [], .fn (.func 178) [] [], .fn (.func 179) [] [], .fn (.func 178) [] []], 4], .agg [.fn (.func 178) [] [], .fn (.func 179) [] []]⟩) (fun _ => q_idx rfl rfl (c := 1) h3 (by kernel_rfl)) ?_
    exact wZ (.agg [6, .int .i64 0, 11]) [.agg [1, 2, 3, 4, 5, 6, 7, 8, 9, 10, 11]]
   ·split <;> rename_i h4
    ·refine wE (⟨3000000000 + 142, [.agg [.nf, .nf, .fn (.func 178) [] [], .fn (.func 179) [] [], .fn (.func 178) [] [], .fn (.func 179) [] [], .fn (.func 180) [] [], .fn (.func 181) [] [], .fn (.func 182) [] [], .fn (.func 178) [] [], .fn (.func 179) [] [], .fn (.func 178) [] []], 4], .agg [.fn (.func 178) [] [], .fn (.func 179) [] []]⟩) (fun _ => q_idx rfl rfl (c := 2) h4 (by kernel_rfl)) ?_
     exact wZ (.agg [6, .int .i64 0, 11]) [.agg [1, 2, 3, 4, 5, 6, 7, 8, 9, 10, 11]]
    ·split <;> rename_i h5
     ·refine wS (I (IntKind.wrap .i64 (100 + A.p.reeve)) :: []) (wE (⟨3000000000 + 142, [.agg [.nf, .nf, .fn (.func 178) [] [], .fn (.func 179) [] [], .fn (.func 178) [] [], .fn (.func 179) [] [], .fn (.func 180) [] [], .fn (.func 181) [] [], .fn (.func 182) [] [], .fn (.func 178) [] [], .fn (.func 179) [] [], .fn (.func 178) [] []], 4], .agg [.fn (.func 180) [] [], .fn (.func 181) [] []]⟩) (fun _ => q_idx rfl rfl (c := 3) h5 (by kernel_rfl)) (wE (⟨tagB .add, [J 100, 1], 13⟩) (fun _ => q_add rfl rfl rfl) ?_))
      exact wZ (.agg [13, .int .i64 200, 11]) [.agg [1, 2, 3, 4, 5, 6, 7, 8, 9, 10, 11]]
     ·split <;> rename_i h6
      ·refine wE (⟨3000000000 + 142, [.agg [.nf, .nf, .fn (.func 178) [] [], .fn (.func 179) [] [], .fn (.func 178) [] [], .fn (.func 179) [] [], .fn (.func 180) [] [], .fn (.func 181) [] [], .fn (.func 182) [] [], .fn (.func 178) [] [], .fn (.func 179) [] [], .fn (.func 178) [] []], 4], .agg [.fn (.func 182) [] [], .fn (.func 178) [] []]⟩) (fun _ => q_idx rfl rfl (c := 4) h6 (by kernel_rfl)) ?_
       split <;> rename_i h7
       ·refine wU 9 (J 0) h7 ?_
        split <;> rename_i h8
        ·refine wS (I (IntKind.wrap .i64 (100 + A.p.reeve)) :: []) (wU 10 (J 0) h8 (wE (⟨tagB .add, [J 100, 1], 13⟩) (fun _ => q_add rfl rfl rfl) ?_))
         exact wZ (.agg [13, 6, 11]) [.agg [1, 2, 3, 4, 5, 6, 7, 8, 9, 10, 11]]
        ·refine wV 10 (J 0) h8 ?_
         exact wZ (.agg [.int .i64 200, 6, 11]) [.agg [1, 2, 3, 4, 5, 6, 7, 8, 9, 10, 11]]
       ·refine wV 9 (J 0) h7 ?_
        exact wZ (.agg [.int .i64 200, 6, 11]) [.agg [1, 2, 3, 4, 5, 6, 7, 8, 9, 10, 11]]
      ·refine wE (⟨3000000000 + 142, [.agg [.nf, .nf, .fn (.func 178) [] [], .fn (.func 179) [] [], .fn (.func 178) [] [], .fn (.func 179) [] [], .fn (.func 180) [] [], .fn (.func 181) [] [], .fn (.func 182) [] [], .fn (.func 178) [] [], .fn (.func 179) [] [], .fn (.func 178) [] []], 4], .agg [.fn (.func 179) [] [], .fn (.func 178) [] []]⟩) (fun _ => q_idx rfl rfl (c := 5) (show A.p.kind = 5 by omega) (by kernel_rfl)) ?_
       exact wZ (.agg [.int .i64 0, 6, 11]) [.agg [1, 2, 3, 4, 5, 6, 7, 8, 9, 10, 11]]
  ·refine wF .leq 12 (J 5) h2 ?_
   exact wZ (.agg [.int .i64 0, .int .i64 0, .int .i64 0]) [.agg [1, 2, 3, 4, 5, 6, 7, 8, 9, 10, 11]]
 ·refine wF .geq 12 (J 1) h1 ?_
  exact wZ (.agg [.int .i64 0, .int .i64 0, .int .i64 0]) [.agg [1, 2, 3, 4, 5, 6, 7, 8, 9, 10, 11]]
theorem pTransfer_n (p : Po) (w : World) (h : 0 ≤ p.kind ∧ p.kind ≤ 255) : Calls Tryz.prog 21 #[p.val] w fun e w' => e = .returned (.agg #[.int .i64 (debitN p), .int .i64 (creditN p), .int .i64 (amountN p)]) ∧ Chg (fun _ => False) w w' := by
 have := pR_any ⟨p⟩ w h
 have e : pR_r ⟨p⟩ w = (debitN p, creditN p, amountN p) := by
  unfold pR_r debitN creditN amountN
  repeat' split
  all_goals first | rfl | (exfalso; omega) | (simp_all; done) | (simp_all; omega)
 rw [e] at this
 exact this
structure pB_A where
 n : Int
 a_l : Option Addr
 b_l : Nat
 o_l : Nat
 κ_l : Nat
 l : List Po
 acc : Int
def pB_L0_H : Head := (⟨[(0, 1), (1, 2), (2, 3), (6, .int .i64 0), (7, .int .i64 0), (8, 4), (9, 5), (10, 7), (14, .tup [4, 5]), (15, 1), (16, 2), (17, .tup [4, 5]), (18, 4), (19, 5), (20, 5), (21, .bool false), (23, 2), (24, 6), (25, 8)], [], 8, 8, 0, 0, 7, 9⟩ : Head)
def pB_L0_R : Rn := ⟨8, [], 0, [], 7, [.int .i64 0, .int .i64 0]⟩
def pB_L0_B  (A : pB_A) (w : World) (R : List Value) : List Value := .agg #[] :: .int .i64 A.n :: .slice A.a_l A.l.length A.κ_l :: .int .i64 A.acc :: .int .i64 ((rollN A.n A.l).1) :: .int .i64 ((rollN A.n A.l).2) :: .int .i64 (A.l.length : Int) :: R
def pB_L0_X0 : Head := (⟨[(0, 1), (1, 2), (2, 3), (6, .int .i64 0), (7, .int .i64 0), (9, 5), (10, 7), (14, .tup [4, 5]), (15, 1), (16, 2), (17, .tup [4, 5]), (18, 4), (19, 5), (20, 5), (21, .bool false), (23, 2)], [], 8, 8, 0, 0, 7, 8⟩ : Head)
def pB_L0  (A : pB_A) (w : World) : Nat → Int → Int → Option (Nat × Int × Unit)
 | 0, _, _ => none
 | fu_ + 1, v00, v01 => (if v01 < (A.l.length : Int) then (if (debitN (at_ A.l v01)) = A.acc then (if (creditN (at_ A.l v01)) = A.acc then pB_L0 A w fu_ ((IntKind.wrap .i64 ((IntKind.wrap .i64 (v00 + (amountN (at_ A.l v01)))) - (amountN (at_ A.l v01))))) (v01 + 1) else pB_L0 A w fu_ ((IntKind.wrap .i64 (v00 + (amountN (at_ A.l v01))))) (v01 + 1)) else (if (creditN (at_ A.l v01)) = A.acc then pB_L0 A w fu_ ((IntKind.wrap .i64 (v00 - (amountN (at_ A.l v01))))) (v01 + 1) else pB_L0 A w fu_ v00 (v01 + 1))) else some (0, v00, ()))
def pB_r  (A : pB_A) (w : World) : Int × Int := (if ((rollN A.n A.l).2) = 0 then (match pB_L0 A w ((((A.l.length : Int) - 0) : Int).toNat + 1) 0 0 with | some (0, x0_00, _) => (if 0 ≤ A.acc then (if A.acc ≤ 40 then (x0_00, 0) else (if 100 ≤ A.acc then (if A.acc ≤ 104 then (x0_00, 0) else (if A.acc = 200 then (x0_00, 0) else (0, 0))) else (0, 0))) else (0, 0)) | _ => default) else (0, ((rollN A.n A.l).2)))
theorem pB_any  (A : pB_A) (w : World) (H_l : LstAt poC w A.a_l A.b_l A.o_l A.l) (h0 : (A.l.length : Int) ≤ (A.κ_l : Int)) (h1 : KindR A.l) (h2 : (A.l.length : Int) ≤ 1000) (h3 : -9223372036854775808 ≤ A.n ∧ A.n ≤ 9223372036854775807) (h4 : -9223372036854775808 ≤ A.acc ∧ A.acc ≤ 9223372036854775807) : Calls Tryz.prog 30 #[.int .i64 A.n, .slice A.a_l A.l.length A.κ_l, .int .i64 A.acc] w fun e w' => e = .returned (.tuple #[.int .i64 ((pB_r A w).1), .int .i64 ((pB_r A w).2)]) ∧ Chg (fun _ => False) w w' := by
 unfold pB_r
 refine wGo (E := E0) (n := 8) (w := w) (L := id) ?_
 refine wS (.agg #[] :: I A.n :: .slice A.a_l A.l.length A.κ_l :: I A.acc :: I ((rollN A.n A.l).1) :: I ((rollN A.n A.l).2) :: []) (wC (⟨29, [.tup [1, 2], .tup []], .tup [4, 5]⟩) (fun _ => q_cV (h := fun w hw => by exact pRoll_n (LstAt.old H_l hw) (by omega) (by omega) (show -9223372036854775808 ≤ A.n ∧ A.n ≤ 9223372036854775807 by omega))) ?_)
 split <;> rename_i h5
 ·refine wS (I (A.l.length : Int) :: []) (wF .neq 5 (J 0) (fun h => h h5) (wN 38 2 6 ?_))
  refine wK (K := ∀ (fu_ : Nat) (v00 : Int) (v01 : Int), (0 ≤ v01 ∧ v01 ≤ (A.l.length : Int)) → (((A.l.length : Int) - v01) : Int) < fu_ → ∃ o, pB_L0 A w fu_ v00 v01 = some o ∧ RdsD Tryz.prog 8 30 6 w pB_L0_H (pB_L0_B A w [.int .i64 v00, .int .i64 v01]) fu_ [(o.1 = 0 ∧ True, pB_L0_X0, pB_L0_B A w [.int .i64 o.2.1], (.exit 0))]) (fun hq hc hm hp fu_ => ?_) (fun key6 => ?_)
  ·induction fu_ with
   | zero => intro v00 v01 _ hz; exfalso; omega
   | succ fu_ ih =>
    intro v00 v01 h6 hz
    rw [pB_L0]
    refine wB hq hc hm hp ?_
    refine wS (I v00 :: I v01 :: []) ?_
    split <;> rename_i h7
    ·have h8 : 0 ≤ (at_ A.l v01).kind ∧ (at_ A.l v01).kind ≤ 255 := h1 v01 ⟨by omega, by omega⟩
     refine wS (.pointer (some ⟨A.b_l, A.o_l + (v01 : Int).toNat * 11, none⟩) :: poV (at_ A.l v01) ++ I (debitN (at_ A.l v01)) :: I (creditN (at_ A.l v01)) :: I (amountN (at_ A.l v01)) :: []) (wT .lss 8 6 h7 (wX 38 2 8 9 H_l 11 v01 (wR 25 9 [10, 11, 12, 13, 14, 15, 16, 17, 18, 19, 20] H_l v01 (wC (⟨21, [.tup [.agg [10, 11, 12, 13, 14, 15, 16, 17, 18, 19, 20]], .tup []], .agg [21, 22, 23]⟩) (fun _ => q_cV (h := fun w hw => by exact pTransfer_n _ _ (show 0 ≤ (at_ A.l v01).kind ∧ (at_ A.l v01).kind ≤ 255 by omega))) ?_))))
     split <;> rename_i h9
     ·refine wS (I ((IntKind.wrap .i64 (v00 + (amountN (at_ A.l v01))))) :: []) (wT .eql 21 3 h9 (wE (⟨tagB .add, [7, 23], 24⟩) (fun _ => q_add rfl rfl rfl) ?_))
      split <;> rename_i h10
      ·refine wS (I ((IntKind.wrap .i64 ((IntKind.wrap .i64 (v00 + (amountN (at_ A.l v01)))) - (amountN (at_ A.l v01))))) :: I (v01 + 1) :: []) (wT .eql 22 3 h10 (wE (⟨tagB .sub, [24, 23], 25⟩) (fun _ => q_sub rfl rfl rfl) (wA 8 (J 1) 26 ?_)))
       exact wQ (rnG (ih ((IntKind.wrap .i64 ((IntKind.wrap .i64 (v00 + (amountN (at_ A.l v01)))) - (amountN (at_ A.l v01))))) (v01 + 1) (by omega) (by omega))) 9 ⟨8, [], 0, [], 7, [25, 26]⟩ [] ⟨rfl, rfl, trivial⟩
      ·refine wS (I (v01 + 1) :: []) (wF .eql 22 3 h10 (wA 8 (J 1) 25 ?_))
       exact wQ (rnG (ih ((IntKind.wrap .i64 (v00 + (amountN (at_ A.l v01))))) (v01 + 1) (by omega) (by omega))) 9 ⟨8, [], 0, [], 7, [24, 25]⟩ [] ⟨rfl, rfl, trivial⟩
     ·refine wF .eql 21 3 h9 ?_
      split <;> rename_i h10
      ·refine wS (I ((IntKind.wrap .i64 (v00 - (amountN (at_ A.l v01))))) :: I (v01 + 1) :: []) (wT .eql 22 3 h10 (wE (⟨tagB .sub, [7, 23], 24⟩) (fun _ => q_sub rfl rfl rfl) (wA 8 (J 1) 25 ?_)))
       exact wQ (rnG (ih ((IntKind.wrap .i64 (v00 - (amountN (at_ A.l v01))))) (v01 + 1) (by omega) (by omega))) 9 ⟨8, [], 0, [], 7, [24, 25]⟩ [] ⟨rfl, rfl, trivial⟩
      ·refine wS (I (v01 + 1) :: []) (wF .eql 22 3 h10 (wA 8 (J 1) 24 ?_))
       exact wQ (rnG (ih v00 (v01 + 1) (by omega) (by omega))) 9 ⟨8, [], 0, [], 7, [7, 24]⟩ [] ⟨rfl, rfl, trivial⟩
    ·refine wF .lss 8 6 h7 ?_
     exact wQ (fun hr => ⟨(0, v00, ()), rfl, ⟨⟨rfl, trivial⟩, rndEnd xeE hr⟩⟩) 9 ⟨8, [], 0, [], 7, [7]⟩ [] ⟨rfl, trivial⟩
  obtain ⟨⟨q6, x0_00, _⟩, h6, hk6⟩ := key6 ((((A.l.length : Int) - 0) : Int).toNat + 1) 0 0 (by first | trivial | omega | (simp; omega)) (by first | omega | (simp; omega))
  rw [h6]
  rcases hk6 with ⟨⟨he6, h7⟩, hr6⟩
  ·have he6 : q6 = 0 := he6
   subst he6
   try simp only []
   refine wS (I x0_00 :: []) ?_
   refine wLp (x := (.exit 0)) rfl hr6 pB_L0_R [] (fun _ => rfl) (by kernel_rfl) (fun _ => rfl) (fun _ => ⟨rfl, rfl, trivial⟩) (fun _ => rfl) ?_
   split <;> rename_i h8
   ·refine wT .geq 3 (J 0) h8 ?_
    split <;> rename_i h9
    ·refine wT .leq 3 (J 40) h9 ?_
     exact wZ (.tup [7, .int .i64 0]) [1, 2, 3]
    ·refine wF .leq 3 (J 40) h9 ?_
     split <;> rename_i h10
     ·refine wT .geq 3 (J 100) h10 ?_
      split <;> rename_i h11
      ·refine wT .leq 3 (J 104) h11 ?_
       exact wZ (.tup [7, .int .i64 0]) [1, 2, 3]
      ·refine wF .leq 3 (J 104) h11 ?_
       split <;> rename_i h12
       ·refine wT .eql 3 (J 200) h12 ?_
        exact wZ (.tup [7, .int .i64 0]) [1, 2, 3]
       ·refine wF .eql 3 (J 200) h12 ?_
        exact wZ (.tup [.int .i64 0, .int .i64 0]) [1, 2, 3]
     ·refine wF .geq 3 (J 100) h10 (wF .eql 3 (J 200) (show ¬ (A.acc = 200) by omega) ?_)
      exact wZ (.tup [.int .i64 0, .int .i64 0]) [1, 2, 3]
   ·refine wF .geq 3 (J 0) h8 (wF .geq 3 (J 100) (show ¬ (100 ≤ A.acc) by omega) (wF .eql 3 (J 200) (show ¬ (A.acc = 200) by omega) ?_))
    exact wZ (.tup [.int .i64 0, .int .i64 0]) [1, 2, 3]
 ·refine wT .neq 5 (J 0) h5 ?_
  exact wZ (.tup [.int .i64 0, 5]) [1, 2, 3]
theorem pB_L0_n (A : pB_A) (w : World) : ∀ (fu : Nat) (v i : Int), (0 ≤ i ∧ i ≤ (A.l.length : Int)) → (A.l.length : Int) - i < fu → pB_L0 A w fu v i = some (0, (A.l.drop i.toNat).foldl (balF A.acc) v, ()) := by
 intro fu
 induction fu with
 | zero => intros; omega
 | succ fu ih =>
  intro v i h0 hm
  rw [pB_L0]
  by_cases hi : i < (A.l.length : Int)
  ·have e := fun v => ih v (i + 1) (by omega) (by omega)
   rw [if_pos hi, drop_at ⟨h0.1, hi⟩, List.foldl_cons]
   by_cases h1 : debitN (at_ A.l i) = A.acc <;> by_cases h2 : creditN (at_ A.l i) = A.acc <;> simp only [h1, h2, if_true, if_false, e, balF]
  ·rw [if_neg hi, drop_end hi]; rfl
theorem pBalance_r_n (A : pB_A) (w : World) {acc n : Int} {l : List Po} (ha : A.acc = acc) (hn : A.n = n) (hl : A.l = l) : pB_r A w = balanceN n l acc := by
 unfold pB_r balanceN
 rw [pB_L0_n _ _ _ _ _ (by omega) (by omega), ha, hn, hl]
 show (if (rollN n l).2 = 0 then (if 0 ≤ acc then (if acc ≤ 40 then (balN l acc, 0) else (if 100 ≤ acc then (if acc ≤ 104 then (balN l acc, 0) else (if acc = 200 then (balN l acc, 0) else (0, 0))) else (0, 0))) else (0, 0)) else (0, (rollN n l).2)) = _
 by_cases hA : isAccN acc
 ·simp only [if_pos hA]
  unfold isAccN at hA
  repeat' split
  all_goals first | rfl | (exfalso; omega)
 ·simp only [if_neg hA]
  unfold isAccN at hA
  repeat' split
  all_goals first | rfl | (exfalso; omega)
theorem pBalance_n {n : Int} {a_l : Option Addr} {b_l o_l κ_l : Nat} {l : List Po} {acc : Int} {w : World} (H : LstAt poC w a_l b_l o_l l) (h0 : l.length ≤ κ_l) (hk : KindR l) (h1 : (l.length : Int) ≤ 1000) (h2 : -9223372036854775808 ≤ n ∧ n ≤ 9223372036854775807) (h3 : -9223372036854775808 ≤ acc ∧ acc ≤ 9223372036854775807) : Calls Tryz.prog 30 #[.int .i64 n, .slice a_l l.length κ_l, .int .i64 acc] w fun e w' => e = .returned (.tuple #[.int .i64 (balanceN n l acc).1, .int .i64 (balanceN n l acc).2]) ∧ Chg (fun _ => False) w w' := by
 have := pB_any ⟨n, a_l, b_l, o_l, κ_l, l, acc⟩ w H (by show (l.length : Int) ≤ (κ_l : Int); omega) hk h1 h2 h3
 rw [pBalance_r_n _ w rfl rfl rfl] at this
 exact this
structure pC_A where
 B_b : Nat
 O_b : Nat
 a_b : Int → Option Addr
 b_b : Int → Nat
 o_b : Int → Nat
 κ_b : Int → Nat
 b : Int → List Po
 x : Rf
def pC_r  (A : pC_A) (w : World) : Int × Int × Int × Int × Int × Int × Int × Int × Int × Int × Int × Bool := (if 0 ≤ A.x.reeve then (if A.x.reeve ≤ 4 then (if 1 ≤ A.x.number then (if A.x.number ≤ ((A.b A.x.reeve).length : Int) then (if (at_ (A.b A.x.reeve) (A.x.number - 1)).kind = 1 ∨ (at_ (A.b A.x.reeve) (A.x.number - 1)).kind = 2 then ((at_ (A.b A.x.reeve) (A.x.number - 1)).reeve, (at_ (A.b A.x.reeve) (A.x.number - 1)).number, (at_ (A.b A.x.reeve) (A.x.number - 1)).tick, (at_ (A.b A.x.reeve) (A.x.number - 1)).kind, (at_ (A.b A.x.reeve) (A.x.number - 1)).cse, (at_ (A.b A.x.reeve) (A.x.number - 1)).owner, (at_ (A.b A.x.reeve) (A.x.number - 1)).of.reeve, (at_ (A.b A.x.reeve) (A.x.number - 1)).of.number, (at_ (A.b A.x.reeve) (A.x.number - 1)).by_.reeve, (at_ (A.b A.x.reeve) (A.x.number - 1)).by_.number, (at_ (A.b A.x.reeve) (A.x.number - 1)).amount, true) else ((at_ (A.b A.x.reeve) (A.x.number - 1)).reeve, (at_ (A.b A.x.reeve) (A.x.number - 1)).number, (at_ (A.b A.x.reeve) (A.x.number - 1)).tick, (at_ (A.b A.x.reeve) (A.x.number - 1)).kind, (at_ (A.b A.x.reeve) (A.x.number - 1)).cse, (at_ (A.b A.x.reeve) (A.x.number - 1)).owner, (at_ (A.b A.x.reeve) (A.x.number - 1)).of.reeve, (at_ (A.b A.x.reeve) (A.x.number - 1)).of.number, (at_ (A.b A.x.reeve) (A.x.number - 1)).by_.reeve, (at_ (A.b A.x.reeve) (A.x.number - 1)).by_.number, (at_ (A.b A.x.reeve) (A.x.number - 1)).amount, false)) else (0, 0, 0, 0, 0, 0, 0, 0, 0, 0, 0, false)) else (0, 0, 0, 0, 0, 0, 0, 0, 0, 0, 0, false)) else (0, 0, 0, 0, 0, 0, 0, 0, 0, 0, 0, false)) else (0, 0, 0, 0, 0, 0, 0, 0, 0, 0, 0, false))
theorem pC_any  (A : pC_A) (w : World) (H_b : BkF poC w A.B_b A.O_b 5 A.a_b A.b_b A.o_b A.κ_b A.b) (h0 : LenR A.b) : Calls Tryz.prog 99 #[.pointer (some ⟨A.B_b, A.O_b, none⟩), A.x.val] w fun e w' => e = .returned (.tuple #[.agg #[.int .i64 ((pC_r A w).1), .int .i64 ((pC_r A w).2.1), .int .i64 ((pC_r A w).2.2.1), .int .u8 ((pC_r A w).2.2.2.1), .int .i64 ((pC_r A w).2.2.2.2.1), .int .i64 ((pC_r A w).2.2.2.2.2.1), .int .i64 ((pC_r A w).2.2.2.2.2.2.1), .int .i64 ((pC_r A w).2.2.2.2.2.2.2.1), .int .i64 ((pC_r A w).2.2.2.2.2.2.2.2.1), .int .i64 ((pC_r A w).2.2.2.2.2.2.2.2.2.1), .int .i64 ((pC_r A w).2.2.2.2.2.2.2.2.2.2.1)], .bool ((pC_r A w).2.2.2.2.2.2.2.2.2.2.2)]) ∧ Chg (fun _ => False) w w' := by
 unfold pC_r
 refine wGo (E := E0) (n := 8) (w := w) (L := id) ?_
 refine wS (.agg #[] :: .pointer (some ⟨A.B_b, A.O_b, none⟩) :: I A.x.reeve :: I A.x.number :: []) ?_
 split <;> rename_i h1
 ·refine wT .geq 2 (J 0) h1 ?_
  split <;> rename_i h2
  ·have h3 : ((A.b A.x.reeve).length : Int) ≤ ((A.κ_b A.x.reeve) : Int) := Int.ofNat_le.2 (H_b.2 A.x.reeve (by omega)).2.1
   have h4 : ((A.b (A.x.reeve)).length : Int) ≤ 1000 := h0 (A.x.reeve) (by omega)
   refine wS (.pointer (some ⟨A.B_b, A.O_b + (A.x.reeve : Int).toNat * 1, none⟩) :: .slice (A.a_b A.x.reeve) (A.b A.x.reeve).length (A.κ_b A.x.reeve) :: I (((A.b A.x.reeve).length : Int)) :: []) (wT .leq 2 (J 4) h2 (wE (⟨5500000000, [1], 1⟩) (fun _ => q_nil rfl) (wE (⟨2000000000 + 158, [1, 2], 4⟩) (fun _ => q_bkIdx (n := 5) (sz := 1) (m := A.x.reeve) rfl rfl rfl (by omega) rfl (by kernel_rfl)) (wE (⟨8000000000 + 38, [4], 5⟩) (fun _ => q_bkLoad (C := poC) H_b (m := A.x.reeve) (by omega) rfl rfl rfl (by kernel_rfl)) (wN 38 5 6 ?_)))))
   split <;> rename_i h5
   ·refine wT .geq 3 (J 1) h5 ?_
    split <;> rename_i h6
    ·refine wS (I (A.x.number - 1) :: .pointer (some ⟨(A.b_b A.x.reeve), (A.o_b A.x.reeve) + ((A.x.number - 1) : Int).toNat * 11, none⟩) :: poV (at_ (A.b A.x.reeve) (A.x.number - 1)) ++ []) (wT .leq 3 6 h6 (wD 3 (J 1) 7 (wX 38 5 7 8 ((H_b.2 A.x.reeve (by omega)).2.2) 11 (A.x.number - 1) (wR 25 8 [9, 10, 11, 12, 13, 14, 15, 16, 17, 18, 19] ((H_b.2 A.x.reeve (by omega)).2.2) (A.x.number - 1) ?_))))
     split <;> rename_i h7
     ·refine wC (⟨112, [.tup [.agg [9, 10, 11, 12, 13, 14, 15, 16, 17, 18, 19]], .tup []], (.bool true)⟩) (fun _ => q_cV (h := fun w hw => by have hb := decide_eq_true h7; rw [← hb]; exact pCharge_n _ _)) ?_
      exact wZ (.tup [.agg [9, 10, 11, 12, 13, 14, 15, 16, 17, 18, 19], .bool true]) [1, .agg [2, 3]]
     ·refine wC (⟨112, [.tup [.agg [9, 10, 11, 12, 13, 14, 15, 16, 17, 18, 19]], .tup []], (.bool false)⟩) (fun _ => q_cV (h := fun w hw => by have hb := decide_eq_false h7; rw [← hb]; exact pCharge_n _ _)) ?_
      exact wZ (.tup [.agg [9, 10, 11, 12, 13, 14, 15, 16, 17, 18, 19], .bool false]) [1, .agg [2, 3]]
    ·refine wF .leq 3 6 h6 ?_
     exact wZ (.tup [.agg [.int .i64 0, .int .i64 0, .int .i64 0, .bs 1 0, .int .i64 0, .int .i64 0, .int .i64 0, .int .i64 0, .int .i64 0, .int .i64 0, .int .i64 0], .bool false]) [1, .agg [2, 3]]
   ·refine wF .geq 3 (J 1) h5 ?_
    exact wZ (.tup [.agg [.int .i64 0, .int .i64 0, .int .i64 0, .bs 1 0, .int .i64 0, .int .i64 0, .int .i64 0, .int .i64 0, .int .i64 0, .int .i64 0, .int .i64 0], .bool false]) [1, .agg [2, 3]]
  ·refine wF .leq 2 (J 4) h2 ?_
   exact wZ (.tup [.agg [.int .i64 0, .int .i64 0, .int .i64 0, .bs 1 0, .int .i64 0, .int .i64 0, .int .i64 0, .int .i64 0, .int .i64 0, .int .i64 0, .int .i64 0], .bool false]) [1, .agg [2, 3]]
 ·refine wF .geq 2 (J 0) h1 ?_
  exact wZ (.tup [.agg [.int .i64 0, .int .i64 0, .int .i64 0, .bs 1 0, .int .i64 0, .int .i64 0, .int .i64 0, .int .i64 0, .int .i64 0, .int .i64 0, .int .i64 0], .bool false]) [1, .agg [2, 3]]
theorem pC_r_n (A : pC_A) (w : World) {L : Int → List Po} {x : Rf} (hL : A.b = L) (hx : A.x = x) : pC_r A w = ((chargeP L x).reeve, (chargeP L x).number, (chargeP L x).tick, (chargeP L x).kind, (chargeP L x).cse, (chargeP L x).owner, (chargeP L x).of.reeve, (chargeP L x).of.number, (chargeP L x).by_.reeve, (chargeP L x).by_.number, (chargeP L x).amount, chargeB L x) := by
 unfold pC_r chargeP chargeB inBk
 rw [hL, hx]
 by_cases h1 : 0 ≤ x.reeve
 ·by_cases h2 : x.reeve ≤ 4
  ·by_cases h3 : 1 ≤ x.number
   ·by_cases h4 : x.number ≤ ((L x.reeve).length : Int)
    ·have hin : (0 ≤ x.reeve ∧ x.reeve ≤ 4) ∧ 1 ≤ x.number ∧ x.number ≤ ((L x.reeve).length : Int) := ⟨⟨h1, h2⟩, h3, h4⟩
     rw [if_pos h1, if_pos h2, if_pos h3, if_pos h4]
     simp only [hin, true_and, and_self, if_true, isCh]
     by_cases h5 : (at_ (L x.reeve) (x.number - 1)).kind = 1 ∨ (at_ (L x.reeve) (x.number - 1)).kind = 2
     ·rw [if_pos h5, decide_eq_true h5]
     ·rw [if_neg h5, decide_eq_false h5]
    ·have hin : ¬ ((0 ≤ x.reeve ∧ x.reeve ≤ 4) ∧ 1 ≤ x.number ∧ x.number ≤ ((L x.reeve).length : Int)) := fun h => h4 h.2.2
     rw [if_pos h1, if_pos h2, if_pos h3, if_neg h4]
     simp only [hin, if_false, false_and, decide_false]; rfl
   ·have hin : ¬ ((0 ≤ x.reeve ∧ x.reeve ≤ 4) ∧ 1 ≤ x.number ∧ x.number ≤ ((L x.reeve).length : Int)) := fun h => h3 h.2.1
    rw [if_pos h1, if_pos h2, if_neg h3]
    simp only [hin, if_false, false_and, decide_false]; rfl
  ·have hin : ¬ ((0 ≤ x.reeve ∧ x.reeve ≤ 4) ∧ 1 ≤ x.number ∧ x.number ≤ ((L x.reeve).length : Int)) := fun h => h2 h.1.2
   rw [if_pos h1, if_neg h2]
   simp only [hin, if_false, false_and, decide_false]; rfl
 ·have hin : ¬ ((0 ≤ x.reeve ∧ x.reeve ≤ 4) ∧ 1 ≤ x.number ∧ x.number ≤ ((L x.reeve).length : Int)) := fun h => h1 h.1.1
  rw [if_neg h1]
  simp only [hin, if_false, false_and, decide_false]; rfl
theorem pChargeB_n {B O : Nat} {a : Int → Option Addr} {bb oo κ : Int → Nat} {L : Int → List Po} {w : World} (H : BkF poC w B O 5 a bb oo κ L) (h : LenR L) (x : Rf) : Calls Tryz.prog 99 #[.pointer (some ⟨B, O, none⟩), x.val] w fun e w' => e = .returned (.tuple #[.agg #[.int .i64 (chargeP L x).reeve, .int .i64 (chargeP L x).number, .int .i64 (chargeP L x).tick, .int .u8 (chargeP L x).kind, .int .i64 (chargeP L x).cse, .int .i64 (chargeP L x).owner, .int .i64 (chargeP L x).of.reeve, .int .i64 (chargeP L x).of.number, .int .i64 (chargeP L x).by_.reeve, .int .i64 (chargeP L x).by_.number, .int .i64 (chargeP L x).amount], .bool (chargeB L x)]) ∧ Chg (fun _ => False) w w' := by
 have := pC_any ⟨B, O, a, bb, oo, κ, L, x⟩ w H h
 rw [pC_r_n _ w rfl rfl] at this
 exact this
end Go.Proofs.YtocabeobfbhajaaGreatDoor.Sx
end
section
set_option maxRecDepth 100000
namespace Go.Proofs.YtocabeobfbhajaaGreatDoor.Sx
open Go Go.RowKit Go.Proofs Go.Proofs.YtocabeobfbhajaaGreatDoor Go.Lib
theorem frall_empty {w0 w : World} {b k e : Nat} {cl : Array Value} {t : TypeId} (hb : w.heap[b]? = some (.cells cl t (0, 0))) (hw : w0.heap.size ≤ b) (hs : e * 11 ≤ cl.size) : FrAll w0.heap.size w [⟨([] : List Po).flatMap poC.f, 11, ([] : List Po).length⟩] [.slice (some ⟨b, 0, none⟩) 0 e] [] :=
 .inr ⟨b, by simp, hw, ⟨0, e, cl, t, (0, 0), rfl, Nat.zero_le _, hb, .inl rfl, by simpa using hs, fun i v h => by simp at h⟩, trivial⟩
noncomputable def postOK (P : Program) : Bool := match P.info? 25 with
 | some i => match Nat.beq i.size 11, Nat.ble i.bytes 1048576 with
  | true, true => match zCs P 25 i.size with
   | .ok _ => true
   | .no _ => false
  | _, _ => false
 | none => false
theorem post_ok : postOK Tryz.prog = true := by kernel_rfl
theorem post_info (w : World) : ∃ i z, (Tryz.prog).info? 25 = some i ∧ ((∀ w' : World, (zeroValue 25).run Tryz.prog w' = .ok z w') ∧ z.cells.size = i.size) ∧ i.size = 11 ∧ i.bytes ≤ 1048576 := by
 have h := post_ok
 unfold postOK at h
 split at h
 case h_2 => cases h
 rename_i i hi
 split at h
 case h_2 => cases h
 rename_i h1 h2
 split at h
 case h_2 => cases h
 rename_i q hq
 obtain ⟨zv, z1, z2, z3, z4⟩ := zCs_ok hq w
 refine ⟨i, zv, hi, ⟨fun w' => ?_, z3⟩, Nat.eq_of_beq_eq_true h1, Nat.le_of_ble_eq_true h2⟩
 obtain ⟨v', z1', _⟩ := zCs_ok hq w'
 have : v' = zv := by
  simp only [zeroValue, typeInfo, Sem.run_bind, run_program, Result.andThen_ok, hi, Sem.run_pure] at z1 z1'
  cases hzz : i.zero with
  | none => rw [hzz] at z1; cases z1
  | some q => rw [hzz] at z1 z1'; cases z1; cases z1'; rfl
 rw [← this]; exact z1'
set_option maxHeartbeats 4000000 in
theorem grow_n (n : Int) (w : World) (h : 0 ≤ n ∧ n ≤ 10000) : Calls Tryz.prog 244 #[.slice none 0 0, .int .i64 n] w fun e w' => ∃ zs : List Value, e = .returned (zs.getD 0 undef) ∧ FrAll w.heap.size w' [⟨([] : List Po).flatMap poC.f, 11, ([] : List Po).length⟩] zs [] ∧ Chg (fun _ => False) w w' := by
 have h0 : ¬ (n < 0) := by omega
 by_cases hp : n > 0
 case neg =>
  have : n = 0 := by omega
  subst this
  go_enter Tryz.func244, Tryz.ntmps244
  go_wp2
  go_ret
  exact ⟨[.slice none 0 0], rfl, .inl ⟨rfl, ⟨none, rfl⟩, trivial⟩, Chg.refl _ _⟩
 obtain ⟨k, rfl⟩ : ∃ k : Nat, n = (k : Int) := ⟨n.toNat, by omega⟩
 have hk : 0 < k := by omega
 have hk2 : k ≤ 10000 := by omega
 clear h0
 have h0 : ¬ ((k : Int) < 0) := by omega
 have h1 : Go.RowKit.wrap64 (k : Int) = k := by unfold Go.RowKit.wrap64; omega
 obtain ⟨i, z, hi, hz, hsz, hbt⟩ := post_info w
 obtain ⟨e', hrz⟩ := run_append_zero (P := Tryz.prog) (t := 38) (ty := 3) (e := 25) (rt := 38) (i := i) (kk := .i64) (kk' := .i64) (k := k) (z := z) (w := w) (by kernel_rfl) (by kernel_rfl) hi hz.1 hz.2 hk (by omega) (by
  calc 2 * k * i.bytes ≤ 2 * 10000 * 1048576 := Nat.mul_le_mul (by omega) hbt
   _ ≤ 281474976710656 := by decide) (by omega)
 have hz2 : z.cells.size = 11 := hz.2.trans hsz
 obtain ⟨cl, hcl⟩ : ∃ cl, cl = ((List.replicate k z.cells.toList).flatten ++ (Builtin.zeroCells z.cells e').toList).toArray := ⟨_, rfl⟩
 have hcs : cl.size = (k + e') * 11 := by
  have e1 : (Builtin.zeroCells z.cells e').toList.length = e' * 11 := by rw [show (Builtin.zeroCells z.cells e').toList.length = (Builtin.zeroCells z.cells e').size from Array.length_toList, size_zeroCells', hz2]
  have e2 : ((List.replicate k z.cells.toList).flatten).length = k * 11 := by rw [List.length_flatten, List.map_replicate, List.sum_replicate_nat, show z.cells.toList.length = z.cells.size from Array.length_toList, hz2]
  rw [hcl, List.size_toArray, List.length_append, e1, e2, Nat.add_mul]
 rw [← hcl] at hrz
 clear hcl
 go_enter Tryz.func244, Tryz.ntmps244
 go_wp2_with (at_builtin; refine Lib.wpList_append_run _ rfl _ _ _ _ rfl _ _ rfl rfl _ _ hrz ?_)
 all_goals
  go_ret
  refine ⟨[.slice (some ⟨w.heap.size, 0, none⟩) 0 (k + e')], rfl, frall_empty (b := w.heap.size) (k := k) (cl := cl) (t := 25) ?_ (Nat.le_refl _) (by omega), ((Chg.refl _ w).alloc _).drew⟩
  show (w.heap.push _)[w.heap.size]? = _
  rw [Array.getElem?_push_size]
end Go.Proofs.YtocabeobfbhajaaGreatDoor.Sx
end
section
set_option maxRecDepth 100000
set_option maxHeartbeats 0
namespace Go.Proofs.YtocabeobfbhajaaGreatDoor.Sx
open Go Go.Proofs Go.Proofs.YtocabeobfbhajaaGreatDoor Go.Proofs.YtocabeobfbhajaaGreatDoor.Sx
structure pG_A where
 B_b : Nat
 O_b : Nat
 a_b : Int → Option Addr
 b_b : Int → Nat
 o_b : Int → Nat
 κ_b : Int → Nat
 b : Int → List Po
def pG_r  (A : pG_A) (w : World) : List Po := ((((((([] : List Po) ++ (A.b 0)) ++ (A.b 1)) ++ (A.b 2)) ++ (A.b 3)) ++ (A.b 4)))
theorem pG_any  (A : pG_A) (w : World) (H_b : BkF poC w A.B_b A.O_b 5 A.a_b A.b_b A.o_b A.κ_b A.b) (h0 : LenR A.b) : Calls Tryz.prog 133 #[.pointer (some ⟨A.B_b, A.O_b, none⟩)] w fun e w' => ∃ zs : List Value, e = .returned (zs.getD 0 undef) ∧ FrAll w.heap.size w' [⟨(pG_r A w : List Po).flatMap poC.f, 11, (pG_r A w : List Po).length⟩] zs [] ∧ Chg (fun _ => False) w w' := by
 unfold pG_r
 refine wGo (E := E0) (n := 8) (w := w) (L := id) ?_
 have h1 : ((A.b 0).length : Int) ≤ ((A.κ_b 0) : Int) := Int.ofNat_le.2 (H_b.2 0 (by omega)).2.1
 have h2 : ((A.b (0)).length : Int) ≤ 1000 := h0 (0) (by omega)
 have h3 : ((A.b 1).length : Int) ≤ ((A.κ_b 1) : Int) := Int.ofNat_le.2 (H_b.2 1 (by omega)).2.1
 have h4 : ((A.b (1)).length : Int) ≤ 1000 := h0 (1) (by omega)
 have h5 : ((A.b 2).length : Int) ≤ ((A.κ_b 2) : Int) := Int.ofNat_le.2 (H_b.2 2 (by omega)).2.1
 have h6 : ((A.b (2)).length : Int) ≤ 1000 := h0 (2) (by omega)
 have h7 : ((A.b 3).length : Int) ≤ ((A.κ_b 3) : Int) := Int.ofNat_le.2 (H_b.2 3 (by omega)).2.1
 have h8 : ((A.b (3)).length : Int) ≤ 1000 := h0 (3) (by omega)
 have h9 : ((A.b 4).length : Int) ≤ ((A.κ_b 4) : Int) := Int.ofNat_le.2 (H_b.2 4 (by omega)).2.1
 have h10 : ((A.b (4)).length : Int) ≤ 1000 := h0 (4) (by omega)
 refine wS (.agg #[] :: .pointer (some ⟨A.B_b, A.O_b, none⟩) :: .slice (some ⟨A.B_b, A.O_b, none⟩) 5 5 :: .pointer (some ⟨A.B_b, A.O_b + (0 : Int).toNat * 1, none⟩) :: .slice (A.a_b 0) (A.b 0).length (A.κ_b 0) :: I (((A.b 0).length : Int)) :: I ((0 + ((A.b 0).length : Int))) :: .pointer (some ⟨A.B_b, A.O_b + (1 : Int).toNat * 1, none⟩) :: .slice (A.a_b 1) (A.b 1).length (A.κ_b 1) :: I (((A.b 1).length : Int)) :: I (((0 + ((A.b 0).length : Int)) + ((A.b 1).length : Int))) :: .pointer (some ⟨A.B_b, A.O_b + (2 : Int).toNat * 1, none⟩) :: .slice (A.a_b 2) (A.b 2).length (A.κ_b 2) :: I (((A.b 2).length : Int)) :: I ((((0 + ((A.b 0).length : Int)) + ((A.b 1).length : Int)) + ((A.b 2).length : Int))) :: .pointer (some ⟨A.B_b, A.O_b + (3 : Int).toNat * 1, none⟩) :: .slice (A.a_b 3) (A.b 3).length (A.κ_b 3) :: I (((A.b 3).length : Int)) :: I (((((0 + ((A.b 0).length : Int)) + ((A.b 1).length : Int)) + ((A.b 2).length : Int)) + ((A.b 3).length : Int))) :: .pointer (some ⟨A.B_b, A.O_b + (4 : Int).toNat * 1, none⟩) :: .slice (A.a_b 4) (A.b 4).length (A.κ_b 4) :: I (((A.b 4).length : Int)) :: I ((((((0 + ((A.b 0).length : Int)) + ((A.b 1).length : Int)) + ((A.b 2).length : Int)) + ((A.b 3).length : Int)) + ((A.b 4).length : Int))) :: Codec.flat poC ([] : List Po) :: I ((([] : List Po).length : Int)) :: Codec.flat poC (([] : List Po) ++ (A.b 0)) :: I (((([] : List Po).length : Int) + ((A.b 0).length : Int))) :: Codec.flat poC (((([] : List Po) ++ (A.b 0)) ++ (A.b 1))) :: I ((((([] : List Po).length : Int) + ((A.b 0).length : Int)) + ((A.b 1).length : Int))) :: Codec.flat poC ((((([] : List Po) ++ (A.b 0)) ++ (A.b 1)) ++ (A.b 2))) :: I (((((([] : List Po).length : Int) + ((A.b 0).length : Int)) + ((A.b 1).length : Int)) + ((A.b 2).length : Int))) :: Codec.flat poC (((((([] : List Po) ++ (A.b 0)) ++ (A.b 1)) ++ (A.b 2)) ++ (A.b 3))) :: I ((((((([] : List Po).length : Int) + ((A.b 0).length : Int)) + ((A.b 1).length : Int)) + ((A.b 2).length : Int)) + ((A.b 3).length : Int))) :: Codec.flat poC ((((((([] : List Po) ++ (A.b 0)) ++ (A.b 1)) ++ (A.b 2)) ++ (A.b 3)) ++ (A.b 4))) :: I (((((((([] : List Po).length : Int) + ((A.b 0).length : Int)) + ((A.b 1).length : Int)) + ((A.b 2).length : Int)) + ((A.b 3).length : Int)) + ((A.b 4).length : Int))) :: []) (wE (⟨5500000000, [1], 1⟩) (fun _ => q_nil rfl) (wE (⟨4000000000 + 158, [1], 2⟩) (fun _ => q_bkSl (n := 5) rfl rfl rfl (by kernel_rfl)) (wN 298 2 (J 5) (wE (⟨2000000000 + 298, [2, J 0], 3⟩) (fun _ => q_idxSB (sz := 1) (m := 0) rfl rfl rfl (by omega) rfl (by kernel_rfl)) (wE (⟨8000000000 + 38, [3], 4⟩) (fun _ => q_bkLoad (C := poC) H_b (m := 0) (by omega) rfl rfl rfl (by kernel_rfl)) (wN 38 4 5 (wA (J 0) 5 6 (wF .lss 6 (J 0) (show ¬ ((0 + ((A.b 0).length : Int)) < 0) by omega) (wE (⟨2000000000 + 298, [2, J 1], 7⟩) (fun _ => q_idxSB (sz := 1) (m := 1) rfl rfl rfl (by omega) rfl (by kernel_rfl)) (wE (⟨8000000000 + 38, [7], 8⟩) (fun _ => q_bkLoad (C := poC) H_b (m := 1) (by omega) rfl rfl rfl (by kernel_rfl)) (wN 38 8 9 (wA 6 9 10 (wF .lss 10 (J 0) (show ¬ (((0 + ((A.b 0).length : Int)) + ((A.b 1).length : Int)) < 0) by omega) (wE (⟨2000000000 + 298, [2, J 2], 11⟩) (fun _ => q_idxSB (sz := 1) (m := 2) rfl rfl rfl (by omega) rfl (by kernel_rfl)) (wE (⟨8000000000 + 38, [11], 12⟩) (fun _ => q_bkLoad (C := poC) H_b (m := 2) (by omega) rfl rfl rfl (by kernel_rfl)) (wN 38 12 13 (wA 10 13 14 (wF .lss 14 (J 0) (show ¬ ((((0 + ((A.b 0).length : Int)) + ((A.b 1).length : Int)) + ((A.b 2).length : Int)) < 0) by omega) (wE (⟨2000000000 + 298, [2, J 3], 15⟩) (fun _ => q_idxSB (sz := 1) (m := 3) rfl rfl rfl (by omega) rfl (by kernel_rfl)) (wE (⟨8000000000 + 38, [15], 16⟩) (fun _ => q_bkLoad (C := poC) H_b (m := 3) (by omega) rfl rfl rfl (by kernel_rfl)) (wN 38 16 17 (wA 14 17 18 (wF .lss 18 (J 0) (show ¬ (((((0 + ((A.b 0).length : Int)) + ((A.b 1).length : Int)) + ((A.b 2).length : Int)) + ((A.b 3).length : Int)) < 0) by omega) (wE (⟨2000000000 + 298, [2, J 4], 19⟩) (fun _ => q_idxSB (sz := 1) (m := 4) rfl rfl rfl (by omega) rfl (by kernel_rfl)) (wE (⟨8000000000 + 38, [19], 20⟩) (fun _ => q_bkLoad (C := poC) H_b (m := 4) (by omega) rfl rfl rfl (by kernel_rfl)) (wN 38 20 21 (wA 18 21 22 (wF .lss 22 (J 0) (show ¬ ((((((0 + ((A.b 0).length : Int)) + ((A.b 1).length : Int)) + ((A.b 2).length : Int)) + ((A.b 3).length : Int)) + ((A.b 4).length : Int)) < 0) by omega) (wE (⟨8000000000 + 200000011, [.tup [23, J 0, 24], .tup [4]], .tup [25, 26]⟩) (fun _ => q_appO (C := poC) (X := ([] : List Po)) (Z := (A.b 0)) ((H_b.2 0 (by omega)).2.2) (sz := 11) rfl rfl rfl rfl (congrArg some (by first | (simp; done) | (simp only [List.length_append, List.length_cons, List.length_nil]; omega))) rfl rfl (congrArg some (by first | omega | (simp only [List.length_append, List.length_cons, List.length_nil, List.length_set]; omega))) (by first | omega | (simp only [List.length_append, List.length_cons, List.length_nil, List.length_set]; omega))) (wE (⟨8000000000 + 200000011, [.tup [25, J 0, 26], .tup [8]], .tup [27, 28]⟩) (fun _ => q_appO (C := poC) (X := (([] : List Po) ++ (A.b 0))) (Z := (A.b 1)) ((H_b.2 1 (by omega)).2.2) (sz := 11) rfl rfl rfl rfl (congrArg some (by first | (simp; done) | (simp only [List.length_append, List.length_cons, List.length_nil]; omega))) rfl rfl (congrArg some (by first | omega | (simp only [List.length_append, List.length_cons, List.length_nil, List.length_set]; omega))) (by first | omega | (simp only [List.length_append, List.length_cons, List.length_nil, List.length_set]; omega))) (wE (⟨8000000000 + 200000011, [.tup [27, J 0, 28], .tup [12]], .tup [29, 30]⟩) (fun _ => q_appO (C := poC) (X := ((([] : List Po) ++ (A.b 0)) ++ (A.b 1))) (Z := (A.b 2)) ((H_b.2 2 (by omega)).2.2) (sz := 11) rfl rfl rfl rfl (congrArg some (by first | (simp; done) | (simp only [List.length_append, List.length_cons, List.length_nil]; omega))) rfl rfl (congrArg some (by first | omega | (simp only [List.length_append, List.length_cons, List.length_nil, List.length_set]; omega))) (by first | omega | (simp only [List.length_append, List.length_cons, List.length_nil, List.length_set]; omega))) (wE (⟨8000000000 + 200000011, [.tup [29, J 0, 30], .tup [16]], .tup [31, 32]⟩) (fun _ => q_appO (C := poC) (X := (((([] : List Po) ++ (A.b 0)) ++ (A.b 1)) ++ (A.b 2))) (Z := (A.b 3)) ((H_b.2 3 (by omega)).2.2) (sz := 11) rfl rfl rfl rfl (congrArg some (by first | (simp; done) | (simp only [List.length_append, List.length_cons, List.length_nil]; omega))) rfl rfl (congrArg some (by first | omega | (simp only [List.length_append, List.length_cons, List.length_nil, List.length_set]; omega))) (by first | omega | (simp only [List.length_append, List.length_cons, List.length_nil, List.length_set]; omega))) (wE (⟨8000000000 + 200000011, [.tup [31, J 0, 32], .tup [20]], .tup [33, 34]⟩) (fun _ => q_appO (C := poC) (X := ((((([] : List Po) ++ (A.b 0)) ++ (A.b 1)) ++ (A.b 2)) ++ (A.b 3))) (Z := (A.b 4)) ((H_b.2 4 (by omega)).2.2) (sz := 11) rfl rfl rfl rfl (congrArg some (by first | (simp; done) | (simp only [List.length_append, List.length_cons, List.length_nil]; omega))) rfl rfl (congrArg some (by first | omega | (simp only [List.length_append, List.length_cons, List.length_nil, List.length_set]; omega))) (by first | omega | (simp only [List.length_append, List.length_cons, List.length_nil, List.length_set]; omega))) (wM (⟨244, [.ns, 22], [], 8, 0, (.sls 8 11 (J 0) 24 2), [(23, 11, 24)]⟩) (fun _ => q_callN (F := fun zs => (zs.getD 0 undef)) (rs := [⟨([] : List Po).flatMap poC.f, 11, ([] : List Po).length⟩]) (.val _ _ _ _ _ rfl (.val _ _ _ _ _ rfl .nil)) rfl rfl ⟨rfl, rfl, flat_length _ _, flat_one _ _, rfl, trivial⟩ rfl (fun zs h => match zs, h with | [_], _ => rfl) (fun w xs hw hq => by obtain ⟨_, rfl, _, rfl, rfl⟩ := hq; exact grow_n _ _ (show 0 ≤ ((((((0 + ((A.b 0).length : Int)) + ((A.b 1).length : Int)) + ((A.b 2).length : Int)) + ((A.b 3).length : Int)) + ((A.b 4).length : Int))) ∧ ((((((0 + ((A.b 0).length : Int)) + ((A.b 1).length : Int)) + ((A.b 2).length : Int)) + ((A.b 3).length : Int)) + ((A.b 4).length : Int))) ≤ 10000 by omega))) ?_))))))))))))))))))))))))))))))))))
 exact wRetL (v := .sls 13 11 (.int .i64 0) 34 7) (rs := [⟨((((((([] : List Po) ++ (A.b 0)) ++ (A.b 1)) ++ (A.b 2)) ++ (A.b 3)) ++ (A.b 4)) : List Po).flatMap poC.f, 11, ((((((([] : List Po) ++ (A.b 0)) ++ (A.b 1)) ++ (A.b 2)) ++ (A.b 3)) ++ (A.b 4)) : List Po).length⟩]) ok0 60 60 [1] [(13, .lst 33 11 6)] rfl rfl rfl (by kernel_rfl) ⟨⟨rfl, by decide, ⟨33, 6, rfl, rfl, .inr ⟨rfl, by decide⟩⟩, rfl, (by show some (((((((([] : List Po).length : Int) + ((A.b 0).length : Int)) + ((A.b 1).length : Int)) + ((A.b 2).length : Int)) + ((A.b 3).length : Int)) + ((A.b 4).length : Int)) : Int) = some (((((((([] : List Po) ++ (A.b 0)) ++ (A.b 1)) ++ (A.b 2)) ++ (A.b 3)) ++ (A.b 4))).length : Int); refine congrArg some ?_; simp only [List.length_append, List.length_cons, List.length_nil]; omega), rfl, flat_length _ _⟩, trivial⟩ (fun zs hz => match zs, hz with | [_], _ => rfl)
theorem pAllB_n {B O : Nat} {a : Int → Option Addr} {bb oo κ : Int → Nat} {L : Int → List Po} {w : World} (H : BkF poC w B O 5 a bb oo κ L) (h : LenR L) : Calls Tryz.prog 133 #[.pointer (some ⟨B, O, none⟩)] w fun e w' => ∃ zs : List Value, e = .returned (zs.getD 0 undef) ∧ FrAll w.heap.size w' [⟨(allN L : List Po).flatMap poC.f, 11, (allN L : List Po).length⟩] zs [] ∧ Chg (fun _ => False) w w' := by
 have := pG_any ⟨B, O, a, bb, oo, κ, L⟩ w H h
 have e : pG_r ⟨B, O, a, bb, oo, κ, L⟩ w = allN L := by
  unfold pG_r allN
  simp only [List.nil_append, List.append_assoc]
 rw [e] at this
 exact this
structure pU_A where
 B_b : Nat
 O_b : Nat
 a_b : Int → Option Addr
 b_b : Int → Nat
 o_b : Int → Nat
 κ_b : Int → Nat
 b : Int → List Po
 reeve : Int
def pU_L1_H : Head := (⟨[(0, 29), (1, .fn (.func 196) [] [.ptr 11 0]), (4, .int .i64 0), (6, 29), (7, 30), (8, 31)], [(8, .cells [1] 0 0), (9, .cells [2] 0 0), (10, .lst 3 11 1), (11, .cells [6, 7, 8, 9, 10, 11, 12, 13, 14, 15, 16] 0 0), (12, .cells [17, 18, 19, 20, 21, 22, 23, 24, 25, 26, 27] 0 0)], 21, 21, 1, 1, 31, 32⟩ : Head)
def pU_L1_R : Rn := ⟨21, [], 1, [], 31, [.int .i64 0]⟩
def pU_L1_B  (A : pU_A) (w : World) (v00 : Int) (R : List Value) : List Value := .agg #[] :: .pointer (some ⟨A.B_b, A.O_b, none⟩) :: .int .i64 A.reeve :: Codec.flat poC (allN A.b) :: .int .i64 (((allN A.b).length : Int)) :: .int .i64 v00 :: poV (at_ (allN A.b) v00) ++ .int .i64 (((chargeP A.b ((at_ (allN A.b) v00).of)).reeve)) :: .int .i64 (((chargeP A.b ((at_ (allN A.b) v00).of)).number)) :: .int .i64 (((chargeP A.b ((at_ (allN A.b) v00).of)).tick)) :: .int .u8 (((chargeP A.b ((at_ (allN A.b) v00).of)).kind)) :: .int .i64 (((chargeP A.b ((at_ (allN A.b) v00).of)).cse)) :: .int .i64 (((chargeP A.b ((at_ (allN A.b) v00).of)).owner)) :: .int .i64 (((chargeP A.b ((at_ (allN A.b) v00).of)).of.reeve)) :: .int .i64 (((chargeP A.b ((at_ (allN A.b) v00).of)).of.number)) :: .int .i64 (((chargeP A.b ((at_ (allN A.b) v00).of)).by_.reeve)) :: .int .i64 (((chargeP A.b ((at_ (allN A.b) v00).of)).by_.number)) :: .int .i64 (((chargeP A.b ((at_ (allN A.b) v00).of)).amount)) :: .pointer (some ⟨A.B_b, A.O_b + (A.reeve : Int).toNat * 1, none⟩) :: .slice (A.a_b A.reeve) (A.b A.reeve).length (A.κ_b A.reeve) :: .int .i64 (((A.b A.reeve).length : Int)) :: R
def pU_L1_X0 : Head := (⟨[(0, 29), (4, 31), (6, 29)], [(8, .cells [1] 0 0), (9, .cells [2] 0 0), (10, .lst 3 11 1), (11, .cells [6, 7, 8, 9, 10, 11, 12, 13, 14, 15, 16] 0 0), (12, .cells [17, 18, 19, 20, 21, 22, 23, 24, 25, 26, 27] 0 0)], 21, 21, 1, 1, 31, 32⟩ : Head)
def pU_L1_X1 : Head := (⟨[(0, 29), (4, .int .i64 0), (6, 29)], [(8, .cells [1] 0 0), (9, .cells [2] 0 0), (10, .lst 3 11 1), (11, .cells [6, 7, 8, 9, 10, 11, 12, 13, 14, 15, 16] 0 0), (12, .cells [17, 18, 19, 20, 21, 22, 23, 24, 25, 26, 27] 0 0)], 21, 21, 1, 1, 31, 31⟩ : Head)
def pU_L1  (A : pU_A) (w : World) (v00 : Int) : Nat → Int → Option (Nat × Int × Unit)
 | 0, _ => none
 | fu_ + 1, v10 => (if v10 < ((A.b A.reeve).length : Int) then (if (at_ (A.b A.reeve) v10).kind = 4 then (if (at_ (A.b A.reeve) v10).by_.reeve = (at_ (allN A.b) v00).reeve then (if (at_ (A.b A.reeve) v10).by_.number = (at_ (allN A.b) v00).number then some (0, v10, ()) else pU_L1 A w v00 fu_ (v10 + 1)) else pU_L1 A w v00 fu_ (v10 + 1)) else pU_L1 A w v00 fu_ (v10 + 1)) else some (1, default, ()))
def pU_L2_H : Head := (⟨[(0, 29), (1, .fn (.func 196) [] [.ptr 11 0]), (4, .int .i64 0), (6, 29), (7, 30), (8, 31)], [(8, .cells [1] 0 0), (9, .cells [2] 0 0), (10, .lst 3 11 1), (11, .cells [6, 7, 8, 9, 10, 11, 12, 13, 14, 15, 16] 0 0), (12, .cells [17, 18, 19, 20, 21, 22, 23, 24, 25, 26, 27] 0 0)], 21, 21, 1, 1, 31, 32⟩ : Head)
def pU_L2_R : Rn := ⟨21, [], 1, [], 31, [.int .i64 0]⟩
def pU_L2_B  (A : pU_A) (w : World) (v00 : Int) (R : List Value) : List Value := .agg #[] :: .pointer (some ⟨A.B_b, A.O_b, none⟩) :: .int .i64 A.reeve :: Codec.flat poC (allN A.b) :: .int .i64 (((allN A.b).length : Int)) :: .int .i64 v00 :: poV (at_ (allN A.b) v00) ++ .int .i64 (((chargeP A.b ((at_ (allN A.b) v00).of)).reeve)) :: .int .i64 (((chargeP A.b ((at_ (allN A.b) v00).of)).number)) :: .int .i64 (((chargeP A.b ((at_ (allN A.b) v00).of)).tick)) :: .int .u8 (((chargeP A.b ((at_ (allN A.b) v00).of)).kind)) :: .int .i64 (((chargeP A.b ((at_ (allN A.b) v00).of)).cse)) :: .int .i64 (((chargeP A.b ((at_ (allN A.b) v00).of)).owner)) :: .int .i64 (((chargeP A.b ((at_ (allN A.b) v00).of)).of.reeve)) :: .int .i64 (((chargeP A.b ((at_ (allN A.b) v00).of)).of.number)) :: .int .i64 (((chargeP A.b ((at_ (allN A.b) v00).of)).by_.reeve)) :: .int .i64 (((chargeP A.b ((at_ (allN A.b) v00).of)).by_.number)) :: .int .i64 (((chargeP A.b ((at_ (allN A.b) v00).of)).amount)) :: .pointer (some ⟨A.B_b, A.O_b + (A.reeve : Int).toNat * 1, none⟩) :: .slice (A.a_b A.reeve) (A.b A.reeve).length (A.κ_b A.reeve) :: .int .i64 (((A.b A.reeve).length : Int)) :: R
def pU_L2_X0 : Head := (⟨[(0, 29), (4, 31), (6, 29)], [(8, .cells [1] 0 0), (9, .cells [2] 0 0), (10, .lst 3 11 1), (11, .cells [6, 7, 8, 9, 10, 11, 12, 13, 14, 15, 16] 0 0), (12, .cells [17, 18, 19, 20, 21, 22, 23, 24, 25, 26, 27] 0 0)], 21, 21, 1, 1, 31, 32⟩ : Head)
def pU_L2_X1 : Head := (⟨[(0, 29), (4, .int .i64 0), (6, 29)], [(8, .cells [1] 0 0), (9, .cells [2] 0 0), (10, .lst 3 11 1), (11, .cells [6, 7, 8, 9, 10, 11, 12, 13, 14, 15, 16] 0 0), (12, .cells [17, 18, 19, 20, 21, 22, 23, 24, 25, 26, 27] 0 0)], 21, 21, 1, 1, 31, 31⟩ : Head)
def pU_L2  (A : pU_A) (w : World) (v00 : Int) : Nat → Int → Option (Nat × Int × Unit)
 | 0, _ => none
 | fu_ + 1, v20 => (if v20 < ((A.b A.reeve).length : Int) then (if (at_ (A.b A.reeve) v20).kind = 4 then (if (at_ (A.b A.reeve) v20).by_.reeve = (at_ (allN A.b) v00).reeve then (if (at_ (A.b A.reeve) v20).by_.number = (at_ (allN A.b) v00).number then some (0, v20, ()) else pU_L2 A w v00 fu_ (v20 + 1)) else pU_L2 A w v00 fu_ (v20 + 1)) else pU_L2 A w v00 fu_ (v20 + 1)) else some (1, default, ()))
def pU_L0_H : Head := (⟨[(0, .sls 10 11 (.int .i64 0) 4 2), (1, .fn (.func 195) [] [.ptr 8 0, .ptr 9 0]), (4, .int .i64 0), (6, .sls 10 11 (.int .i64 0) 4 2), (7, 4), (8, 5)], [(8, .cells [1] 0 0), (9, .cells [2] 0 0), (10, .lst 3 11 1)], 11, 11, 1, 1, 5, 6⟩ : Head)
def pU_L0_R : Rn := ⟨11, [], 1, [], 5, [.int .i64 0]⟩
def pU_L0_B  (A : pU_A) (w : World) (R : List Value) : List Value := .agg #[] :: .pointer (some ⟨A.B_b, A.O_b, none⟩) :: .int .i64 A.reeve :: Codec.flat poC (allN A.b) :: .int .i64 (((allN A.b).length : Int)) :: R
def pU_L0_X0 : Head := (⟨[(0, .sls 10 11 (.int .i64 0) 4 2), (4, 5), (6, .sls 10 11 (.int .i64 0) 4 2)], [(8, .cells [1] 0 0), (9, .cells [2] 0 0), (10, .lst 3 11 1)], 11, 11, 1, 1, 5, 6⟩ : Head)
def pU_L0_X1 : Head := (⟨[(0, .sls 10 11 (.int .i64 0) 4 2), (4, .int .i64 0), (6, .sls 10 11 (.int .i64 0) 4 2)], [(8, .cells [1] 0 0), (9, .cells [2] 0 0), (10, .lst 3 11 1)], 11, 11, 1, 1, 5, 5⟩ : Head)
def pU_L0  (A : pU_A) (w : World) : Nat → Int → Option (Nat × Int × Unit)
 | 0, _ => none
 | fu_ + 1, v00 => (if v00 < ((allN A.b).length : Int) then (if chargeB A.b ((at_ (allN A.b) v00).of) = true then (match pU_L1 A w v00 (((((A.b A.reeve).length : Int) - 0) : Int).toNat + 1) 0 with | some (0, x1_00, _) => (if (at_ (allN A.b) v00).kind = 3 then (if (at_ (allN A.b) v00).of.reeve = A.reeve then (if ((chargeP A.b ((at_ (allN A.b) v00).of)).owner) = (at_ (allN A.b) v00).owner then some (0, v00, ()) else some (0, v00, ())) else some (0, v00, ())) else some (0, v00, ())) | some (1, x1_00, _) => (if (at_ (allN A.b) v00).kind = 3 then (if (at_ (allN A.b) v00).of.reeve = A.reeve then (if ((chargeP A.b ((at_ (allN A.b) v00).of)).owner) = (at_ (allN A.b) v00).owner then pU_L0 A w fu_ (v00 + 1) else some (0, v00, ())) else some (0, v00, ())) else some (0, v00, ())) | _ => none) else (match pU_L2 A w v00 (((((A.b A.reeve).length : Int) - 0) : Int).toNat + 1) 0 with | some (0, x2_00, _) => (if (at_ (allN A.b) v00).kind = 3 then (if (at_ (allN A.b) v00).of.reeve = A.reeve then some (0, v00, ()) else some (0, v00, ())) else some (0, v00, ())) | some (1, x2_00, _) => (if (at_ (allN A.b) v00).kind = 3 then (if (at_ (allN A.b) v00).of.reeve = A.reeve then some (0, v00, ()) else some (0, v00, ())) else some (0, v00, ())) | _ => none)) else some (1, default, ()))
def pU_L4_H : Head := (⟨[(0, 33), (1, .fn (.func 196) [] [.ptr 12 0]), (4, .int .i64 0), (6, 33), (7, 34), (8, 35)], [(8, .cells [1] 0 0), (9, .cells [2] 0 0), (10, .lst 9 11 1), (11, .cells [10, 11, 12, 13, 14, 15, 16, 17, 18, 19, 20] 0 0), (12, .cells [10, 11, 12, 13, 14, 15, 16, 17, 18, 19, 20] 0 0), (13, .cells [21, 22, 23, 24, 25, 26, 27, 28, 29, 30, 31] 0 0)], 22, 22, 1, 1, 35, 36⟩ : Head)
def pU_L4_R : Rn := ⟨22, [], 1, [], 35, [.int .i64 0]⟩
def pU_L4_B  (A : pU_A) (w : World) (x0_00 : Int) (v30 : Int) (v31 : Int) (l32 : List Po) (R : List Value) : List Value := .agg #[] :: .pointer (some ⟨A.B_b, A.O_b, none⟩) :: .int .i64 A.reeve :: Codec.flat poC (allN A.b) :: .int .i64 (((allN A.b).length : Int)) :: .int .i64 x0_00 :: .int .i64 (x0_00 + 1) :: .int .i64 v30 :: .int .i64 v31 :: Codec.flat poC l32 :: poV (at_ l32 v31) ++ .int .i64 (((chargeP A.b ((at_ l32 v31).of)).reeve)) :: .int .i64 (((chargeP A.b ((at_ l32 v31).of)).number)) :: .int .i64 (((chargeP A.b ((at_ l32 v31).of)).tick)) :: .int .u8 (((chargeP A.b ((at_ l32 v31).of)).kind)) :: .int .i64 (((chargeP A.b ((at_ l32 v31).of)).cse)) :: .int .i64 (((chargeP A.b ((at_ l32 v31).of)).owner)) :: .int .i64 (((chargeP A.b ((at_ l32 v31).of)).of.reeve)) :: .int .i64 (((chargeP A.b ((at_ l32 v31).of)).of.number)) :: .int .i64 (((chargeP A.b ((at_ l32 v31).of)).by_.reeve)) :: .int .i64 (((chargeP A.b ((at_ l32 v31).of)).by_.number)) :: .int .i64 (((chargeP A.b ((at_ l32 v31).of)).amount)) :: .pointer (some ⟨A.B_b, A.O_b + (A.reeve : Int).toNat * 1, none⟩) :: .slice (A.a_b A.reeve) (A.b A.reeve).length (A.κ_b A.reeve) :: .int .i64 (((A.b A.reeve).length : Int)) :: R
def pU_L4_X0 : Head := (⟨[(0, 33), (4, 35), (6, 33)], [(8, .cells [1] 0 0), (9, .cells [2] 0 0), (10, .lst 9 11 1), (11, .cells [10, 11, 12, 13, 14, 15, 16, 17, 18, 19, 20] 0 0), (12, .cells [10, 11, 12, 13, 14, 15, 16, 17, 18, 19, 20] 0 0), (13, .cells [21, 22, 23, 24, 25, 26, 27, 28, 29, 30, 31] 0 0)], 22, 22, 1, 1, 35, 36⟩ : Head)
def pU_L4_X1 : Head := (⟨[(0, 33), (4, .int .i64 0), (6, 33)], [(8, .cells [1] 0 0), (9, .cells [2] 0 0), (10, .lst 9 11 1), (11, .cells [10, 11, 12, 13, 14, 15, 16, 17, 18, 19, 20] 0 0), (12, .cells [10, 11, 12, 13, 14, 15, 16, 17, 18, 19, 20] 0 0), (13, .cells [21, 22, 23, 24, 25, 26, 27, 28, 29, 30, 31] 0 0)], 22, 22, 1, 1, 35, 35⟩ : Head)
def pU_L4  (A : pU_A) (w : World) (x0_00 : Int) (v30 : Int) (v31 : Int) (l32 : List Po) : Nat → Int → Option (Nat × Int × Unit)
 | 0, _ => none
 | fu_ + 1, v40 => (if v40 < ((A.b A.reeve).length : Int) then (if (at_ (A.b A.reeve) v40).kind = 4 then (if (at_ (A.b A.reeve) v40).by_.reeve = (at_ l32 v31).reeve then (if (at_ (A.b A.reeve) v40).by_.number = (at_ l32 v31).number then some (0, v40, ()) else pU_L4 A w x0_00 v30 v31 l32 fu_ (v40 + 1)) else pU_L4 A w x0_00 v30 v31 l32 fu_ (v40 + 1)) else pU_L4 A w x0_00 v30 v31 l32 fu_ (v40 + 1)) else some (1, default, ()))
def pU_L5_H : Head := (⟨[(0, 33), (1, .fn (.func 196) [] [.ptr 12 0]), (4, .int .i64 0), (6, 33), (7, 34), (8, 35)], [(8, .cells [1] 0 0), (9, .cells [2] 0 0), (10, .lst 9 11 1), (11, .cells [10, 11, 12, 13, 14, 15, 16, 17, 18, 19, 20] 0 0), (12, .cells [10, 11, 12, 13, 14, 15, 16, 17, 18, 19, 20] 0 0), (13, .cells [21, 22, 23, 24, 25, 26, 27, 28, 29, 30, 31] 0 0)], 22, 22, 1, 1, 35, 36⟩ : Head)
def pU_L5_R : Rn := ⟨22, [], 1, [], 35, [.int .i64 0]⟩
def pU_L5_B  (A : pU_A) (w : World) (x0_00 : Int) (v30 : Int) (v31 : Int) (l32 : List Po) (R : List Value) : List Value := .agg #[] :: .pointer (some ⟨A.B_b, A.O_b, none⟩) :: .int .i64 A.reeve :: Codec.flat poC (allN A.b) :: .int .i64 (((allN A.b).length : Int)) :: .int .i64 x0_00 :: .int .i64 (x0_00 + 1) :: .int .i64 v30 :: .int .i64 v31 :: Codec.flat poC l32 :: poV (at_ l32 v31) ++ .int .i64 (((chargeP A.b ((at_ l32 v31).of)).reeve)) :: .int .i64 (((chargeP A.b ((at_ l32 v31).of)).number)) :: .int .i64 (((chargeP A.b ((at_ l32 v31).of)).tick)) :: .int .u8 (((chargeP A.b ((at_ l32 v31).of)).kind)) :: .int .i64 (((chargeP A.b ((at_ l32 v31).of)).cse)) :: .int .i64 (((chargeP A.b ((at_ l32 v31).of)).owner)) :: .int .i64 (((chargeP A.b ((at_ l32 v31).of)).of.reeve)) :: .int .i64 (((chargeP A.b ((at_ l32 v31).of)).of.number)) :: .int .i64 (((chargeP A.b ((at_ l32 v31).of)).by_.reeve)) :: .int .i64 (((chargeP A.b ((at_ l32 v31).of)).by_.number)) :: .int .i64 (((chargeP A.b ((at_ l32 v31).of)).amount)) :: .pointer (some ⟨A.B_b, A.O_b + (A.reeve : Int).toNat * 1, none⟩) :: .slice (A.a_b A.reeve) (A.b A.reeve).length (A.κ_b A.reeve) :: .int .i64 (((A.b A.reeve).length : Int)) :: R
def pU_L5_X0 : Head := (⟨[(0, 33), (4, 35), (6, 33)], [(8, .cells [1] 0 0), (9, .cells [2] 0 0), (10, .lst 9 11 1), (11, .cells [10, 11, 12, 13, 14, 15, 16, 17, 18, 19, 20] 0 0), (12, .cells [10, 11, 12, 13, 14, 15, 16, 17, 18, 19, 20] 0 0), (13, .cells [21, 22, 23, 24, 25, 26, 27, 28, 29, 30, 31] 0 0)], 22, 22, 1, 1, 35, 36⟩ : Head)
def pU_L5_X1 : Head := (⟨[(0, 33), (4, .int .i64 0), (6, 33)], [(8, .cells [1] 0 0), (9, .cells [2] 0 0), (10, .lst 9 11 1), (11, .cells [10, 11, 12, 13, 14, 15, 16, 17, 18, 19, 20] 0 0), (12, .cells [10, 11, 12, 13, 14, 15, 16, 17, 18, 19, 20] 0 0), (13, .cells [21, 22, 23, 24, 25, 26, 27, 28, 29, 30, 31] 0 0)], 22, 22, 1, 1, 35, 35⟩ : Head)
def pU_L5  (A : pU_A) (w : World) (x0_00 : Int) (v30 : Int) (v31 : Int) (l32 : List Po) : Nat → Int → Option (Nat × Int × Unit)
 | 0, _ => none
 | fu_ + 1, v50 => (if v50 < ((A.b A.reeve).length : Int) then (if (at_ (A.b A.reeve) v50).kind = 4 then (if (at_ (A.b A.reeve) v50).by_.reeve = (at_ l32 v31).reeve then (if (at_ (A.b A.reeve) v50).by_.number = (at_ l32 v31).number then some (0, v50, ()) else pU_L5 A w x0_00 v30 v31 l32 fu_ (v50 + 1)) else pU_L5 A w x0_00 v30 v31 l32 fu_ (v50 + 1)) else pU_L5 A w x0_00 v30 v31 l32 fu_ (v50 + 1)) else some (1, default, ()))
def pU_L3_H : Head := (⟨[(0, .sls 10 11 (.int .i64 0) 4 2), (1, .fn (.func 195) [] [.ptr 8 0, .ptr 9 0]), (4, .ns), (5, 7), (6, 8), (8, .sls 10 11 (.int .i64 0) 4 2), (9, .fn (.func 195) [] [.ptr 8 0, .ptr 9 0]), (10, 5), (11, 5), (12, .bool false), (14, 5), (15, 6)], [(8, .cells [1] 0 0), (9, .cells [2] 0 0), (10, .lst 9 11 1)], 11, 11, 1, 1, 7, 10⟩ : Head)
def pU_L3_R : Rn := ⟨11, [], 1, [], 7, [5, 6, 3]⟩
def pU_L3_B  (A : pU_A) (w : World) (x0_00 : Int) (R : List Value) : List Value := .agg #[] :: .pointer (some ⟨A.B_b, A.O_b, none⟩) :: .int .i64 A.reeve :: Codec.flat poC (allN A.b) :: .int .i64 (((allN A.b).length : Int)) :: .int .i64 x0_00 :: .int .i64 (x0_00 + 1) :: R
def pU_L3_X0 : Head := (⟨[(0, .sls 10 11 (.int .i64 0) 4 2), (1, .fn (.func 195) [] [.ptr 8 0, .ptr 9 0]), (4, .ns), (5, 7), (8, .sls 10 11 (.int .i64 0) 4 2), (9, .fn (.func 195) [] [.ptr 8 0, .ptr 9 0]), (10, 5), (11, 5), (12, .bool false), (14, 5), (15, 6)], [(8, .cells [1] 0 0), (9, .cells [2] 0 0), (10, .lst 8 11 1)], 11, 11, 1, 1, 7, 9⟩ : Head)
def pU_L3  (A : pU_A) (w : World) (x0_00 : Int) : Nat → Int → Int → List Po → Option (Nat × Int × List Po × Unit)
 | 0, _, _, _ => none
 | fu_ + 1, v30, v31, l32 => (if v31 < ((allN A.b).length : Int) then (if chargeB A.b ((at_ l32 v31).of) = true then (match pU_L4 A w x0_00 v30 v31 l32 (((((A.b A.reeve).length : Int) - 0) : Int).toNat + 1) 0 with | some (0, x4_00, _) => (if (at_ l32 v31).kind = 3 then (if (at_ l32 v31).of.reeve = A.reeve then (if ((chargeP A.b ((at_ l32 v31).of)).owner) = (at_ l32 v31).owner then pU_L3 A w x0_00 fu_ v30 (v31 + 1) l32 else pU_L3 A w x0_00 fu_ v30 (v31 + 1) l32) else pU_L3 A w x0_00 fu_ v30 (v31 + 1) l32) else pU_L3 A w x0_00 fu_ v30 (v31 + 1) l32) | some (1, x4_00, _) => (if (at_ l32 v31).kind = 3 then (if (at_ l32 v31).of.reeve = A.reeve then (if ((chargeP A.b ((at_ l32 v31).of)).owner) = (at_ l32 v31).owner then pU_L3 A w x0_00 fu_ (v30 + 1) (v31 + 1) ((l32).set (v30 : Int).toNat (at_ l32 v31)) else pU_L3 A w x0_00 fu_ v30 (v31 + 1) l32) else pU_L3 A w x0_00 fu_ v30 (v31 + 1) l32) else pU_L3 A w x0_00 fu_ v30 (v31 + 1) l32) | _ => none) else (match pU_L5 A w x0_00 v30 v31 l32 (((((A.b A.reeve).length : Int) - 0) : Int).toNat + 1) 0 with | some (0, x5_00, _) => (if (at_ l32 v31).kind = 3 then (if (at_ l32 v31).of.reeve = A.reeve then pU_L3 A w x0_00 fu_ v30 (v31 + 1) l32 else pU_L3 A w x0_00 fu_ v30 (v31 + 1) l32) else pU_L3 A w x0_00 fu_ v30 (v31 + 1) l32) | some (1, x5_00, _) => (if (at_ l32 v31).kind = 3 then (if (at_ l32 v31).of.reeve = A.reeve then pU_L3 A w x0_00 fu_ v30 (v31 + 1) l32 else pU_L3 A w x0_00 fu_ v30 (v31 + 1) l32) else pU_L3 A w x0_00 fu_ v30 (v31 + 1) l32) | _ => none)) else some (0, v30, l32, ()))
def pU_r  (A : pU_A) (w : World) : List Po := (if 0 ≤ A.reeve then (if A.reeve ≤ 4 then (match pU_L0 A w (((((allN A.b).length : Int) - 0) : Int).toNat + 1) 0 with | some (0, x0_00, _) => (match pU_L3 A w x0_00 (((((allN A.b).length : Int) - (x0_00 + 1)) : Int).toNat + 1) x0_00 (x0_00 + 1) (allN A.b) with | some (0, x3_00, y3_01, _) => (((((y3_01).take ((0 + x3_00) : Int).toNat ++ List.replicate ((((allN A.b).length : Int) - x3_00) : Int).toNat zeroPo)).take (x3_00 : Int).toNat)) | _ => default) | some (1, x0_00, _) => (((allN A.b).take (((allN A.b).length : Int) : Int).toNat)) | _ => default) else ([])) else ([]))
theorem pU_any  (A : pU_A) (w : World) (H_b : BkF poC w A.B_b A.O_b 5 A.a_b A.b_b A.o_b A.κ_b A.b) (h0 : LenR A.b) : Calls Tryz.prog 105 #[.pointer (some ⟨A.B_b, A.O_b, none⟩), .int .i64 A.reeve] w fun e w' => ∃ z : Value, e = .returned z ∧ FrR1 w.heap.size w' ⟨(pU_r A w : List Po).flatMap poC.f, 11, (pU_r A w : List Po).length⟩ z ∧ Chg (fun _ => False) w w' := by
 unfold pU_r
 refine wGo (E := E0) (n := 8) (w := w) (L := id) ?_
 refine wS (.agg #[] :: .pointer (some ⟨A.B_b, A.O_b, none⟩) :: I A.reeve :: []) ?_
 split <;> rename_i h1
 ·refine wT .geq 2 (J 0) h1 ?_
  split <;> rename_i h2
  ·have h3 : ((allN A.b).length : Int) ≤ 5000 := allN_le (show LenR A.b by omega)
   refine wS (Codec.flat poC (allN A.b) :: I (((allN A.b).length : Int)) :: []) (wT .leq 2 (J 4) h2 (wE (⟨6000000000 + 38, [.sls 10 11 (J 0) 4 2], 4⟩) (fun _ => q_lenL rfl rfl (by kernel_rfl)) (wM (⟨133, [1], [], 10, 0, (.sls 10 11 (J 0) 4 2), [(3, 11, 4)]⟩) (fun _ => q_callN (F := fun zs => (zs.getD 0 undef)) (rs := [⟨(allN A.b).flatMap poC.f, 11, (allN A.b).length⟩]) (.val _ _ _ _ _ rfl .nil) rfl rfl ⟨rfl, rfl, flat_length _ _, flat_one _ _, rfl, trivial⟩ rfl (fun zs h => match zs, h with | [_], _ => rfl) (fun w xs hw hq => by obtain ⟨_, rfl, rfl⟩ := hq; exact pAllB_n (BkF.old H_b hw) (show LenR A.b by omega))) ?_)))
   refine wK (K := ∀ (fu_ : Nat) (v00 : Int), (0 ≤ v00 ∧ v00 ≤ ((allN A.b).length : Int)) → ((((allN A.b).length : Int) - v00) : Int) < fu_ → ∃ o, pU_L0 A w fu_ v00 = some o ∧ RdsD Tryz.prog 8 202 2 w pU_L0_H (pU_L0_B A w [.int .i64 v00]) fu_ [(o.1 = 0 ∧ (0 ≤ o.2.1 ∧ o.2.1 < ((allN A.b).length : Int) ∧ o.2.1 ≤ ((allN A.b).length : Int)), pU_L0_X0, pU_L0_B A w [.int .i64 o.2.1], .ret), (o.1 = 1 ∧ True, pU_L0_X1, pU_L0_B A w [], (.exit 0))]) (fun hq hc hm hp fu_ => ?_) (fun key4 => ?_)
   ·induction fu_ with
    | zero => intro v00 _ hz; exfalso; omega
    | succ fu_ ih =>
     intro v00 h4 hz
     rw [pU_L0]
     refine wB hq hc hm hp ?_
     refine wS (I v00 :: []) ?_
     split <;> rename_i h5
     ·refine wS (poV (at_ (allN A.b) v00) ++ []) (wT .lss 5 4 h5 (wE (⟨2000000000 + 38, [.sls 10 11 (J 0) 4 2, 5], .pls 10 11 5 0⟩) (fun _ => q_idxL (oz := 0) (m := v00) (n := ((allN A.b).length : Int)) rfl rfl rfl rfl (by omega) (by show some v00 = some (0 + v00); exact congrArg some (by omega)) (by kernel_rfl)) (wE (⟨8000000000 + 25, [.pls 10 11 5 0, 3], .agg [6, 7, 8, 9, 10, 11, 12, 13, 14, 15, 16]⟩) (fun _ => q_rowL (C := poC) (X := (allN A.b)) (i := v00) rfl rfl rfl rfl ⟨by omega, by first | omega | (simp; omega)⟩ rfl (by kernel_rfl)) ?_)))
      split <;> rename_i h6
      ·have h7 : ((A.b A.reeve).length : Int) ≤ ((A.κ_b A.reeve) : Int) := Int.ofNat_le.2 (H_b.2 A.reeve (by omega)).2.1
       have h8 : ((A.b (A.reeve)).length : Int) ≤ 1000 := h0 (A.reeve) (by omega)
       refine wS (I (((chargeP A.b ((at_ (allN A.b) v00).of)).reeve)) :: I (((chargeP A.b ((at_ (allN A.b) v00).of)).number)) :: I (((chargeP A.b ((at_ (allN A.b) v00).of)).tick)) :: .int .u8 (((chargeP A.b ((at_ (allN A.b) v00).of)).kind)) :: I (((chargeP A.b ((at_ (allN A.b) v00).of)).cse)) :: I (((chargeP A.b ((at_ (allN A.b) v00).of)).owner)) :: I (((chargeP A.b ((at_ (allN A.b) v00).of)).of.reeve)) :: I (((chargeP A.b ((at_ (allN A.b) v00).of)).of.number)) :: I (((chargeP A.b ((at_ (allN A.b) v00).of)).by_.reeve)) :: I (((chargeP A.b ((at_ (allN A.b) v00).of)).by_.number)) :: I (((chargeP A.b ((at_ (allN A.b) v00).of)).amount)) :: .pointer (some ⟨A.B_b, A.O_b + (A.reeve : Int).toNat * 1, none⟩) :: .slice (A.a_b A.reeve) (A.b A.reeve).length (A.κ_b A.reeve) :: I (((A.b A.reeve).length : Int)) :: []) (wE (⟨5500000000, [1], 1⟩) (fun _ => q_nil rfl) (wE (⟨2000000000 + 158, [1, 2], 28⟩) (fun _ => q_bkIdx (n := 5) (sz := 1) (m := A.reeve) rfl rfl rfl (by omega) rfl (by kernel_rfl)) (wE (⟨8000000000 + 38, [28], 29⟩) (fun _ => q_bkLoad (C := poC) H_b (m := A.reeve) (by omega) rfl rfl rfl (by kernel_rfl)) (wN 38 29 30 (wC (⟨99, [.tup [1, .agg [12, 13]], .tup []], .tup [.agg [17, 18, 19, 20, 21, 22, 23, 24, 25, 26, 27], (.bool true)]⟩) (fun _ => q_cV (h := fun w hw => by have hb := h6; (try simp only [Bool.not_eq_true] at hb); rw [← hb]; exact pChargeB_n (BkF.old H_b hw) (show LenR A.b by omega) _)) ?_)))))
       refine wK (K := ∀ (fu_ : Nat) (v10 : Int), (0 ≤ v10 ∧ v10 ≤ ((A.b A.reeve).length : Int)) → ((((A.b A.reeve).length : Int) - v10) : Int) < fu_ → ∃ o, pU_L1 A w v00 fu_ v10 = some o ∧ RdsD Tryz.prog 8 202 2 w pU_L1_H (pU_L1_B A w v00 [.int .i64 v10]) fu_ [(o.1 = 0 ∧ (0 ≤ o.2.1 ∧ o.2.1 < ((A.b A.reeve).length : Int) ∧ o.2.1 ≤ ((A.b A.reeve).length : Int)), pU_L1_X0, pU_L1_B A w v00 [.int .i64 o.2.1], .ret), (o.1 = 1 ∧ True, pU_L1_X1, pU_L1_B A w v00 [], (.exit 0))]) (fun hq hc hm hp fu_ => ?_) (fun key9 => ?_)
       ·induction fu_ with
        | zero => intro v10 _ hz; exfalso; omega
        | succ fu_ ih =>
         intro v10 h9 hz
         rw [pU_L1]
         refine wB hq hc hm hp ?_
         refine wS (I v10 :: []) ?_
         split <;> rename_i h10
         ·refine wS (.pointer (some ⟨(A.b_b A.reeve), (A.o_b A.reeve) + (v10 : Int).toNat * 11, none⟩) :: poV (at_ (A.b A.reeve) v10) ++ []) (wT .lss 31 30 h10 (wX 38 29 31 32 ((H_b.2 A.reeve (by omega)).2.2) 11 v10 (wR 25 32 [33, 34, 35, 36, 37, 38, 39, 40, 41, 42, 43] ((H_b.2 A.reeve (by omega)).2.2) v10 ?_)))
          split <;> rename_i h11
          ·refine wT .eql 36 (.int .u8 4) h11 ?_
           split <;> rename_i h12
           ·refine wU 41 6 h12 ?_
            split <;> rename_i h13
            ·refine wU 42 7 h13 ?_
             exact wQ (fun hr => ⟨(0, v10, ()), rfl, Or.inl ⟨⟨rfl, (by first | trivial | omega | (simp; omega))⟩, rndEnd xeR hr⟩⟩) 32 ⟨21, [], 1, [], 31, [31]⟩ [] ⟨rfl, trivial⟩
            ·refine wS (I (v10 + 1) :: []) (wV 42 7 h13 (wA 31 (J 1) 44 ?_))
             exact wQ (rnG (ih (v10 + 1) (by omega) (by omega))) 32 ⟨21, [], 1, [], 31, [44]⟩ [] ⟨rfl, trivial⟩
           ·refine wS (I (v10 + 1) :: []) (wV 41 6 h12 (wA 31 (J 1) 44 ?_))
            exact wQ (rnG (ih (v10 + 1) (by omega) (by omega))) 32 ⟨21, [], 1, [], 31, [44]⟩ [] ⟨rfl, trivial⟩
          ·refine wS (I (v10 + 1) :: []) (wF .eql 36 (.int .u8 4) h11 (wA 31 (J 1) 44 ?_))
           exact wQ (rnG (ih (v10 + 1) (by omega) (by omega))) 32 ⟨21, [], 1, [], 31, [44]⟩ [] ⟨rfl, trivial⟩
         ·refine wF .lss 31 30 h10 ?_
          exact wQ (fun hr => ⟨(1, default, ()), rfl, Or.inr (⟨⟨rfl, trivial⟩, rndEnd xeE hr⟩)⟩) 32 ⟨21, [], 1, [], 31, []⟩ [] trivial
       obtain ⟨⟨q9, x1_00, _⟩, h9, hk9⟩ := key9 (((((A.b A.reeve).length : Int) - 0) : Int).toNat + 1) 0 (by first | trivial | omega | (simp; omega)) (by first | omega | (simp; omega))
       rw [h9]
       rcases hk9 with ⟨⟨he9, h10⟩, hr9⟩ | ⟨⟨he9, h10⟩, hr9⟩
       ·have he9 : q9 = 0 := he9
        subst he9
        try simp only []
        have h10 : 0 ≤ x1_00 ∧ x1_00 < ((A.b A.reeve).length : Int) ∧ x1_00 ≤ ((A.b A.reeve).length : Int) := h10
        refine wS (I x1_00 :: []) ?_
        refine wLp (x := .ret) rfl hr9 pU_L1_R [] (fun _ => rfl) (by kernel_rfl) (fun _ => rfl) (fun _ => ⟨rfl, trivial⟩) (fun _ => rfl) ?_
        refine wT .geq 31 (J 0) (show 0 ≤ x1_00 by omega) ?_
        split <;> rename_i h11
        ·refine wF .neq 9 (.int .u8 3) (fun h => h h11) ?_
         split <;> rename_i h12
         ·refine wF .neq 12 2 (fun h => h h12) ?_
          split <;> rename_i h13
          ·refine wF .neq 22 11 (fun h => h h13) ?_
           exact wQ (fun hr => ⟨(0, v00, ()), rfl, Or.inl ⟨⟨rfl, (by first | trivial | omega | (simp; omega))⟩, rndEnd xeR hr⟩⟩) 6 ⟨11, [], 1, [], 5, [5]⟩ [] ⟨rfl, trivial⟩
          ·refine wT .neq 22 11 h13 ?_
           exact wQ (fun hr => ⟨(0, v00, ()), rfl, Or.inl ⟨⟨rfl, (by first | trivial | omega | (simp; omega))⟩, rndEnd xeR hr⟩⟩) 6 ⟨11, [], 1, [], 5, [5]⟩ [] ⟨rfl, trivial⟩
         ·refine wT .neq 12 2 h12 ?_
          exact wQ (fun hr => ⟨(0, v00, ()), rfl, Or.inl ⟨⟨rfl, (by first | trivial | omega | (simp; omega))⟩, rndEnd xeR hr⟩⟩) 6 ⟨11, [], 1, [], 5, [5]⟩ [] ⟨rfl, trivial⟩
        ·refine wT .neq 9 (.int .u8 3) h11 ?_
         exact wQ (fun hr => ⟨(0, v00, ()), rfl, Or.inl ⟨⟨rfl, (by first | trivial | omega | (simp; omega))⟩, rndEnd xeR hr⟩⟩) 6 ⟨11, [], 1, [], 5, [5]⟩ [] ⟨rfl, trivial⟩
       ·have he9 : q9 = 1 := he9
        subst he9
        try simp only []
        refine wLp (x := (.exit 0)) rfl hr9 pU_L1_R [] (fun _ => rfl) (by kernel_rfl) (fun _ => rfl) (fun _ => ⟨rfl, trivial⟩) (fun _ => rfl) ?_
        split <;> rename_i h11
        ·refine wF .neq 9 (.int .u8 3) (fun h => h h11) ?_
         split <;> rename_i h12
         ·refine wF .neq 12 2 (fun h => h h12) ?_
          split <;> rename_i h13
          ·refine wS (I (v00 + 1) :: []) (wF .neq 22 11 (fun h => h h13) (wA 5 (J 1) 31 ?_))
           exact wQ (rnG (ih (v00 + 1) (by omega) (by omega))) 6 ⟨11, [], 1, [], 5, [31]⟩ [] ⟨rfl, trivial⟩
          ·refine wT .neq 22 11 h13 ?_
           exact wQ (fun hr => ⟨(0, v00, ()), rfl, Or.inl ⟨⟨rfl, (by first | trivial | omega | (simp; omega))⟩, rndEnd xeR hr⟩⟩) 6 ⟨11, [], 1, [], 5, [5]⟩ [] ⟨rfl, trivial⟩
         ·refine wT .neq 12 2 h12 ?_
          exact wQ (fun hr => ⟨(0, v00, ()), rfl, Or.inl ⟨⟨rfl, (by first | trivial | omega | (simp; omega))⟩, rndEnd xeR hr⟩⟩) 6 ⟨11, [], 1, [], 5, [5]⟩ [] ⟨rfl, trivial⟩
        ·refine wT .neq 9 (.int .u8 3) h11 ?_
         exact wQ (fun hr => ⟨(0, v00, ()), rfl, Or.inl ⟨⟨rfl, (by first | trivial | omega | (simp; omega))⟩, rndEnd xeR hr⟩⟩) 6 ⟨11, [], 1, [], 5, [5]⟩ [] ⟨rfl, trivial⟩
      ·have h7 : ((A.b A.reeve).length : Int) ≤ ((A.κ_b A.reeve) : Int) := Int.ofNat_le.2 (H_b.2 A.reeve (by omega)).2.1
       have h8 : ((A.b (A.reeve)).length : Int) ≤ 1000 := h0 (A.reeve) (by omega)
       refine wS (I (((chargeP A.b ((at_ (allN A.b) v00).of)).reeve)) :: I (((chargeP A.b ((at_ (allN A.b) v00).of)).number)) :: I (((chargeP A.b ((at_ (allN A.b) v00).of)).tick)) :: .int .u8 (((chargeP A.b ((at_ (allN A.b) v00).of)).kind)) :: I (((chargeP A.b ((at_ (allN A.b) v00).of)).cse)) :: I (((chargeP A.b ((at_ (allN A.b) v00).of)).owner)) :: I (((chargeP A.b ((at_ (allN A.b) v00).of)).of.reeve)) :: I (((chargeP A.b ((at_ (allN A.b) v00).of)).of.number)) :: I (((chargeP A.b ((at_ (allN A.b) v00).of)).by_.reeve)) :: I (((chargeP A.b ((at_ (allN A.b) v00).of)).by_.number)) :: I (((chargeP A.b ((at_ (allN A.b) v00).of)).amount)) :: .pointer (some ⟨A.B_b, A.O_b + (A.reeve : Int).toNat * 1, none⟩) :: .slice (A.a_b A.reeve) (A.b A.reeve).length (A.κ_b A.reeve) :: I (((A.b A.reeve).length : Int)) :: []) (wE (⟨5500000000, [1], 1⟩) (fun _ => q_nil rfl) (wE (⟨2000000000 + 158, [1, 2], 28⟩) (fun _ => q_bkIdx (n := 5) (sz := 1) (m := A.reeve) rfl rfl rfl (by omega) rfl (by kernel_rfl)) (wE (⟨8000000000 + 38, [28], 29⟩) (fun _ => q_bkLoad (C := poC) H_b (m := A.reeve) (by omega) rfl rfl rfl (by kernel_rfl)) (wN 38 29 30 (wC (⟨99, [.tup [1, .agg [12, 13]], .tup []], .tup [.agg [17, 18, 19, 20, 21, 22, 23, 24, 25, 26, 27], (.bool false)]⟩) (fun _ => q_cV (h := fun w hw => by have hb := h6; (try simp only [Bool.not_eq_true] at hb); rw [← hb]; exact pChargeB_n (BkF.old H_b hw) (show LenR A.b by omega) _)) ?_)))))
       refine wK (K := ∀ (fu_ : Nat) (v20 : Int), (0 ≤ v20 ∧ v20 ≤ ((A.b A.reeve).length : Int)) → ((((A.b A.reeve).length : Int) - v20) : Int) < fu_ → ∃ o, pU_L2 A w v00 fu_ v20 = some o ∧ RdsD Tryz.prog 8 202 2 w pU_L2_H (pU_L2_B A w v00 [.int .i64 v20]) fu_ [(o.1 = 0 ∧ (0 ≤ o.2.1 ∧ o.2.1 < ((A.b A.reeve).length : Int) ∧ o.2.1 ≤ ((A.b A.reeve).length : Int)), pU_L2_X0, pU_L2_B A w v00 [.int .i64 o.2.1], .ret), (o.1 = 1 ∧ True, pU_L2_X1, pU_L2_B A w v00 [], (.exit 0))]) (fun hq hc hm hp fu_ => ?_) (fun key9 => ?_)
       ·induction fu_ with
        | zero => intro v20 _ hz; exfalso; omega
        | succ fu_ ih =>
         intro v20 h9 hz
         rw [pU_L2]
         refine wB hq hc hm hp ?_
         refine wS (I v20 :: []) ?_
         split <;> rename_i h10
         ·refine wS (.pointer (some ⟨(A.b_b A.reeve), (A.o_b A.reeve) + (v20 : Int).toNat * 11, none⟩) :: poV (at_ (A.b A.reeve) v20) ++ []) (wT .lss 31 30 h10 (wX 38 29 31 32 ((H_b.2 A.reeve (by omega)).2.2) 11 v20 (wR 25 32 [33, 34, 35, 36, 37, 38, 39, 40, 41, 42, 43] ((H_b.2 A.reeve (by omega)).2.2) v20 ?_)))
          split <;> rename_i h11
          ·refine wT .eql 36 (.int .u8 4) h11 ?_
           split <;> rename_i h12
           ·refine wU 41 6 h12 ?_
            split <;> rename_i h13
            ·refine wU 42 7 h13 ?_
             exact wQ (fun hr => ⟨(0, v20, ()), rfl, Or.inl ⟨⟨rfl, (by first | trivial | omega | (simp; omega))⟩, rndEnd xeR hr⟩⟩) 32 ⟨21, [], 1, [], 31, [31]⟩ [] ⟨rfl, trivial⟩
            ·refine wS (I (v20 + 1) :: []) (wV 42 7 h13 (wA 31 (J 1) 44 ?_))
             exact wQ (rnG (ih (v20 + 1) (by omega) (by omega))) 32 ⟨21, [], 1, [], 31, [44]⟩ [] ⟨rfl, trivial⟩
           ·refine wS (I (v20 + 1) :: []) (wV 41 6 h12 (wA 31 (J 1) 44 ?_))
            exact wQ (rnG (ih (v20 + 1) (by omega) (by omega))) 32 ⟨21, [], 1, [], 31, [44]⟩ [] ⟨rfl, trivial⟩
          ·refine wS (I (v20 + 1) :: []) (wF .eql 36 (.int .u8 4) h11 (wA 31 (J 1) 44 ?_))
           exact wQ (rnG (ih (v20 + 1) (by omega) (by omega))) 32 ⟨21, [], 1, [], 31, [44]⟩ [] ⟨rfl, trivial⟩
         ·refine wF .lss 31 30 h10 ?_
          exact wQ (fun hr => ⟨(1, default, ()), rfl, Or.inr (⟨⟨rfl, trivial⟩, rndEnd xeE hr⟩)⟩) 32 ⟨21, [], 1, [], 31, []⟩ [] trivial
       obtain ⟨⟨q9, x2_00, _⟩, h9, hk9⟩ := key9 (((((A.b A.reeve).length : Int) - 0) : Int).toNat + 1) 0 (by first | trivial | omega | (simp; omega)) (by first | omega | (simp; omega))
       rw [h9]
       rcases hk9 with ⟨⟨he9, h10⟩, hr9⟩ | ⟨⟨he9, h10⟩, hr9⟩
       ·have he9 : q9 = 0 := he9
        subst he9
        try simp only []
        have h10 : 0 ≤ x2_00 ∧ x2_00 < ((A.b A.reeve).length : Int) ∧ x2_00 ≤ ((A.b A.reeve).length : Int) := h10
        refine wS (I x2_00 :: []) ?_
        refine wLp (x := .ret) rfl hr9 pU_L2_R [] (fun _ => rfl) (by kernel_rfl) (fun _ => rfl) (fun _ => ⟨rfl, trivial⟩) (fun _ => rfl) ?_
        refine wT .geq 31 (J 0) (show 0 ≤ x2_00 by omega) ?_
        split <;> rename_i h11
        ·refine wF .neq 9 (.int .u8 3) (fun h => h h11) ?_
         split <;> rename_i h12
         ·refine wF .neq 12 2 (fun h => h h12) ?_
          exact wQ (fun hr => ⟨(0, v00, ()), rfl, Or.inl ⟨⟨rfl, (by first | trivial | omega | (simp; omega))⟩, rndEnd xeR hr⟩⟩) 6 ⟨11, [], 1, [], 5, [5]⟩ [] ⟨rfl, trivial⟩
         ·refine wT .neq 12 2 h12 ?_
          exact wQ (fun hr => ⟨(0, v00, ()), rfl, Or.inl ⟨⟨rfl, (by first | trivial | omega | (simp; omega))⟩, rndEnd xeR hr⟩⟩) 6 ⟨11, [], 1, [], 5, [5]⟩ [] ⟨rfl, trivial⟩
        ·refine wT .neq 9 (.int .u8 3) h11 ?_
         exact wQ (fun hr => ⟨(0, v00, ()), rfl, Or.inl ⟨⟨rfl, (by first | trivial | omega | (simp; omega))⟩, rndEnd xeR hr⟩⟩) 6 ⟨11, [], 1, [], 5, [5]⟩ [] ⟨rfl, trivial⟩
       ·have he9 : q9 = 1 := he9
        subst he9
        try simp only []
        refine wLp (x := (.exit 0)) rfl hr9 pU_L2_R [] (fun _ => rfl) (by kernel_rfl) (fun _ => rfl) (fun _ => ⟨rfl, trivial⟩) (fun _ => rfl) ?_
        split <;> rename_i h11
        ·refine wF .neq 9 (.int .u8 3) (fun h => h h11) ?_
         split <;> rename_i h12
         ·refine wF .neq 12 2 (fun h => h h12) ?_
          exact wQ (fun hr => ⟨(0, v00, ()), rfl, Or.inl ⟨⟨rfl, (by first | trivial | omega | (simp; omega))⟩, rndEnd xeR hr⟩⟩) 6 ⟨11, [], 1, [], 5, [5]⟩ [] ⟨rfl, trivial⟩
         ·refine wT .neq 12 2 h12 ?_
          exact wQ (fun hr => ⟨(0, v00, ()), rfl, Or.inl ⟨⟨rfl, (by first | trivial | omega | (simp; omega))⟩, rndEnd xeR hr⟩⟩) 6 ⟨11, [], 1, [], 5, [5]⟩ [] ⟨rfl, trivial⟩
        ·refine wT .neq 9 (.int .u8 3) h11 ?_
         exact wQ (fun hr => ⟨(0, v00, ()), rfl, Or.inl ⟨⟨rfl, (by first | trivial | omega | (simp; omega))⟩, rndEnd xeR hr⟩⟩) 6 ⟨11, [], 1, [], 5, [5]⟩ [] ⟨rfl, trivial⟩
     ·refine wF .lss 5 4 h5 ?_
      exact wQ (fun hr => ⟨(1, default, ()), rfl, Or.inr (⟨⟨rfl, trivial⟩, rndEnd xeE hr⟩)⟩) 6 ⟨11, [], 1, [], 5, []⟩ [] trivial
   obtain ⟨⟨q4, x0_00, _⟩, h4, hk4⟩ := key4 (((((allN A.b).length : Int) - 0) : Int).toNat + 1) 0 (by first | trivial | omega | (simp; omega)) (by first | omega | (simp; omega))
   rw [h4]
   rcases hk4 with ⟨⟨he4, h5⟩, hr4⟩ | ⟨⟨he4, h5⟩, hr4⟩
   ·have he4 : q4 = 0 := he4
    subst he4
    try simp only []
    have h5 : 0 ≤ x0_00 ∧ x0_00 < ((allN A.b).length : Int) ∧ x0_00 ≤ ((allN A.b).length : Int) := h5
    refine wS (I x0_00 :: []) ?_
    refine wLp (x := .ret) rfl hr4 pU_L0_R [] (fun _ => rfl) (by kernel_rfl) (fun _ => rfl) (fun _ => ⟨rfl, trivial⟩) (fun _ => rfl) ?_
    refine wS (I (x0_00 + 1) :: []) (wF .eql 5 (J (-1)) (show ¬ (x0_00 = (-1)) by omega) (wA 5 (J 1) 6 ?_))
    refine wK (K := ∀ (fu_ : Nat) (v30 : Int) (v31 : Int) (l32 : List Po), (0 ≤ v30 ∧ v30 ≤ ((allN A.b).length : Int) ∧ 0 ≤ v31 ∧ v31 ≤ ((allN A.b).length : Int) ∧ v30 < v31 ∧ ((l32).length : Int) = ((allN A.b).length : Int)) → ((((allN A.b).length : Int) - v31) : Int) < fu_ → ∃ o, pU_L3 A w x0_00 fu_ v30 v31 l32 = some o ∧ RdsD Tryz.prog 8 194 5 w pU_L3_H (pU_L3_B A w x0_00 [.int .i64 v30, .int .i64 v31, Codec.flat poC l32]) fu_ [(o.1 = 0 ∧ (0 ≤ o.2.1 ∧ o.2.1 < ((allN A.b).length : Int) ∧ o.2.1 ≤ ((allN A.b).length : Int) ∧ ((o.2.2.1).length : Int) = ((allN A.b).length : Int)), pU_L3_X0, pU_L3_B A w x0_00 [.int .i64 o.2.1, Codec.flat poC o.2.2.1], (.exit 0))]) (fun hq hc hm hp fu_ => ?_) (fun key6 => ?_)
    ·induction fu_ with
     | zero => intro v30 v31 l32 _ hz; exfalso; omega
     | succ fu_ ih =>
      intro v30 v31 l32 h6 hz
      rw [pU_L3]
      refine wB hq hc hm hp ?_
      refine wS (I v30 :: I v31 :: Codec.flat poC l32 :: []) ?_
      split <;> rename_i h7
      ·refine wS (poV (at_ l32 v31) ++ []) (wT .lss 8 4 h7 (wE (⟨2000000000 + 38, [.sls 10 11 (J 0) 4 2, 8], .pls 10 11 8 0⟩) (fun _ => q_idxL (oz := 0) (m := v31) (n := ((allN A.b).length : Int)) rfl rfl rfl rfl (by omega) (by show some v31 = some (0 + v31); exact congrArg some (by omega)) (by kernel_rfl)) (wE (⟨8000000000 + 25, [.pls 10 11 8 0, 9], .agg [10, 11, 12, 13, 14, 15, 16, 17, 18, 19, 20]⟩) (fun _ => q_rowL (C := poC) (X := l32) (i := v31) rfl rfl rfl rfl ⟨by omega, by first | omega | (simp; omega)⟩ rfl (by kernel_rfl)) ?_)))
       split <;> rename_i h8
       ·have h9 : ((A.b A.reeve).length : Int) ≤ ((A.κ_b A.reeve) : Int) := Int.ofNat_le.2 (H_b.2 A.reeve (by omega)).2.1
        have h10 : ((A.b (A.reeve)).length : Int) ≤ 1000 := h0 (A.reeve) (by omega)
        refine wS (I (((chargeP A.b ((at_ l32 v31).of)).reeve)) :: I (((chargeP A.b ((at_ l32 v31).of)).number)) :: I (((chargeP A.b ((at_ l32 v31).of)).tick)) :: .int .u8 (((chargeP A.b ((at_ l32 v31).of)).kind)) :: I (((chargeP A.b ((at_ l32 v31).of)).cse)) :: I (((chargeP A.b ((at_ l32 v31).of)).owner)) :: I (((chargeP A.b ((at_ l32 v31).of)).of.reeve)) :: I (((chargeP A.b ((at_ l32 v31).of)).of.number)) :: I (((chargeP A.b ((at_ l32 v31).of)).by_.reeve)) :: I (((chargeP A.b ((at_ l32 v31).of)).by_.number)) :: I (((chargeP A.b ((at_ l32 v31).of)).amount)) :: .pointer (some ⟨A.B_b, A.O_b + (A.reeve : Int).toNat * 1, none⟩) :: .slice (A.a_b A.reeve) (A.b A.reeve).length (A.κ_b A.reeve) :: I (((A.b A.reeve).length : Int)) :: []) (wE (⟨5500000000, [1], 1⟩) (fun _ => q_nil rfl) (wE (⟨2000000000 + 158, [1, 2], 32⟩) (fun _ => q_bkIdx (n := 5) (sz := 1) (m := A.reeve) rfl rfl rfl (by omega) rfl (by kernel_rfl)) (wE (⟨8000000000 + 38, [32], 33⟩) (fun _ => q_bkLoad (C := poC) H_b (m := A.reeve) (by omega) rfl rfl rfl (by kernel_rfl)) (wN 38 33 34 (wC (⟨99, [.tup [1, .agg [16, 17]], .tup []], .tup [.agg [21, 22, 23, 24, 25, 26, 27, 28, 29, 30, 31], (.bool true)]⟩) (fun _ => q_cV (h := fun w hw => by have hb := h8; (try simp only [Bool.not_eq_true] at hb); rw [← hb]; exact pChargeB_n (BkF.old H_b hw) (show LenR A.b by omega) _)) ?_)))))
        refine wK (K := ∀ (fu_ : Nat) (v40 : Int), (0 ≤ v40 ∧ v40 ≤ ((A.b A.reeve).length : Int)) → ((((A.b A.reeve).length : Int) - v40) : Int) < fu_ → ∃ o, pU_L4 A w x0_00 v30 v31 l32 fu_ v40 = some o ∧ RdsD Tryz.prog 8 202 2 w pU_L4_H (pU_L4_B A w x0_00 v30 v31 l32 [.int .i64 v40]) fu_ [(o.1 = 0 ∧ (0 ≤ o.2.1 ∧ o.2.1 < ((A.b A.reeve).length : Int) ∧ o.2.1 ≤ ((A.b A.reeve).length : Int)), pU_L4_X0, pU_L4_B A w x0_00 v30 v31 l32 [.int .i64 o.2.1], .ret), (o.1 = 1 ∧ True, pU_L4_X1, pU_L4_B A w x0_00 v30 v31 l32 [], (.exit 0))]) (fun hq hc hm hp fu_ => ?_) (fun key11 => ?_)
        ·induction fu_ with
         | zero => intro v40 _ hz; exfalso; omega
         | succ fu_ ih =>
          intro v40 h11 hz
          rw [pU_L4]
          refine wB hq hc hm hp ?_
          refine wS (I v40 :: []) ?_
          split <;> rename_i h12
          ·refine wS (.pointer (some ⟨(A.b_b A.reeve), (A.o_b A.reeve) + (v40 : Int).toNat * 11, none⟩) :: poV (at_ (A.b A.reeve) v40) ++ []) (wT .lss 35 34 h12 (wX 38 33 35 36 ((H_b.2 A.reeve (by omega)).2.2) 11 v40 (wR 25 36 [37, 38, 39, 40, 41, 42, 43, 44, 45, 46, 47] ((H_b.2 A.reeve (by omega)).2.2) v40 ?_)))
           split <;> rename_i h13
           ·refine wT .eql 40 (.int .u8 4) h13 ?_
            split <;> rename_i h14
            ·refine wU 45 10 h14 ?_
             split <;> rename_i h15
             ·refine wU 46 11 h15 ?_
              exact wQ (fun hr => ⟨(0, v40, ()), rfl, Or.inl ⟨⟨rfl, (by first | trivial | omega | (simp; omega))⟩, rndEnd xeR hr⟩⟩) 36 ⟨22, [], 1, [], 35, [35]⟩ [] ⟨rfl, trivial⟩
             ·refine wS (I (v40 + 1) :: []) (wV 46 11 h15 (wA 35 (J 1) 48 ?_))
              exact wQ (rnG (ih (v40 + 1) (by omega) (by omega))) 36 ⟨22, [], 1, [], 35, [48]⟩ [] ⟨rfl, trivial⟩
            ·refine wS (I (v40 + 1) :: []) (wV 45 10 h14 (wA 35 (J 1) 48 ?_))
             exact wQ (rnG (ih (v40 + 1) (by omega) (by omega))) 36 ⟨22, [], 1, [], 35, [48]⟩ [] ⟨rfl, trivial⟩
           ·refine wS (I (v40 + 1) :: []) (wF .eql 40 (.int .u8 4) h13 (wA 35 (J 1) 48 ?_))
            exact wQ (rnG (ih (v40 + 1) (by omega) (by omega))) 36 ⟨22, [], 1, [], 35, [48]⟩ [] ⟨rfl, trivial⟩
          ·refine wF .lss 35 34 h12 ?_
           exact wQ (fun hr => ⟨(1, default, ()), rfl, Or.inr (⟨⟨rfl, trivial⟩, rndEnd xeE hr⟩)⟩) 36 ⟨22, [], 1, [], 35, []⟩ [] trivial
        obtain ⟨⟨q11, x4_00, _⟩, h11, hk11⟩ := key11 (((((A.b A.reeve).length : Int) - 0) : Int).toNat + 1) 0 (by first | trivial | omega | (simp; omega)) (by first | omega | (simp; omega))
        rw [h11]
        rcases hk11 with ⟨⟨he11, h12⟩, hr11⟩ | ⟨⟨he11, h12⟩, hr11⟩
        ·have he11 : q11 = 0 := he11
         subst he11
         try simp only []
         have h12 : 0 ≤ x4_00 ∧ x4_00 < ((A.b A.reeve).length : Int) ∧ x4_00 ≤ ((A.b A.reeve).length : Int) := h12
         refine wS (I x4_00 :: []) ?_
         refine wLp (x := .ret) rfl hr11 pU_L4_R [] (fun _ => rfl) (by kernel_rfl) (fun _ => rfl) (fun _ => ⟨rfl, trivial⟩) (fun _ => rfl) ?_
         refine wT .geq 35 (J 0) (show 0 ≤ x4_00 by omega) ?_
         split <;> rename_i h13
         ·refine wF .neq 13 (.int .u8 3) (fun h => h h13) ?_
          split <;> rename_i h14
          ·refine wF .neq 16 2 (fun h => h h14) ?_
           split <;> rename_i h15
           ·refine wS (I (v31 + 1) :: []) (wF .neq 26 15 (fun h => h h15) (wA 8 (J 1) 36 ?_))
            exact wQ (rnG (ih v30 (v31 + 1) l32 (by omega) (by omega))) 10 ⟨11, [], 1, [], 7, [7, 36, 9]⟩ [] ⟨rfl, rfl, rfl, trivial⟩
           ·refine wS (I (v31 + 1) :: []) (wT .neq 26 15 h15 (wA 8 (J 1) 36 ?_))
            exact wQ (rnG (ih v30 (v31 + 1) l32 (by omega) (by omega))) 10 ⟨11, [], 1, [], 7, [7, 36, 9]⟩ [] ⟨rfl, rfl, rfl, trivial⟩
          ·refine wS (I (v31 + 1) :: []) (wT .neq 16 2 h14 (wA 8 (J 1) 36 ?_))
           exact wQ (rnG (ih v30 (v31 + 1) l32 (by omega) (by omega))) 10 ⟨11, [], 1, [], 7, [7, 36, 9]⟩ [] ⟨rfl, rfl, rfl, trivial⟩
         ·refine wS (I (v31 + 1) :: []) (wT .neq 13 (.int .u8 3) h13 (wA 8 (J 1) 36 ?_))
          exact wQ (rnG (ih v30 (v31 + 1) l32 (by omega) (by omega))) 10 ⟨11, [], 1, [], 7, [7, 36, 9]⟩ [] ⟨rfl, rfl, rfl, trivial⟩
        ·have he11 : q11 = 1 := he11
         subst he11
         try simp only []
         refine wLp (x := (.exit 0)) rfl hr11 pU_L4_R [] (fun _ => rfl) (by kernel_rfl) (fun _ => rfl) (fun _ => ⟨rfl, trivial⟩) (fun _ => rfl) ?_
         split <;> rename_i h13
         ·refine wF .neq 13 (.int .u8 3) (fun h => h h13) ?_
          split <;> rename_i h14
          ·refine wF .neq 16 2 (fun h => h h14) ?_
           split <;> rename_i h15
           ·refine wS (Codec.flat poC ((l32).set (v30 : Int).toNat (at_ l32 v31)) :: I (v30 + 1) :: I (v31 + 1) :: []) (wF .neq 26 15 (fun h => h h15) (wE (⟨2000000000 + 38, [.sls 10 11 (J 0) 4 2, 7], .pls 10 11 7 0⟩) (fun _ => q_idxL (oz := 0) (m := v30) (n := ((allN A.b).length : Int)) rfl rfl rfl rfl (by omega) (by show some v30 = some (0 + v30); exact congrArg some (by omega)) (by kernel_rfl)) (wE (⟨8000000000 + 100000025, [.pls 10 11 7 0, 9, .agg [10, 11, 12, 13, 14, 15, 16, 17, 18, 19, 20]], 35⟩) (fun _ => q_put (t := 25) (C := poC) (X := l32) (e := (at_ l32 v31)) (i := v30) rfl rfl rfl rfl (by first | trivial | omega | (simp; omega)) rfl rfl) (wA 7 (J 1) 36 (wA 8 (J 1) 37 ?_)))))
            exact wQ (rnG (ih (v30 + 1) (v31 + 1) ((l32).set (v30 : Int).toNat (at_ l32 v31)) (by simp only [List.length_append, List.length_cons, List.length_nil, List.length_set]; omega) (by omega))) 10 ⟨11, [], 1, [], 7, [36, 37, 35]⟩ [] ⟨rfl, rfl, rfl, trivial⟩
           ·refine wS (I (v31 + 1) :: []) (wT .neq 26 15 h15 (wA 8 (J 1) 35 ?_))
            exact wQ (rnG (ih v30 (v31 + 1) l32 (by omega) (by omega))) 10 ⟨11, [], 1, [], 7, [7, 35, 9]⟩ [] ⟨rfl, rfl, rfl, trivial⟩
          ·refine wS (I (v31 + 1) :: []) (wT .neq 16 2 h14 (wA 8 (J 1) 35 ?_))
           exact wQ (rnG (ih v30 (v31 + 1) l32 (by omega) (by omega))) 10 ⟨11, [], 1, [], 7, [7, 35, 9]⟩ [] ⟨rfl, rfl, rfl, trivial⟩
         ·refine wS (I (v31 + 1) :: []) (wT .neq 13 (.int .u8 3) h13 (wA 8 (J 1) 35 ?_))
          exact wQ (rnG (ih v30 (v31 + 1) l32 (by omega) (by omega))) 10 ⟨11, [], 1, [], 7, [7, 35, 9]⟩ [] ⟨rfl, rfl, rfl, trivial⟩
       ·have h9 : ((A.b A.reeve).length : Int) ≤ ((A.κ_b A.reeve) : Int) := Int.ofNat_le.2 (H_b.2 A.reeve (by omega)).2.1
        have h10 : ((A.b (A.reeve)).length : Int) ≤ 1000 := h0 (A.reeve) (by omega)
        refine wS (I (((chargeP A.b ((at_ l32 v31).of)).reeve)) :: I (((chargeP A.b ((at_ l32 v31).of)).number)) :: I (((chargeP A.b ((at_ l32 v31).of)).tick)) :: .int .u8 (((chargeP A.b ((at_ l32 v31).of)).kind)) :: I (((chargeP A.b ((at_ l32 v31).of)).cse)) :: I (((chargeP A.b ((at_ l32 v31).of)).owner)) :: I (((chargeP A.b ((at_ l32 v31).of)).of.reeve)) :: I (((chargeP A.b ((at_ l32 v31).of)).of.number)) :: I (((chargeP A.b ((at_ l32 v31).of)).by_.reeve)) :: I (((chargeP A.b ((at_ l32 v31).of)).by_.number)) :: I (((chargeP A.b ((at_ l32 v31).of)).amount)) :: .pointer (some ⟨A.B_b, A.O_b + (A.reeve : Int).toNat * 1, none⟩) :: .slice (A.a_b A.reeve) (A.b A.reeve).length (A.κ_b A.reeve) :: I (((A.b A.reeve).length : Int)) :: []) (wE (⟨5500000000, [1], 1⟩) (fun _ => q_nil rfl) (wE (⟨2000000000 + 158, [1, 2], 32⟩) (fun _ => q_bkIdx (n := 5) (sz := 1) (m := A.reeve) rfl rfl rfl (by omega) rfl (by kernel_rfl)) (wE (⟨8000000000 + 38, [32], 33⟩) (fun _ => q_bkLoad (C := poC) H_b (m := A.reeve) (by omega) rfl rfl rfl (by kernel_rfl)) (wN 38 33 34 (wC (⟨99, [.tup [1, .agg [16, 17]], .tup []], .tup [.agg [21, 22, 23, 24, 25, 26, 27, 28, 29, 30, 31], (.bool false)]⟩) (fun _ => q_cV (h := fun w hw => by have hb := h8; (try simp only [Bool.not_eq_true] at hb); rw [← hb]; exact pChargeB_n (BkF.old H_b hw) (show LenR A.b by omega) _)) ?_)))))
        refine wK (K := ∀ (fu_ : Nat) (v50 : Int), (0 ≤ v50 ∧ v50 ≤ ((A.b A.reeve).length : Int)) → ((((A.b A.reeve).length : Int) - v50) : Int) < fu_ → ∃ o, pU_L5 A w x0_00 v30 v31 l32 fu_ v50 = some o ∧ RdsD Tryz.prog 8 202 2 w pU_L5_H (pU_L5_B A w x0_00 v30 v31 l32 [.int .i64 v50]) fu_ [(o.1 = 0 ∧ (0 ≤ o.2.1 ∧ o.2.1 < ((A.b A.reeve).length : Int) ∧ o.2.1 ≤ ((A.b A.reeve).length : Int)), pU_L5_X0, pU_L5_B A w x0_00 v30 v31 l32 [.int .i64 o.2.1], .ret), (o.1 = 1 ∧ True, pU_L5_X1, pU_L5_B A w x0_00 v30 v31 l32 [], (.exit 0))]) (fun hq hc hm hp fu_ => ?_) (fun key11 => ?_)
        ·induction fu_ with
         | zero => intro v50 _ hz; exfalso; omega
         | succ fu_ ih =>
          intro v50 h11 hz
          rw [pU_L5]
          refine wB hq hc hm hp ?_
          refine wS (I v50 :: []) ?_
          split <;> rename_i h12
          ·refine wS (.pointer (some ⟨(A.b_b A.reeve), (A.o_b A.reeve) + (v50 : Int).toNat * 11, none⟩) :: poV (at_ (A.b A.reeve) v50) ++ []) (wT .lss 35 34 h12 (wX 38 33 35 36 ((H_b.2 A.reeve (by omega)).2.2) 11 v50 (wR 25 36 [37, 38, 39, 40, 41, 42, 43, 44, 45, 46, 47] ((H_b.2 A.reeve (by omega)).2.2) v50 ?_)))
           split <;> rename_i h13
           ·refine wT .eql 40 (.int .u8 4) h13 ?_
            split <;> rename_i h14
            ·refine wU 45 10 h14 ?_
             split <;> rename_i h15
             ·refine wU 46 11 h15 ?_
              exact wQ (fun hr => ⟨(0, v50, ()), rfl, Or.inl ⟨⟨rfl, (by first | trivial | omega | (simp; omega))⟩, rndEnd xeR hr⟩⟩) 36 ⟨22, [], 1, [], 35, [35]⟩ [] ⟨rfl, trivial⟩
             ·refine wS (I (v50 + 1) :: []) (wV 46 11 h15 (wA 35 (J 1) 48 ?_))
              exact wQ (rnG (ih (v50 + 1) (by omega) (by omega))) 36 ⟨22, [], 1, [], 35, [48]⟩ [] ⟨rfl, trivial⟩
            ·refine wS (I (v50 + 1) :: []) (wV 45 10 h14 (wA 35 (J 1) 48 ?_))
             exact wQ (rnG (ih (v50 + 1) (by omega) (by omega))) 36 ⟨22, [], 1, [], 35, [48]⟩ [] ⟨rfl, trivial⟩
           ·refine wS (I (v50 + 1) :: []) (wF .eql 40 (.int .u8 4) h13 (wA 35 (J 1) 48 ?_))
            exact wQ (rnG (ih (v50 + 1) (by omega) (by omega))) 36 ⟨22, [], 1, [], 35, [48]⟩ [] ⟨rfl, trivial⟩
          ·refine wF .lss 35 34 h12 ?_
           exact wQ (fun hr => ⟨(1, default, ()), rfl, Or.inr (⟨⟨rfl, trivial⟩, rndEnd xeE hr⟩)⟩) 36 ⟨22, [], 1, [], 35, []⟩ [] trivial
        obtain ⟨⟨q11, x5_00, _⟩, h11, hk11⟩ := key11 (((((A.b A.reeve).length : Int) - 0) : Int).toNat + 1) 0 (by first | trivial | omega | (simp; omega)) (by first | omega | (simp; omega))
        rw [h11]
        rcases hk11 with ⟨⟨he11, h12⟩, hr11⟩ | ⟨⟨he11, h12⟩, hr11⟩
        ·have he11 : q11 = 0 := he11
         subst he11
         try simp only []
         have h12 : 0 ≤ x5_00 ∧ x5_00 < ((A.b A.reeve).length : Int) ∧ x5_00 ≤ ((A.b A.reeve).length : Int) := h12
         refine wS (I x5_00 :: []) ?_
         refine wLp (x := .ret) rfl hr11 pU_L5_R [] (fun _ => rfl) (by kernel_rfl) (fun _ => rfl) (fun _ => ⟨rfl, trivial⟩) (fun _ => rfl) ?_
         refine wT .geq 35 (J 0) (show 0 ≤ x5_00 by omega) ?_
         split <;> rename_i h13
         ·refine wF .neq 13 (.int .u8 3) (fun h => h h13) ?_
          split <;> rename_i h14
          ·refine wS (I (v31 + 1) :: []) (wF .neq 16 2 (fun h => h h14) (wA 8 (J 1) 36 ?_))
           exact wQ (rnG (ih v30 (v31 + 1) l32 (by omega) (by omega))) 10 ⟨11, [], 1, [], 7, [7, 36, 9]⟩ [] ⟨rfl, rfl, rfl, trivial⟩
          ·refine wS (I (v31 + 1) :: []) (wT .neq 16 2 h14 (wA 8 (J 1) 36 ?_))
           exact wQ (rnG (ih v30 (v31 + 1) l32 (by omega) (by omega))) 10 ⟨11, [], 1, [], 7, [7, 36, 9]⟩ [] ⟨rfl, rfl, rfl, trivial⟩
         ·refine wS (I (v31 + 1) :: []) (wT .neq 13 (.int .u8 3) h13 (wA 8 (J 1) 36 ?_))
          exact wQ (rnG (ih v30 (v31 + 1) l32 (by omega) (by omega))) 10 ⟨11, [], 1, [], 7, [7, 36, 9]⟩ [] ⟨rfl, rfl, rfl, trivial⟩
        ·have he11 : q11 = 1 := he11
         subst he11
         try simp only []
         refine wLp (x := (.exit 0)) rfl hr11 pU_L5_R [] (fun _ => rfl) (by kernel_rfl) (fun _ => rfl) (fun _ => ⟨rfl, trivial⟩) (fun _ => rfl) ?_
         split <;> rename_i h13
         ·refine wF .neq 13 (.int .u8 3) (fun h => h h13) ?_
          split <;> rename_i h14
          ·refine wS (I (v31 + 1) :: []) (wF .neq 16 2 (fun h => h h14) (wA 8 (J 1) 35 ?_))
           exact wQ (rnG (ih v30 (v31 + 1) l32 (by omega) (by omega))) 10 ⟨11, [], 1, [], 7, [7, 35, 9]⟩ [] ⟨rfl, rfl, rfl, trivial⟩
          ·refine wS (I (v31 + 1) :: []) (wT .neq 16 2 h14 (wA 8 (J 1) 35 ?_))
           exact wQ (rnG (ih v30 (v31 + 1) l32 (by omega) (by omega))) 10 ⟨11, [], 1, [], 7, [7, 35, 9]⟩ [] ⟨rfl, rfl, rfl, trivial⟩
         ·refine wS (I (v31 + 1) :: []) (wT .neq 13 (.int .u8 3) h13 (wA 8 (J 1) 35 ?_))
          exact wQ (rnG (ih v30 (v31 + 1) l32 (by omega) (by omega))) 10 ⟨11, [], 1, [], 7, [7, 35, 9]⟩ [] ⟨rfl, rfl, rfl, trivial⟩
      ·refine wF .lss 8 4 h7 ?_
       exact wQ (fun hr => ⟨(0, v30, l32, ()), rfl, ⟨⟨rfl, (by first | trivial | omega | (simp; omega))⟩, rndEnd xeE hr⟩⟩) 10 ⟨11, [], 1, [], 7, [7, 9]⟩ [] ⟨rfl, rfl, trivial⟩
    obtain ⟨⟨q6, x3_00, y3_01, _⟩, h6, hk6⟩ := key6 (((((allN A.b).length : Int) - (x0_00 + 1)) : Int).toNat + 1) x0_00 (x0_00 + 1) (allN A.b) (by first | trivial | omega | (simp; omega)) (by first | omega | (simp; omega))
    rw [h6]
    rcases hk6 with ⟨⟨he6, h7⟩, hr6⟩
    ·have he6 : q6 = 0 := he6
     subst he6
     try simp only []
     have h7 : 0 ≤ x3_00 ∧ x3_00 < ((allN A.b).length : Int) ∧ x3_00 ≤ ((allN A.b).length : Int) ∧ ((y3_01).length : Int) = ((allN A.b).length : Int) := h7
     refine wS (I x3_00 :: Codec.flat poC y3_01 :: []) ?_
     refine wLp (x := (.exit 0)) rfl hr6 pU_L3_R [] (fun _ => rfl) (by kernel_rfl) (fun _ => rfl) (fun _ => ⟨rfl, rfl, rfl, trivial⟩) (fun _ => rfl) ?_
     refine wS (I (0 + x3_00) :: I ((((allN A.b).length : Int) - x3_00)) :: Codec.flat poC (((y3_01).take ((0 + x3_00) : Int).toNat ++ List.replicate ((((allN A.b).length : Int) - x3_00) : Int).toNat zeroPo)) :: []) (wE (⟨4100000000 + 38, [.sls 10 11 (J 0) 4 2, 7], .sls 10 11 9 10 2⟩) (fun _ => q_slL (oz := 0) (n := ((allN A.b).length : Int)) (l := x3_00) (h := ((allN A.b).length : Int)) (.lo _) rfl rfl rfl ⟨_, rfl⟩ rfl (.inl ⟨rfl, .inl ⟨rfl, rfl⟩⟩) (by omega) (by omega) (by omega) (by show some (0 + x3_00) = some (0 + x3_00); exact congrArg some (by omega)) (by show some ((((allN A.b).length : Int) - x3_00)) = some (((allN A.b).length : Int) - x3_00); exact congrArg some (by omega)) (by kernel_rfl)) (wE (⟨8000000000 + 400000011, [.tup [8, 9, 10], .agg [J 0, J 0, J 0, .bs 1 0, J 0, J 0, J 0, J 0, J 0, J 0, J 0]], 11⟩) (fun _ => q_clr (sz := 11) (C := poC) (X := y3_01) (z0 := zeroPo) (oz := ((0 + x3_00) : Int).toNat) (n := ((((allN A.b).length : Int) - x3_00) : Int).toNat) rfl rfl rfl (by show some (0 + x3_00) = some (((0 + x3_00) : Int).toNat : Int); exact congrArg some (by omega)) (by show some ((((allN A.b).length : Int) - x3_00)) = some (((((allN A.b).length : Int) - x3_00) : Int).toNat : Int); exact congrArg some (by omega)) (by first | omega | (simp; omega)) rfl rfl) (wE (⟨4200000000 + 38, [.sls 10 11 (J 0) 4 2, 7], .sls 10 11 (J 0) 7 1⟩) (fun _ => q_slL (oz := 0) (n := ((allN A.b).length : Int)) (l := 0) (h := x3_00) (.hi _) rfl rfl rfl rfl ⟨_, rfl⟩ (.inl ⟨rfl, .inr rfl⟩) (by omega) (by omega) (by omega) (by show some 0 = some (0 + 0); exact congrArg some (by omega)) (by show some x3_00 = some (x3_00 - 0); exact congrArg some (by omega)) (by kernel_rfl)) ?_)))
     exact wRetR (r := ⟨(((((y3_01).take ((0 + x3_00) : Int).toNat ++ List.replicate ((((allN A.b).length : Int) - x3_00) : Int).toNat zeroPo)).take (x3_00 : Int).toNat) : List Po).flatMap poC.f, 11, (((((y3_01).take ((0 + x3_00) : Int).toNat ++ List.replicate ((((allN A.b).length : Int) - x3_00) : Int).toNat zeroPo)).take (x3_00 : Int).toNat) : List Po).length⟩) (b := 10) (sz := 11) (o := .int .i64 0) (x := 1) (c' := 11) (y := 1) (ln := 7) ok0 60 60 [1, 2] rfl rfl rfl (by kernel_rfl) rfl (ro_take (C := poC) (((y3_01).take ((0 + x3_00) : Int).toNat ++ List.replicate ((((allN A.b).length : Int) - x3_00) : Int).toNat zeroPo)) _) (ro_in (C := poC) (((y3_01).take ((0 + x3_00) : Int).toNat ++ List.replicate ((((allN A.b).length : Int) - x3_00) : Int).toNat zeroPo)) _) rfl (by show some x3_00 = some ((((((((y3_01).take ((0 + x3_00) : Int).toNat ++ List.replicate ((((allN A.b).length : Int) - x3_00) : Int).toNat zeroPo)).take (x3_00 : Int).toNat)).length : Nat)) : Int); rw [List.length_take]; refine congrArg some ?_; first | omega | (simp only [List.length_append, List.length_cons, List.length_nil, List.length_set, List.length_take, List.length_replicate]; omega)) rfl
   ·have he4 : q4 = 1 := he4
    subst he4
    try simp only []
    refine wLp (x := (.exit 0)) rfl hr4 pU_L0_R [] (fun _ => rfl) (by kernel_rfl) (fun _ => rfl) (fun _ => ⟨rfl, trivial⟩) (fun _ => rfl) ?_
    exact wRetR (r := ⟨(((allN A.b).take (((allN A.b).length : Int) : Int).toNat) : List Po).flatMap poC.f, 11, (((allN A.b).take (((allN A.b).length : Int) : Int).toNat) : List Po).length⟩) (b := 10) (sz := 11) (o := .int .i64 0) (x := 2) (c' := 3) (y := 1) (ln := 4) ok0 60 60 [1, 2] rfl rfl rfl (by kernel_rfl) rfl (ro_take (C := poC) (allN A.b) _) (ro_in (C := poC) (allN A.b) _) rfl (by show some (((allN A.b).length : Int)) = some ((((((allN A.b).take (((allN A.b).length : Int) : Int).toNat)).length : Nat)) : Int); rw [List.length_take]; refine congrArg some ?_; first | omega | (simp only [List.length_append, List.length_cons, List.length_nil, List.length_set, List.length_take, List.length_replicate]; omega)) rfl
  ·refine wF .leq 2 (J 4) h2 ?_
   exact wRetN (r := ⟨([] : List Po).flatMap poC.f, 11, ([] : List Po).length⟩) ok0 60 60 [1, 2] rfl rfl rfl (by kernel_rfl) rfl
 ·refine wF .geq 2 (J 0) h1 ?_
  exact wRetN (r := ⟨([] : List Po).flatMap poC.f, 11, ([] : List Po).length⟩) ok0 60 60 [1, 2] rfl rfl rfl (by kernel_rfl) rfl
theorem pU_L1_n (A : pU_A) (w : World) (v : Int) : ∀ (n : Nat) (i : Int), (0 ≤ i ∧ i ≤ ((A.b A.reeve).length : Int)) → ((A.b A.reeve).length : Int) - i < n →
  ((∃ k, pU_L1 A w v n i = some (0, k, ())) ∧ ((A.b A.reeve).drop i.toNat).any (paysB (at_ (allN A.b) v)) = true) ∨ (pU_L1 A w v n i = some (1, default, ()) ∧ ((A.b A.reeve).drop i.toNat).any (paysB (at_ (allN A.b) v)) = false) := by
 intro n
 induction n with
 | zero => intros; omega
 | succ n ih =>
  intro i h0 hm
  rw [pU_L1]
  by_cases hi : i < ((A.b A.reeve).length : Int)
  ·rw [if_pos hi, drop_at ⟨h0.1, hi⟩, List.any_cons]
   generalize at_ (A.b A.reeve) i = y
   by_cases p : paysB (at_ (allN A.b) v) y = true
   ·left
    have p' := p
    simp only [paysB, decide_eq_true_eq] at p'
    rw [if_pos p'.1, if_pos p'.2.1, if_pos p'.2.2, p]
    exact ⟨⟨_, rfl⟩, rfl⟩
   ·have p' := p
    simp only [Bool.not_eq_true] at p
    rw [p, Bool.false_or]
    simp only [paysB, decide_eq_true_eq] at p'
    have r := ih (i + 1) (by omega) (by omega)
    by_cases a : y.kind = 4
    ·by_cases b : y.by_.reeve = (at_ (allN A.b) v).reeve
     ·by_cases c : y.by_.number = (at_ (allN A.b) v).number
      ·exact absurd ⟨a, b, c⟩ p'
      ·rw [if_pos a, if_pos b, if_neg c]; exact r
     ·rw [if_pos a, if_neg b]; exact r
    ·rw [if_neg a]; exact r
  ·right
   rw [if_neg hi, drop_end hi]; exact ⟨rfl, rfl⟩
theorem pU_L2_n (A : pU_A) (w : World) (v : Int) : ∀ (n : Nat) (i : Int), (0 ≤ i ∧ i ≤ ((A.b A.reeve).length : Int)) → ((A.b A.reeve).length : Int) - i < n →
  ((∃ k, pU_L2 A w v n i = some (0, k, ())) ∧ ((A.b A.reeve).drop i.toNat).any (paysB (at_ (allN A.b) v)) = true) ∨ (pU_L2 A w v n i = some (1, default, ()) ∧ ((A.b A.reeve).drop i.toNat).any (paysB (at_ (allN A.b) v)) = false) := by
 intro n
 induction n with
 | zero => intros; omega
 | succ n ih =>
  intro i h0 hm
  rw [pU_L2]
  by_cases hi : i < ((A.b A.reeve).length : Int)
  ·rw [if_pos hi, drop_at ⟨h0.1, hi⟩, List.any_cons]
   generalize at_ (A.b A.reeve) i = y
   by_cases p : paysB (at_ (allN A.b) v) y = true
   ·left
    have p' := p
    simp only [paysB, decide_eq_true_eq] at p'
    rw [if_pos p'.1, if_pos p'.2.1, if_pos p'.2.2, p]
    exact ⟨⟨_, rfl⟩, rfl⟩
   ·have p' := p
    simp only [Bool.not_eq_true] at p
    rw [p, Bool.false_or]
    simp only [paysB, decide_eq_true_eq] at p'
    have r := ih (i + 1) (by omega) (by omega)
    by_cases a : y.kind = 4
    ·by_cases b : y.by_.reeve = (at_ (allN A.b) v).reeve
     ·by_cases c : y.by_.number = (at_ (allN A.b) v).number
      ·exact absurd ⟨a, b, c⟩ p'
      ·rw [if_pos a, if_pos b, if_neg c]; exact r
     ·rw [if_pos a, if_neg b]; exact r
    ·rw [if_neg a]; exact r
  ·right
   rw [if_neg hi, drop_end hi]; exact ⟨rfl, rfl⟩
theorem pU_L4_n (A : pU_A) (w : World) (z u v : Int) (Y : List Po) : ∀ (n : Nat) (i : Int), (0 ≤ i ∧ i ≤ ((A.b A.reeve).length : Int)) → ((A.b A.reeve).length : Int) - i < n →
  ((∃ k, pU_L4 A w z u v Y n i = some (0, k, ())) ∧ ((A.b A.reeve).drop i.toNat).any (paysB (at_ Y v)) = true) ∨ (pU_L4 A w z u v Y n i = some (1, default, ()) ∧ ((A.b A.reeve).drop i.toNat).any (paysB (at_ Y v)) = false) := by
 intro n
 induction n with
 | zero => intros; omega
 | succ n ih =>
  intro i h0 hm
  rw [pU_L4]
  by_cases hi : i < ((A.b A.reeve).length : Int)
  ·rw [if_pos hi, drop_at ⟨h0.1, hi⟩, List.any_cons]
   generalize at_ (A.b A.reeve) i = y
   by_cases p : paysB (at_ Y v) y = true
   ·left
    have p' := p
    simp only [paysB, decide_eq_true_eq] at p'
    rw [if_pos p'.1, if_pos p'.2.1, if_pos p'.2.2, p]
    exact ⟨⟨_, rfl⟩, rfl⟩
   ·have p' := p
    simp only [Bool.not_eq_true] at p
    rw [p, Bool.false_or]
    simp only [paysB, decide_eq_true_eq] at p'
    have r := ih (i + 1) (by omega) (by omega)
    by_cases a : y.kind = 4
    ·by_cases b : y.by_.reeve = (at_ Y v).reeve
     ·by_cases c : y.by_.number = (at_ Y v).number
      ·exact absurd ⟨a, b, c⟩ p'
      ·rw [if_pos a, if_pos b, if_neg c]; exact r
     ·rw [if_pos a, if_neg b]; exact r
    ·rw [if_neg a]; exact r
  ·right
   rw [if_neg hi, drop_end hi]; exact ⟨rfl, rfl⟩
theorem pU_L5_n (A : pU_A) (w : World) (z u v : Int) (Y : List Po) : ∀ (n : Nat) (i : Int), (0 ≤ i ∧ i ≤ ((A.b A.reeve).length : Int)) → ((A.b A.reeve).length : Int) - i < n →
  ((∃ k, pU_L5 A w z u v Y n i = some (0, k, ())) ∧ ((A.b A.reeve).drop i.toNat).any (paysB (at_ Y v)) = true) ∨ (pU_L5 A w z u v Y n i = some (1, default, ()) ∧ ((A.b A.reeve).drop i.toNat).any (paysB (at_ Y v)) = false) := by
 intro n
 induction n with
 | zero => intros; omega
 | succ n ih =>
  intro i h0 hm
  rw [pU_L5]
  by_cases hi : i < ((A.b A.reeve).length : Int)
  ·rw [if_pos hi, drop_at ⟨h0.1, hi⟩, List.any_cons]
   generalize at_ (A.b A.reeve) i = y
   by_cases p : paysB (at_ Y v) y = true
   ·left
    have p' := p
    simp only [paysB, decide_eq_true_eq] at p'
    rw [if_pos p'.1, if_pos p'.2.1, if_pos p'.2.2, p]
    exact ⟨⟨_, rfl⟩, rfl⟩
   ·have p' := p
    simp only [Bool.not_eq_true] at p
    rw [p, Bool.false_or]
    simp only [paysB, decide_eq_true_eq] at p'
    have r := ih (i + 1) (by omega) (by omega)
    by_cases a : y.kind = 4
    ·by_cases b : y.by_.reeve = (at_ Y v).reeve
     ·by_cases c : y.by_.number = (at_ Y v).number
      ·exact absurd ⟨a, b, c⟩ p'
      ·rw [if_pos a, if_pos b, if_neg c]; exact r
     ·rw [if_pos a, if_neg b]; exact r
    ·rw [if_neg a]; exact r
  ·right
   rw [if_neg hi, drop_end hi]; exact ⟨rfl, rfl⟩
theorem keep_t {L : Int → List Po} {r : Int} {x : Po} (h : keepP L r x = true) : x.kind = 3 ∧ x.of.reeve = r ∧ chargeB L x.of = true ∧ (chargeP L x.of).owner = x.owner ∧ (L r).any (paysB x) = false := by
 simp only [keepP, Bool.and_eq_true, decide_eq_true_eq, Bool.not_eq_true'] at h
 exact ⟨h.1.1, h.1.2.1, h.1.2.2.1, h.1.2.2.2, h.2⟩
theorem keep_i {L : Int → List Po} {r : Int} {x : Po} (h1 : x.kind = 3) (h2 : x.of.reeve = r) (h3 : chargeB L x.of = true) (h4 : (chargeP L x.of).owner = x.owner) (h5 : (L r).any (paysB x) = false) : keepP L r x = true := by
 simp only [keepP, Bool.and_eq_true, decide_eq_true_eq, Bool.not_eq_true']
 exact ⟨⟨h1, h2, h3, h4⟩, h5⟩
theorem pU_L0_n (A : pU_A) (w : World) : ∀ (n : Nat) (i : Int), (0 ≤ i ∧ i ≤ ((allN A.b).length : Int)) → ((allN A.b).length : Int) - i < n → ((allN A.b).take i.toNat).filter (keepP A.b A.reeve) = (allN A.b).take i.toNat →
  (∃ k : Int, pU_L0 A w n i = some (0, k, ()) ∧ (0 ≤ k ∧ k < ((allN A.b).length : Int)) ∧ ((allN A.b).take k.toNat).filter (keepP A.b A.reeve) = (allN A.b).take k.toNat ∧ keepP A.b A.reeve (at_ (allN A.b) k) = false) ∨ (pU_L0 A w n i = some (1, default, ()) ∧ (allN A.b).filter (keepP A.b A.reeve) = allN A.b) := by
 intro n
 induction n with
 | zero => intros; omega
 | succ n ih =>
  intro i h0 hm hf
  rw [pU_L0]
  by_cases hi : i < ((allN A.b).length : Int)
  ·rw [if_pos hi]
   have e1 := pU_L1_n A w i (((((A.b A.reeve).length : Int) - 0) : Int).toNat + 1) 0 (by omega) (by omega)
   have e2 := pU_L2_n A w i (((((A.b A.reeve).length : Int) - 0) : Int).toNat + 1) 0 (by omega) (by omega)
   have hd : (A.b A.reeve).drop (0 : Int).toNat = A.b A.reeve := rfl
   rw [hd] at e1 e2
   by_cases hk : keepP A.b A.reeve (at_ (allN A.b) i) = true
   ·obtain ⟨k1, k2, k3, k4, k5⟩ := keep_t hk
    rcases e1 with ⟨_, e1⟩ | ⟨e1, _⟩
    ·rw [e1] at k5; cases k5
    rw [if_pos k3, e1]
    simp only [if_pos k1, if_pos k2, if_pos k4]
    refine ih (i + 1) (by omega) (by omega) ?_
    rw [take_succ ⟨h0.1, hi⟩, List.filter_append, hf]
    simp [hk]
   ·left
    simp only [Bool.not_eq_true] at hk
    refine ⟨i, ?_, ⟨h0.1, hi⟩, hf, hk⟩
    have no : ∀ (h1 : (at_ (allN A.b) i).kind = 3) (h2 : (at_ (allN A.b) i).of.reeve = A.reeve) (h3 : chargeB A.b (at_ (allN A.b) i).of = true) (h4 : (chargeP A.b (at_ (allN A.b) i).of).owner = (at_ (allN A.b) i).owner) (h5 : (A.b A.reeve).any (paysB (at_ (allN A.b) i)) = false), False := fun h1 h2 h3 h4 h5 => by
     rw [keep_i h1 h2 h3 h4 h5] at hk; cases hk
    generalize at_ (allN A.b) i = x at *
    by_cases c3 : chargeB A.b x.of = true
    ·rw [if_pos c3]
     rcases e1 with ⟨⟨q, e1⟩, _⟩ | ⟨e1, g1⟩
     ·rw [e1]
      by_cases c1 : x.kind = 3 <;> by_cases c2 : x.of.reeve = A.reeve <;> by_cases c4 : (chargeP A.b x.of).owner = x.owner <;> simp only [c1, c2, c4, if_true, if_false]
     ·rw [e1]
      by_cases c1 : x.kind = 3 <;> by_cases c2 : x.of.reeve = A.reeve <;> by_cases c4 : (chargeP A.b x.of).owner = x.owner <;> first | (exact (no c1 c2 c3 c4 g1).elim) | simp only [c1, c2, c4, if_true, if_false]
    ·rw [if_neg c3]
     rcases e2 with ⟨⟨q, e2⟩, _⟩ | ⟨e2, g1⟩ <;> rw [e2] <;> by_cases c1 : x.kind = 3 <;> by_cases c2 : x.of.reeve = A.reeve <;> simp only [c1, c2, if_true, if_false]
  ·right
   rw [if_neg hi]
   refine ⟨rfl, ?_⟩
   rw [List.take_of_length_le (by omega)] at hf
   exact hf
theorem at_drop {X Y : List Po} {j : Int} (h0 : 0 ≤ j) (h : Y.drop j.toNat = X.drop j.toNat) : at_ Y j = at_ X j := by
 unfold at_
 rw [List.getD_eq_getElem?_getD, List.getD_eq_getElem?_getD]
 have e : ∀ l : List Po, l[j.toNat]? = (l.drop j.toNat)[0]? := fun l => by rw [List.getElem?_drop]; simp
 rw [e, e, h]
theorem pU_L3_n (A : pU_A) (w : World) (z : Int) : ∀ (n : Nat) (i j : Int) (Y : List Po), (0 ≤ i ∧ i < j ∧ j ≤ ((allN A.b).length : Int)) → ((allN A.b).length : Int) - j < n → Y.length = (allN A.b).length → Y.drop j.toNat = (allN A.b).drop j.toNat → Y.take i.toNat = ((allN A.b).take j.toNat).filter (keepP A.b A.reeve) →
  ∃ (k : Int) (Z : List Po), pU_L3 A w z n i j Y = some (0, k, Z, ()) ∧ (0 ≤ k ∧ k ≤ (Z.length : Int)) ∧ Z.take k.toNat = (allN A.b).filter (keepP A.b A.reeve) := by
 intro n
 induction n with
 | zero => intros; omega
 | succ n ih =>
  intro i j Y h0 hm hl hd hf
  rw [pU_L3]
  by_cases hj : j < ((allN A.b).length : Int)
  ·rw [if_pos hj]
   have e1 := pU_L4_n A w z i j Y (((((A.b A.reeve).length : Int) - 0) : Int).toNat + 1) 0 (by omega) (by omega)
   have e2 := pU_L5_n A w z i j Y (((((A.b A.reeve).length : Int) - 0) : Int).toNat + 1) 0 (by omega) (by omega)
   have hdd : (A.b A.reeve).drop (0 : Int).toNat = A.b A.reeve := rfl
   rw [hdd] at e1 e2
   have hx : at_ Y j = at_ (allN A.b) j := at_drop (by omega) hd
   have hd1 : Y.drop (j + 1).toNat = (allN A.b).drop (j + 1).toNat := by
    have h1 : (j + 1).toNat = j.toNat + 1 := by omega
    rw [h1, ← List.drop_drop, ← List.drop_drop, hd]
   have hs := take_succ (l := allN A.b) (i := j) ⟨by omega, hj⟩
   by_cases hk : keepP A.b A.reeve (at_ Y j) = true
   ·obtain ⟨k1, k2, k3, k4, k5⟩ := keep_t hk
    rcases e1 with ⟨_, e1⟩ | ⟨e1, _⟩
    ·rw [e1] at k5; cases k5
    rw [if_pos k3, e1]
    simp only [if_pos k1, if_pos k2, if_pos k4]
    refine ih (i + 1) (j + 1) _ (by omega) (by omega) (by rw [List.length_set]; exact hl) ?_ ?_
    ·rw [List.drop_set_of_lt (by omega)]; exact hd1
    ·rw [hs, List.filter_append, ← hf, ← hx, List.filter_cons, if_pos hk, List.filter_nil]
     have h1 : (i + 1).toNat = i.toNat + 1 := by omega
     rw [h1, List.take_add_one, List.take_set_of_le (Nat.le_refl _), List.getElem?_set_self (by omega)]
     rfl
   ·have go : pU_L3 A w z n i (j + 1) Y = pU_L3 A w z n i (j + 1) Y := rfl
    obtain ⟨k, Z, g1, g2⟩ := ih i (j + 1) Y (by omega) (by omega) hl hd1 (by
     rw [hs, List.filter_append, ← hf, ← hx, List.filter_cons, if_neg hk, List.filter_nil, List.append_nil])
    refine ⟨k, Z, ?_, g2⟩
    rw [← g1]
    simp only [Bool.not_eq_true] at hk
    have no : ∀ (h1 : (at_ Y j).kind = 3) (h2 : (at_ Y j).of.reeve = A.reeve) (h3 : chargeB A.b (at_ Y j).of = true) (h4 : (chargeP A.b (at_ Y j).of).owner = (at_ Y j).owner) (h5 : (A.b A.reeve).any (paysB (at_ Y j)) = false), False := fun h1 h2 h3 h4 h5 => by
     rw [keep_i h1 h2 h3 h4 h5] at hk; cases hk
    clear hx hs hd hd1 hf ih g1 go
    generalize at_ Y j = x at *
    by_cases c3 : chargeB A.b x.of = true
    ·rw [if_pos c3]
     rcases e1 with ⟨⟨q, e1⟩, _⟩ | ⟨e1, g1⟩
     ·rw [e1]
      by_cases c1 : x.kind = 3 <;> by_cases c2 : x.of.reeve = A.reeve <;> by_cases c4 : (chargeP A.b x.of).owner = x.owner <;> simp only [c1, c2, c4, if_true, if_false]
     ·rw [e1]
      by_cases c1 : x.kind = 3 <;> by_cases c2 : x.of.reeve = A.reeve <;> by_cases c4 : (chargeP A.b x.of).owner = x.owner <;> first | (exact (no c1 c2 c3 c4 g1).elim) | simp only [c1, c2, c4, if_true, if_false]
    ·rw [if_neg c3]
     rcases e2 with ⟨⟨q, e2⟩, _⟩ | ⟨e2, g1⟩ <;> rw [e2] <;> by_cases c1 : x.kind = 3 <;> by_cases c2 : x.of.reeve = A.reeve <;> simp only [c1, c2, if_true, if_false]
  ·rw [if_neg hj]
   refine ⟨i, Y, rfl, ⟨h0.1, by omega⟩, ?_⟩
   rw [hf, List.take_of_length_le (by omega)]
theorem pU_r_n (A : pU_A) (w : World) {L : Int → List Po} {r : Int} (hL : A.b = L) (hr : A.reeve = r) : pU_r A w = unsetN L r := by
 subst hL hr
 unfold pU_r unsetN
 by_cases h1 : 0 ≤ A.reeve
 case neg => rw [if_neg h1, if_neg (fun h => h1 h.1)]
 by_cases h2 : A.reeve ≤ 4
 case neg => rw [if_pos h1, if_neg h2, if_neg (fun h => h2 h.2)]
 rw [if_pos h1, if_pos h2, if_pos ⟨h1, h2⟩]
 rcases pU_L0_n A w (((((allN A.b).length : Int) - 0) : Int).toNat + 1) 0 (by omega) (by omega) (by rfl) with ⟨k, e, hk, hf, hn⟩ | ⟨e, hf⟩
 ·rw [e]
  obtain ⟨i, Z, g1, g2, g3⟩ := pU_L3_n A w k (((((allN A.b).length : Int) - (k + 1)) : Int).toNat + 1) k (k + 1) (allN A.b) (by omega) (by omega) rfl rfl (by
   rw [take_succ hk, List.filter_append, hf, List.filter_cons, if_neg (by rw [hn]; decide), List.filter_nil, List.append_nil])
  simp only [g1]
  rw [← g3]
  have h0 : (0 + i).toNat = i.toNat := by omega
  rw [h0, List.take_append_of_le_length (by rw [List.length_take]; omega), List.take_take, Nat.min_self]
 ·rw [e, hf]
  show (allN A.b).take ((allN A.b).length : Int).toNat = _
  rw [List.take_of_length_le (by omega)]
theorem pUnsetB_n {B O : Nat} {b0 b1 b2 b3 b4 : List Po} {w : World} (H : BkL poC w B O [b0, b1, b2, b3, b4]) (h : (b0.length : Int) ≤ 1000 ∧ (b1.length : Int) ≤ 1000 ∧ (b2.length : Int) ≤ 1000 ∧ (b3.length : Int) ≤ 1000 ∧ (b4.length : Int) ≤ 1000) (r : Int) : Calls Tryz.prog 105 #[.pointer (some ⟨B, O, none⟩), .int .i64 r] w fun e w' => ∃ z : Value, e = .returned z ∧ FrR1 w.heap.size w' ⟨(unsetN (row5 b0 b1 b2 b3 b4) r : List Po).flatMap poC.f, 11, (unsetN (row5 b0 b1 b2 b3 b4) r : List Po).length⟩ z ∧ Chg (fun _ => False) w w' := by
 obtain ⟨a, bb, oo, κ, H⟩ := H.fn
 have hl : LenR (row5 b0 b1 b2 b3 b4) := by
  intro i hi
  have : i = 0 ∨ i = 1 ∨ i = 2 ∨ i = 3 ∨ i = 4 := by omega
  obtain ⟨h0, h1, h2, h3, h4⟩ := h
  rcases this with rfl | rfl | rfl | rfl | rfl
  ·exact h0
  ·exact h1
  ·exact h2
  ·exact h3
  ·exact h4
 have := pU_any ⟨B, O, a, bb, oo, κ, row5 b0 b1 b2 b3 b4, r⟩ w H hl
 rw [pU_r_n _ w rfl rfl] at this
 exact this
end Go.Proofs.YtocabeobfbhajaaGreatDoor.Sx
end
