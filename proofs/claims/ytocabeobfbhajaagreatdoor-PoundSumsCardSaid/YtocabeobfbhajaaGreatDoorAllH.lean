/- The plain law of PoundSums: balances add up to 0; what is owed. -/
import Derived.Test.YtocabeobfbhajaaGreatDoorAllE
import Derived.Test.YtocabeobfbhajaaGreatDoorAllF
import Derived.Test.YtocabeobfbhajaaGreatDoorImp
section
set_option linter.unusedVariables false
namespace Go.Proofs.YtocabeobfbhajaaGreatDoor.Sx
open Go Go.Proofs.YtocabeobfbhajaaGreatDoor
theorem wrap64 {x : Int} (h : -9223372036854775808 ≤ x ∧ x ≤ 9223372036854775807) : IntKind.wrap .i64 x = x := by
 exact wrap_id h
theorem okF_all {n : Int} {l : List Po} : ∀ {k : Nat} {i : Int}, okF n l k i = true → ∀ j : Int, i ≤ j → j < i + k → stepN n l j = 0
 | 0, _, _, j, h1, h2 => by omega
 | k + 1, i, h, j, h1, h2 => by
  simp only [okF, Bool.and_eq_true, decide_eq_true_eq] at h
  by_cases e : j = i
  ·subst e; exact h.1
  ·exact okF_all h.2 j (by omega) (by omega)
theorem roll_many {n : Int} {l : List Po} (h : (rollN n l).2 = 0) : n = 3 ∨ n = 5 := by
 unfold rollN at h
 by_cases g : n = 3 ∨ n = 5
 ·exact g
 ·rw [if_neg g] at h; exact absurd h (by decide)
theorem roll_steps {n : Int} {l : List Po} (h : (rollN n l).2 = 0) (j : Int) (h1 : 0 ≤ j ∧ j < (l.length : Int)) : stepN n l j = 0 := by
 have hn := roll_many h
 unfold rollN at h
 rw [if_pos hn] at h
 cases hk : okF n l l.length 0
 ·exact absurd h (rollF_bad hk)
 ·exact okF_all hk j h1.1 (by omega)
theorem mem_at {α : Type} [Inhabited α] {l : List α} {x : α} (h : x ∈ l) : ∃ j : Int, (0 ≤ j ∧ j < (l.length : Int)) ∧ at_ l j = x := by
 obtain ⟨i, hi, e⟩ := List.mem_iff_getElem.mp h
 exact ⟨(i : Int), by omega, by rw [at_nat hi, e]⟩
theorem roll_formed {n : Int} {l : List Po} (h : (rollN n l).2 = 0) {x : Po} (hx : x ∈ l) : checkN n x = 0 := by
 obtain ⟨j, hj, e⟩ := mem_at hx
 rw [← e]
 exact (reeve_of (roll_steps h j hj)).1
def effN (a : Int) (p : Po) : Int := (if debitN p = a then p.amount else 0) - (if creditN p = a then p.amount else 0)
def cumN (m : Int) (p : Po) : Int := (if debitN p < m then p.amount else 0) - (if creditN p < m then p.amount else 0)
def takeN (p : Po) : Int := (if p.kind = 3 then p.amount else 0) - (if p.kind = 4 ∧ p.by_.number > 0 then p.amount else 0)
theorem e2 {a b : Bool} (h : (a && b) = true) : b = true := by revert a b; decide
theorem e1 {a b : Bool} (h : (a && b) = true) : a = true := by revert a b; decide
theorem formBy {n : Int} {p : Po} (h : checkN n p = 0) : p.kind = 4 → (p.by_.reeve = 0 ∧ p.by_.number = 0) ∨ 1 ≤ p.by_.number := by
 intro h4
 unfold checkN at h
 by_cases hf : formedB n p = true
 case neg => rw [if_neg hf] at h; cases h
 replace h := hf
 unfold formedB at h
 have h7 := e2 h
 unfold YtocabeobfbhajaaGreatDoor.bodyB at h7
 rw [if_neg (by omega), if_neg (by omega), if_pos h4] at h7
 have h8 := e2 h7
 simp only [Bool.or_eq_true] at h8
 rcases h8 with h8 | h8
 ·left
  have : p.by_ = zeroRf := by simpa using h8
  rw [this]; exact ⟨rfl, rfl⟩
 ·right
  have h9 := e1 h8
  unfold isRefB inB at h9
  have h10 := e1 (e2 h9)
  simpa using h10
theorem sides {n : Int} {p : Po} (h : checkN n p = 0) : (0 ≤ debitN p ∧ debitN p ≤ 200) ∧ (0 ≤ creditN p ∧ creditN p ≤ 200) ∧ amountN p = p.amount ∧ (1 ≤ p.amount ∧ p.amount ≤ 1000000) ∧ effN 200 p = - takeN p := by
 have hb := formBy h
 obtain ⟨h1, h2, h2', h3, h3', h4, h4', h5, h5', h6, h6', h7, h7', h8⟩ := formN h
 have hw : IntKind.wrap .i64 (100 + p.reeve) = 100 + p.reeve := wrap64 (by omega)
 unfold effN takeN debitN creditN amountN
 rw [hw]
 have hk : p.kind = 1 ∨ p.kind = 2 ∨ p.kind = 3 ∨ p.kind = 4 ∨ p.kind = 5 := by omega
 by_cases hz : p.by_.reeve = 0 ∧ p.by_.number = 0
 ·rcases hk with hk | hk | hk | hk | hk <;> simp [hk, hz] <;> omega
 ·rcases hk with hk | hk | hk | hk | hk <;> simp [hk, hz] at hb ⊢ <;> (repeat' split) <;> omega
theorem eff_le {n : Int} {p : Po} (h : checkN n p = 0) (a : Int) : -1000000 ≤ effN a p ∧ effN a p ≤ 1000000 := by
 obtain ⟨_, _, _, h1, _⟩ := sides h
 unfold effN
 repeat' split
 all_goals omega
theorem cum_le {n : Int} {p : Po} (h : checkN n p = 0) (a : Int) : -1000000 ≤ cumN a p ∧ cumN a p ≤ 1000000 := by
 obtain ⟨_, _, _, h1, _⟩ := sides h
 unfold cumN
 repeat' split
 all_goals omega
theorem cum_succ (p : Po) (a : Int) : cumN (a + 1) p = cumN a p + effN a p := by
 unfold cumN effN
 repeat' split
 all_goals omega
theorem cum_0 {n : Int} {p : Po} (h : checkN n p = 0) : cumN 0 p = 0 := by
 obtain ⟨h1, h2, _⟩ := sides h
 unfold cumN
 rw [if_neg (by omega), if_neg (by omega)]; rfl
theorem cum_201 {n : Int} {p : Po} (h : checkN n p = 0) : cumN 201 p = 0 := by
 obtain ⟨h1, h2, _⟩ := sides h
 unfold cumN
 rw [if_pos (by omega), if_pos (by omega)]; omega
def sumN (f : Po → Int) (l : List Po) : Int := l.foldr (fun p s => f p + s) 0
theorem sum_le {l : List Po} {f : Po → Int} (h : ∀ x ∈ l, -1000000 ≤ f x ∧ f x ≤ 1000000) : -1000000 * (l.length : Int) ≤ sumN f l ∧ sumN f l ≤ 1000000 * (l.length : Int) := by
 induction l with
 | nil => exact ⟨by simp [sumN], by simp [sumN]⟩
 | cons x l ih =>
  have h1 := ih (fun y hy => h y (List.mem_cons_of_mem _ hy))
  have h2 := h x (List.mem_cons_self ..)
  simp only [sumN, List.foldr_cons, List.length_cons] at h1 ⊢
  omega
theorem sum_add {l : List Po} {f g k : Po → Int} (h : ∀ x ∈ l, k x = f x + g x) : sumN k l = sumN f l + sumN g l := by
 induction l with
 | nil => rfl
 | cons x l ih =>
  have h1 := ih (fun y hy => h y (List.mem_cons_of_mem _ hy))
  have h2 := h x (List.mem_cons_self ..)
  simp only [sumN, List.foldr_cons] at h1 ⊢
  omega
theorem sum_0 {l : List Po} {f : Po → Int} (h : ∀ x ∈ l, f x = 0) : sumN f l = 0 := by
 induction l with
 | nil => rfl
 | cons x l ih =>
  have h1 := ih (fun y hy => h y (List.mem_cons_of_mem _ hy))
  have h2 := h x (List.mem_cons_self ..)
  simp only [sumN, List.foldr_cons] at h1 ⊢
  omega
theorem bal_sum {n : Int} {a : Int} {l : List Po} (hf : ∀ x ∈ l, checkN n x = 0) : ∀ s : Int, -1000000000000 + 1000000 * (l.length : Int) ≤ s ∧ s ≤ 1000000000000 - 1000000 * (l.length : Int) → l.foldl (balF a) s = s + sumN (effN a) l := by
 induction l with
 | nil => intro s h; simp [sumN]
 | cons x l ih =>
  intro s h
  have hx := hf x (List.mem_cons_self ..)
  obtain ⟨_, _, h1, h2, _⟩ := sides hx
  have e : balF a s x = s + effN a x := by
   simp only [List.length_cons] at h
   unfold balF effN
   rw [h1]
   by_cases d : debitN x = a <;> by_cases c : creditN x = a <;> simp only [d, c, if_true, if_false]
   ·rw [wrap64 (x := s + x.amount) (by omega), wrap64 (by omega)]; omega
   ·rw [wrap64 (by omega)]; omega
   ·rw [wrap64 (by omega)]; omega
   ·omega
  have h3 := eff_le hx a
  simp only [List.length_cons] at h
  rw [List.foldl_cons, e, ih (fun y hy => hf y (List.mem_cons_of_mem _ hy)) _ (by omega)]
  simp only [sumN, List.foldr_cons]
  omega
theorem balance_sum {n : Int} {l : List Po} (h : (rollN n l).2 = 0) (hl : (l.length : Int) ≤ 40) (a : Int) : balN l a = sumN (effN a) l := by
 have := bal_sum (a := a) (fun x hx => roll_formed h hx) 0 (by omega)
 unfold balN
 omega
theorem eff_far {n : Int} {p : Po} (h : checkN n p = 0) {a : Int} (ha : ¬ isAccN a) : effN a p = 0 := by
 have hb := formBy h
 obtain ⟨h1, h2, h2', h3, h3', h4, h4', h5, h5', h6, h6', h7, h7', h8⟩ := formN h
 have hw : IntKind.wrap .i64 (100 + p.reeve) = 100 + p.reeve := wrap64 (by omega)
 unfold isAccN at ha
 unfold effN debitN creditN
 rw [hw]
 repeat' split
 all_goals omega
theorem balance_all {n : Int} {l : List Po} (h : (rollN n l).2 = 0) (hl : (l.length : Int) ≤ 40) (a : Int) : balanceN n l a = (sumN (effN a) l, 0) := by
 unfold balanceN
 rw [if_pos h]
 by_cases ha : isAccN a
 ·rw [if_pos ha, balance_sum h hl]
 ·rw [if_neg ha, sum_0 (fun x hx => eff_far (roll_formed h hx) ha)]
theorem cum_next {l : List Po} (a : Int) : sumN (cumN (a + 1)) l = sumN (cumN a) l + sumN (effN a) l := sum_add (fun x _ => cum_succ x a)
theorem transit {n : Int} {l : List Po} (h : (rollN n l).2 = 0) (hl : (l.length : Int) ≤ 40) : balanceN n l 200 = (- sumN takeN l, 0) := by
 rw [balance_all h hl]
 have e : sumN (effN 200) l + sumN takeN l = 0 := by
  rw [← sum_add (k := fun p => effN 200 p + takeN p) (fun x _ => rfl)]
  exact sum_0 (fun x hx => by have := (sides (roll_formed h hx)).2.2.2.2; omega)
 rw [show sumN (effN 200) l = - sumN takeN l by omega]
theorem owed_le {n : Int} {c : Po} {l : List Po} (hf : ∀ x ∈ l, checkN n x = 0) : ∀ s : Int, -1000000000000 + 1000000 * (l.length : Int) ≤ s ∧ s ≤ 1000000000000 → l.foldl (owedF c) s ≤ s := by
 induction l with
 | nil => intro s h; exact Int.le_refl _
 | cons x l ih =>
  intro s h
  have hx := hf x (List.mem_cons_self ..)
  obtain ⟨_, _, _, h2, _⟩ := sides hx
  simp only [List.length_cons] at h
  have e : owedF c s x ≤ s ∧ s - 1000000 ≤ owedF c s x := by
   unfold owedF
   split
   ·rw [wrap64 (by omega)]; omega
   ·omega
  have := ih (fun y hy => hf y (List.mem_cons_of_mem _ hy)) (owedF c s x) (by omega)
  rw [List.foldl_cons]
  omega
theorem book_at {l : List Po} {i : Int} (h : 0 ≤ i ∧ i < (l.length : Int)) : ∃ r, bookN l l.length (at_ l i).reeve = bookN l i (at_ l i).reeve ++ at_ l i :: r := by
 have h1 : i.toNat < l.length := by omega
 have e : l = l.take i.toNat ++ at_ l i :: l.drop (i + 1).toNat := by
  rw [← drop_at h, List.take_append_drop]
 refine ⟨(l.drop (i + 1).toNat).filter fun x => decide (x.reeve = (at_ l i).reeve), ?_⟩
 generalize hj : (at_ l i).reeve = j
 unfold bookN
 rw [show ((l.length : Int)).toNat = l.length by omega, List.take_length]
 conv => lhs; rw [e]
 rw [List.filter_append, List.filter_cons]
 simp [hj]
theorem owed_ok {n : Int} {l : List Po} (h : (rollN n l).2 = 0) (hl : (l.length : Int) ≤ 40) {i : Int} (hi : 0 ≤ i ∧ i < (l.length : Int)) (hc : (at_ l i).kind = 1 ∨ (at_ l i).kind = 2) : (owedTN n l ⟨(at_ l i).reeve, (at_ l i).number⟩).2 = 0 ∧ 0 ≤ (owedTN n l ⟨(at_ l i).reeve, (at_ l i).number⟩).1 ∧ (owedTN n l ⟨(at_ l i).reeve, (at_ l i).number⟩).1 ≤ (at_ l i).amount := by
 have hs := roll_steps h i hi
 obtain ⟨hck, hn2, hr1, hr2⟩ := reeve_of hs
 obtain ⟨r, hr⟩ := book_at hi
 have hnum : (at_ l i).number = ((bookN l i (at_ l i).reeve).length : Int) + 1 := by
  unfold stepN at hs
  rw [if_pos hck] at hs
  split at hs
  ·exact absurd hs (by decide)
  ·unfold followsN at hs
   split at hs
   ·rename_i g; exact g
   ·exact absurd hs (by decide)
 have hb : booksN n l (at_ l i).reeve = bookN l i (at_ l i).reeve ++ at_ l i :: r := by
  unfold booksN endN
  rw [if_pos hn2, if_pos h, hr]
 have hat : at_ (booksN n l (at_ l i).reeve) ((at_ l i).number - 1) = at_ l i := by
  rw [hb, hnum]
  generalize bookN l i (at_ l i).reeve = q
  generalize at_ l i = z
  unfold at_
  rw [show (((q.length : Int) + 1 - 1).toNat) = q.length by omega]
  simp [List.getD_eq_getElem?_getD]
 have hlen : (at_ l i).number ≤ ((booksN n l (at_ l i).reeve).length : Int) := by
  rw [hb, hnum, List.length_append, List.length_cons]; omega
 have h01 : 1 ≤ (at_ l i).number := by omega
 have hform : ∀ x ∈ booksN n l (at_ l i).reeve, checkN n x = 0 := by
  intro x hx
  refine roll_formed h ?_
  rw [hb, ← hr] at hx
  unfold bookN at hx
  exact List.mem_of_mem_take (List.mem_filter.mp hx).1
 have hlb : ((booksN n l (at_ l i).reeve).length : Int) ≤ 40 := by have := books_le n l (at_ l i).reeve; omega
 have ham := (sides hck).2.2.2.1
 have e : owedTN n l ⟨(at_ l i).reeve, (at_ l i).number⟩ = (owedN (booksN n l (at_ l i).reeve) (at_ l i), 0) := by
  unfold owedTN
  rw [if_pos h, if_pos ⟨hr1, (by omega : (at_ l i).reeve ≤ 4), h01, hlen, by rw [hat]; exact hc⟩, hat]
 rw [e]
 refine ⟨rfl, owedN_nn _ _, ?_⟩
 have := owed_le (c := at_ l i) hform (at_ l i).amount (by omega)
 unfold owedN
 show max _ 0 ≤ _
 omega
end Go.Proofs.YtocabeobfbhajaaGreatDoor.Sx
end
section
set_option linter.unusedVariables false
set_option linter.unusedSimpArgs false
set_option maxRecDepth 100000
set_option maxHeartbeats 0
namespace Go.Proofs.YtocabeobfbhajaaGreatDoor.Sx
open Go Go.Proofs Go.Proofs.YtocabeobfbhajaaGreatDoor Go.Proofs.YtocabeobfbhajaaGreatDoor.Sx
structure pS_A where
 n : Int
 a_l : Option Addr
 b_l : Nat
 o_l : Nat
 κ_l : Nat
 l : List Po
def pS_h0  (A : pS_A) (w : World) : Prop := LstAt poC w A.a_l A.b_l A.o_l A.l ∧ (((A.l.length : Nat) : Int) ≤ ((A.κ_l : Nat) : Int)) ∧ (KindR A.l) ∧ (RefR A.l) ∧ (-9223372036854775808 ≤ A.n ∧ A.n ≤ 9223372036854775807) ∧ (¬ (40 < ((A.l.length : Nat) : Int))) ∧ (((rollN A.n A.l).2) = 0)
def pS_s0  (A : pS_A) (w : World) (R : List Value) : List Value := (.agg #[] :: .int .i64 A.n :: .slice A.a_l A.l.length A.κ_l :: .int .i64 ((A.l.length : Nat) : Int) :: .int .i64 ((rollN A.n A.l).1) :: .int .i64 ((rollN A.n A.l).2) :: R)
def pS_t0 : List QE := [⟨6000000000 + 38, [.sym 2], .sym 3⟩, ⟨tagB .gtr, [.sym 3, .int .i64 40], .bool false⟩, ⟨tagB .neq, [.sym 5, .int .i64 0], .bool false⟩]
theorem pS_q0  (A : pS_A) (w : World) (H0 : pS_h0 A w) (R : List Value) : QsOK (Gw 8 (syL (pS_s0 A w R)) w) Tryz.prog pS_t0 := by have ⟨H_l, h0, h1, h2, h3, h4, h5⟩ := H0; exact (qsC (q_lenB rfl rfl rfl (by kernel_rfl)) (qsC (q_f .gtr rfl rfl rfl h4) (qsC (q_f .neq rfl rfl rfl (fun h => h h5)) qsN)))
def pS_c0 : List QE := [⟨29, [.tup [.sym 1, .sym 2], .tup []], .tup [(.sym 4), (.sym 5)]⟩]
theorem pS_d0  (A : pS_A) (w : World) (H0 : pS_h0 A w) (R : List Value) : CsOK (Gw 8 (syL (pS_s0 A w R)) w) Tryz.prog pS_c0 := by have ⟨H_l, h0, h1, h2, h3, h4, h5⟩ := H0; exact (csC (q_callT (.val _ _ _ _ _ rfl (.val _ _ _ _ _ rfl .nil)) rfl rfl rfl (fun w xs hw hq => by obtain ⟨_, rfl, _, rfl, rfl⟩ := hq; exact pRoll_n (LstAt.old H_l hw) (by first | omega | (simp only [List.length_take]; omega)) (show (((A.l).length : Nat) : Int) ≤ 1000 by omega) (show -9223372036854775808 ≤ A.n ∧ A.n ≤ 9223372036854775807 by omega))) csN)
def pS_L0_P  (A : pS_A) (w : World) (v00 : Int) (v01 : Int) : List Value := (pS_s0 A w (.int .i64 v00 :: .int .i64 v01 :: []))
def pS_L0_H : Head := (⟨[(0, .sym 1), (1, .sym 2), (4, .bool false), (5, .sym 4), (6, .sym 5), (7, .sym 6), (8, .sym 7), (18, .sym 2), (19, .sym 3), (20, .bool false), (22, .tup [.sym 4, .sym 5]), (23, .sym 1), (24, .sym 2), (25, .tup [.sym 4, .sym 5]), (26, .sym 4), (27, .sym 5), (28, .sym 5), (29, .bool false)], [], 8, 8, 0, 0, 6, 8⟩ : Head)
def pS_L0_R : Rn := ⟨8, [], 0, [], 6, [.int .i64 0, .int .i64 0]⟩
def pS_L0_X0 : Head := (⟨[(0, .sym 1), (1, .sym 2), (4, .bool false), (6, .sym 5), (7, .sym 6), (18, .sym 2), (19, .sym 3), (20, .bool false), (22, .tup [.sym 4, .sym 5]), (23, .sym 1), (24, .sym 2), (25, .tup [.sym 4, .sym 5]), (26, .sym 4), (27, .sym 5), (28, .sym 5), (29, .bool false)], [], 8, 8, 0, 0, 6, 7⟩ : Head)
def pS_L0_X1 : Head := (⟨[(0, .sym 1), (1, .sym 2), (4, .bool false), (6, .sym 5), (7, .sym 6), (18, .sym 2), (19, .sym 3), (20, .bool false), (22, .tup [.sym 4, .sym 5]), (23, .sym 1), (24, .sym 2), (25, .tup [.sym 4, .sym 5]), (26, .sym 4), (27, .sym 5), (28, .sym 5), (29, .bool false)], [], 8, 8, 0, 0, 6, 7⟩ : Head)
theorem pS_L0_0  (A : pS_A) (w : World) (v00 : Int) (v01 : Int) (H0 : pS_h0 A w) (h6 : 0 ≤ v01 ∧ v01 ≤ 201) (h7 : v01 ≤ 200) (h8 : ((balanceN A.n A.l v01).2) = 0) : RndS Tryz.prog 8 5 8 w pS_L0_H pS_L0_H (pS_L0_P A w v00 v01) (pS_L0_P A w ((IntKind.wrap .i64 (v00 + ((balanceN A.n A.l v01).1)))) (v01 + 1)) .normal := by have ⟨H_l, h0, h1, h2, h3, h4, h5⟩ := H0; exact rndS (E := E0) (n0 := 8) (L := (pS_s0 A w (.int .i64 v00 :: .int .i64 v01 :: .int .i64 ((balanceN A.n A.l v01).1) :: .int .i64 ((balanceN A.n A.l v01).2) :: .int .i64 ((IntKind.wrap .i64 (v00 + ((balanceN A.n A.l v01).1)))) :: .int .i64 (v01 + 1) :: []))) (t := (pS_t0 ++ [⟨tagB .leq, [.sym 7, .int .i64 200], .bool true⟩, ⟨tagB .neq, [.sym 9, .int .i64 0], .bool false⟩, ⟨tagB .add, [.sym 6, .sym 8], .sym 10⟩, ⟨tagB .add, [.sym 7, .int .i64 1], .sym 11⟩])) (c := (pS_c0 ++ [⟨30, [.tup [.sym 1, .sym 2, .sym 7], .tup []], .tup [(.sym 8), (.sym 9)]⟩])) 60 60 8 ⟨8, [], 0, [], 6, [.sym 10, .sym 11]⟩ [] ok0 (qsA (pS_q0 A w H0 _) (qsC (q_t .leq rfl rfl rfl h7) (qsC (q_f .neq rfl rfl rfl (fun h => h h8)) (qsC (q_add rfl rfl rfl) (qsC (q_addI rfl rfl rfl (show -9223372036854775808 ≤ (v01 + 1) ∧ (v01 + 1) ≤ 9223372036854775807 by omega)) qsN))))) (csA (pS_d0 A w H0 _) (csC (q_callT (.val _ _ _ _ _ rfl (.val _ _ _ _ _ rfl (.val _ _ _ _ _ rfl .nil))) rfl rfl rfl (fun w xs hw hq => by obtain ⟨_, rfl, _, rfl, _, rfl, rfl⟩ := hq; exact pBalance_n (LstAt.old H_l hw) (by first | omega | (simp only [List.length_take]; omega)) h1 (show (((A.l).length : Nat) : Int) ≤ 1000 by omega) (show -9223372036854775808 ≤ A.n ∧ A.n ≤ 9223372036854775807 by omega) (show -9223372036854775808 ≤ v01 ∧ v01 ≤ 9223372036854775807 by omega))) csN)) cmN lpN ⟨rfl, rfl⟩ (by kernel_rfl) (by kernel_rfl) rfl rfl ⟨rfl, rfl, trivial⟩
theorem pS_L0_1  (A : pS_A) (w : World) (v00 : Int) (v01 : Int) (H0 : pS_h0 A w) (h6 : 0 ≤ v01 ∧ v01 ≤ 201) (h7 : v01 ≤ 200) (h8 : ¬ (((balanceN A.n A.l v01).2) = 0)) : RndS Tryz.prog 8 5 8 w pS_L0_H pS_L0_X0 (pS_L0_P A w v00 v01) (pS_s0 A w (.int .i64 (v00) :: [])) .ret := by have ⟨H_l, h0, h1, h2, h3, h4, h5⟩ := H0; exact rndS (E := E0) (n0 := 8) (L := (pS_s0 A w (.int .i64 v00 :: .int .i64 v01 :: .int .i64 ((balanceN A.n A.l v01).1) :: .int .i64 ((balanceN A.n A.l v01).2) :: []))) (t := (pS_t0 ++ [⟨tagB .leq, [.sym 7, .int .i64 200], .bool true⟩, ⟨tagB .neq, [.sym 9, .int .i64 0], .bool true⟩])) (c := (pS_c0 ++ [⟨30, [.tup [.sym 1, .sym 2, .sym 7], .tup []], .tup [(.sym 8), (.sym 9)]⟩])) 60 60 8 ⟨8, [], 0, [], 6, [.sym 6]⟩ [] ok0 (qsA (pS_q0 A w H0 _) (qsC (q_t .leq rfl rfl rfl h7) (qsC (q_t .neq rfl rfl rfl h8) qsN))) (csA (pS_d0 A w H0 _) (csC (q_callT (.val _ _ _ _ _ rfl (.val _ _ _ _ _ rfl (.val _ _ _ _ _ rfl .nil))) rfl rfl rfl (fun w xs hw hq => by obtain ⟨_, rfl, _, rfl, _, rfl, rfl⟩ := hq; exact pBalance_n (LstAt.old H_l hw) (by first | omega | (simp only [List.length_take]; omega)) h1 (show (((A.l).length : Nat) : Int) ≤ 1000 by omega) (show -9223372036854775808 ≤ A.n ∧ A.n ≤ 9223372036854775807 by omega) (show -9223372036854775808 ≤ v01 ∧ v01 ≤ 9223372036854775807 by omega))) csN)) cmN lpN ⟨rfl, rfl⟩ (by kernel_rfl) (by kernel_rfl) rfl rfl ⟨rfl, trivial⟩
theorem pS_L0_2  (A : pS_A) (w : World) (v00 : Int) (v01 : Int) (H0 : pS_h0 A w) (h6 : 0 ≤ v01 ∧ v01 ≤ 201) (h7 : ¬ (v01 ≤ 200)) : RndS Tryz.prog 8 5 8 w pS_L0_H pS_L0_X1 (pS_L0_P A w v00 v01) (pS_s0 A w (.int .i64 (v00) :: [])) (.exit 0) := by have ⟨H_l, h0, h1, h2, h3, h4, h5⟩ := H0; exact rndS (E := E0) (n0 := 8) (L := (pS_s0 A w (.int .i64 v00 :: .int .i64 v01 :: []))) (t := (pS_t0 ++ [⟨tagB .leq, [.sym 7, .int .i64 200], .bool false⟩])) (c := pS_c0) 60 60 8 ⟨8, [], 0, [], 6, [.sym 6]⟩ [] ok0 (qsA (pS_q0 A w H0 _) (qsC (q_f .leq rfl rfl rfl h7) qsN)) (pS_d0 A w H0 _) cmN lpN ⟨rfl, rfl⟩ (by kernel_rfl) (by kernel_rfl) rfl rfl ⟨rfl, trivial⟩
def pS_L0  (A : pS_A) (w : World) : Nat → Int → Int → Option (Nat × Int × Int × Unit)
 | 0, _, _ => none
 | fu_ + 1, v00, v01 => (if v01 ≤ 200 then (if ((balanceN A.n A.l v01).2) = 0 then pS_L0 A w fu_ ((IntKind.wrap .i64 (v00 + ((balanceN A.n A.l v01).1)))) (v01 + 1) else some (0, v00, default, ())) else some (1, default, v00, ()))
theorem pS_L0_ok  (A : pS_A) (w : World) (H0 : pS_h0 A w) : ∀ (fu_ : Nat) (v00 : Int) (v01 : Int), (0 ≤ v01 ∧ v01 ≤ 201) → ((201 - v01) : Int) < fu_ → ∃ o, pS_L0 A w fu_ v00 v01 = some o ∧ ((o.1 = 0 ∧ True ∧ RdsS Tryz.prog 8 5 8 w pS_L0_H pS_L0_X0 (pS_L0_P A w v00 v01) (pS_s0 A w (.int .i64 o.2.1 :: [])) .ret fu_) ∨ (o.1 = 1 ∧ True ∧ RdsS Tryz.prog 8 5 8 w pS_L0_H pS_L0_X1 (pS_L0_P A w v00 v01) (pS_s0 A w (.int .i64 o.2.2.1 :: [])) (.exit 0) fu_)) := by
 have ⟨H_l, h0, h1, h2, h3, h4, h5⟩ := H0; intro fu_
 induction fu_ with
 | zero => intro v00 v01 _ hm; exfalso; omega
 | succ fu_ ih =>
  intro v00 v01 h6 hm
  rw [pS_L0]
  by_cases h7 : v01 ≤ 200
  ·simp only [if_pos h7]
   by_cases h8 : ((balanceN A.n A.l v01).2) = 0
   ·simp only [if_pos h8]
    obtain ⟨o, g1, g2⟩ := ih ((IntKind.wrap .i64 (v00 + ((balanceN A.n A.l v01).1)))) (v01 + 1) (by first | trivial | omega | (simp only [List.length_append, List.length_cons, List.length_nil, List.length_set]; omega)) (by first | trivial | omega | (simp only [List.length_append, List.length_cons, List.length_nil, List.length_set]; omega))
    refine ⟨o, g1, ?_⟩
    rcases g2 with ⟨ge, gi, gg⟩ | ⟨ge, gi, gg⟩
    ·exact .inl ⟨ge, gi, rndGo (pS_L0_0 A w v00 v01 ⟨H_l, h0, h1, h2, h3, h4, h5⟩ h6 h7 h8) gg⟩
    ·exact .inr (⟨ge, gi, rndGo (pS_L0_0 A w v00 v01 ⟨H_l, h0, h1, h2, h3, h4, h5⟩ h6 h7 h8) gg⟩)
   ·simp only [if_neg h8]
    exact ⟨(0, v00, default, ()), rfl, .inl ⟨rfl, (show True by first | trivial | omega | (simp only [List.length_append, List.length_cons, List.length_nil, List.length_set]; omega)), rndEnd (by intro h; cases h) (pS_L0_1 A w v00 v01 ⟨H_l, h0, h1, h2, h3, h4, h5⟩ h6 h7 h8)⟩⟩
  ·simp only [if_neg h7]
   exact ⟨(1, default, v00, ()), rfl, .inr (⟨rfl, (show True by first | trivial | omega | (simp only [List.length_append, List.length_cons, List.length_nil, List.length_set]; omega)), rndEnd (by intro h; cases h) (pS_L0_2 A w v00 v01 ⟨H_l, h0, h1, h2, h3, h4, h5⟩ h6 h7)⟩)⟩
def pS_h2  (A : pS_A) (w : World) (x0_00 : Int) (x0_10 : Int) : Prop := pS_h0 A w ∧ (pS_L0 A w (((201 - 0) : Int).toNat + 1) 0 0 = some (1, x0_00, x0_10, ())) ∧ True
def pS_s2  (A : pS_A) (w : World) (x0_00 : Int) (x0_10 : Int) (R : List Value) : List Value := (pS_s0 A w (.int .i64 x0_10 :: R))
def pS_t2 : List QE := pS_t0
theorem pS_q2  (A : pS_A) (w : World) (x0_00 : Int) (x0_10 : Int) (H2 : pS_h2 A w x0_00 x0_10) (R : List Value) : QsOK (Gw 8 (syL (pS_s2 A w x0_00 x0_10 R)) w) Tryz.prog pS_t2 := by have ⟨H0, h6, h7⟩ := H2; have ⟨H_l, h0, h1, h2, h3, h4, h5⟩ := H0; exact (pS_q0 A w H0 _)
def pS_c2 : List QE := pS_c0
theorem pS_d2  (A : pS_A) (w : World) (x0_00 : Int) (x0_10 : Int) (H2 : pS_h2 A w x0_00 x0_10) (R : List Value) : CsOK (Gw 8 (syL (pS_s2 A w x0_00 x0_10 R)) w) Tryz.prog pS_c2 := by have ⟨H0, h6, h7⟩ := H2; have ⟨H_l, h0, h1, h2, h3, h4, h5⟩ := H0; exact (pS_d0 A w H0 _)
noncomputable def pS_l2 : List LE := [⟨5, 8, lpG pS_L0_H pS_L0_R [] pS_L0_X1 (.exit 0)⟩]
theorem pS_r2  (A : pS_A) (w : World) (x0_00 : Int) (x0_10 : Int) (H2 : pS_h2 A w x0_00 x0_10) (R : List Value) : LpsA E0 8 (pS_s2 A w x0_00 x0_10 R) w pS_l2 := by have ⟨H0, h6, h7⟩ := H2; have ⟨H_l, h0, h1, h2, h3, h4, h5⟩ := H0; exact (by exact loopS (E := E0) (r := pS_L0_R) (L0 := (pS_L0_P A w 0 0)) (Lo := (pS_s0 A w (.int .i64 x0_10 :: []))) rfl rfl (by kernel_rfl) rfl ⟨rfl, rfl, trivial⟩ rfl (by obtain ⟨o, g1, g2⟩ := pS_L0_ok A w ⟨H_l, h0, h1, h2, h3, h4, h5⟩ (((201 - 0) : Int).toNat + 1) 0 0 (by first | trivial | omega | (simp only [List.length_append, List.length_cons, List.length_nil, List.length_set]; omega)) (by first | omega | (simp only [List.length_append, List.length_cons, List.length_nil, List.length_set]; omega)); rw [h6] at g1; cases g1; rcases g2 with ⟨ge, -, gg⟩ | ⟨ge, -, gg⟩; exact absurd (show (1 : Nat) = 0 from ge) (by decide); exact gg))
def pS_L1_P  (A : pS_A) (w : World) (x0_00 : Int) (x0_10 : Int) (v10 : Int) (v11 : Int) : List Value := (pS_s2 A w x0_00 x0_10 (.int .i64 v10 :: .int .i64 v11 :: []))
def pS_L1_H : Head := (⟨[(0, .sym 1), (1, .sym 2), (4, .bool false), (6, .sym 5), (7, .sym 6), (11, .sym 7), (12, .sym 8), (18, .sym 2), (19, .sym 3), (20, .bool false), (22, .tup [.sym 4, .sym 5]), (23, .sym 1), (24, .sym 2), (25, .tup [.sym 4, .sym 5]), (26, .sym 4), (27, .sym 5), (28, .sym 5), (29, .bool false)], [], 8, 8, 0, 0, 7, 9⟩ : Head)
def pS_L1_R : Rn := ⟨8, [], 0, [], 7, [.int .i64 0, .int .i64 0]⟩
def pS_L1_X0 : Head := (⟨[(0, .sym 1), (1, .sym 2), (4, .bool false), (6, .sym 5), (7, .sym 6), (11, .sym 7), (18, .sym 2), (19, .sym 3), (20, .bool false), (22, .tup [.sym 4, .sym 5]), (23, .sym 1), (24, .sym 2), (25, .tup [.sym 4, .sym 5]), (26, .sym 4), (27, .sym 5), (28, .sym 5), (29, .bool false)], [], 8, 8, 0, 0, 7, 8⟩ : Head)
def pS_L1_X1 : Head := (⟨[(0, .sym 1), (1, .sym 2), (4, .bool false), (6, .sym 5), (7, .sym 6), (11, .sym 7), (18, .sym 2), (19, .sym 3), (20, .bool false), (22, .tup [.sym 4, .sym 5]), (23, .sym 1), (24, .sym 2), (25, .tup [.sym 4, .sym 5]), (26, .sym 4), (27, .sym 5), (28, .sym 5), (29, .bool false)], [], 8, 8, 0, 0, 7, 8⟩ : Head)
def pS_h9  (A : pS_A) (w : World) (x0_00 : Int) (x0_10 : Int) (v10 : Int) (v11 : Int) : Prop := pS_h2 A w x0_00 x0_10 ∧ (0 ≤ v11 ∧ v11 ≤ ((A.l.length : Nat) : Int)) ∧ (v11 < ((A.l.length : Nat) : Int)) ∧ (0 ≤ (at_ A.l v11).kind ∧ (at_ A.l v11).kind ≤ 255) ∧ (-9223372036854775808 ≤ (at_ A.l v11).reeve ∧ (at_ A.l v11).reeve ≤ 9223372036854775807) ∧ (-9223372036854775808 ≤ (at_ A.l v11).number ∧ (at_ A.l v11).number ≤ 9223372036854775807)
def pS_s9  (A : pS_A) (w : World) (x0_00 : Int) (x0_10 : Int) (v10 : Int) (v11 : Int) (R : List Value) : List Value := (pS_s2 A w x0_00 x0_10 (.int .i64 v10 :: .int .i64 v11 :: .pointer (some ⟨A.b_l, A.o_l + (v11 : Int).toNat * 11, none⟩) :: poV (at_ A.l v11) ++ R))
def pS_t9 : List QE := (pS_t2 ++ [⟨tagB .lss, [.sym 8, .sym 3], .bool true⟩, ⟨2000000000 + 38, [.sym 2, .sym 8], .sym 9⟩, ⟨8000000000 + 25, [.sym 9], .agg [.sym 10, .sym 11, .sym 12, .sym 13, .sym 14, .sym 15, .sym 16, .sym 17, .sym 18, .sym 19, .sym 20]⟩])
theorem pS_q9  (A : pS_A) (w : World) (x0_00 : Int) (x0_10 : Int) (v10 : Int) (v11 : Int) (H9 : pS_h9 A w x0_00 x0_10 v10 v11) (R : List Value) : QsOK (Gw 8 (syL (pS_s9 A w x0_00 x0_10 v10 v11 R)) w) Tryz.prog pS_t9 := by have ⟨H2, h8, h9, h10, h11, h12⟩ := H9; have ⟨H0, h6, h7⟩ := H2; have ⟨H_l, h0, h1, h2, h3, h4, h5⟩ := H0; exact (qsA (pS_q2 A w x0_00 x0_10 H2 _) (qsC (q_t .lss rfl rfl rfl h9) (qsC (q_idxO (C := poC) H_l (sz := 11) (m := v11) rfl rfl rfl ⟨by omega, by rw [(rfl : ((A.l.length : Nat) : Int) = _)]; omega⟩ (by have := (rfl : ((A.l.length : Nat) : Int) = _); omega) rfl (by kernel_rfl)) (qsC (q_rowO (C := poC) H_l (i := v11) ⟨by omega, by rw [(rfl : ((A.l.length : Nat) : Int) = _)]; omega⟩ rfl rfl rfl rfl (by kernel_rfl)) qsN))))
def pS_c9 : List QE := pS_c2
theorem pS_d9  (A : pS_A) (w : World) (x0_00 : Int) (x0_10 : Int) (v10 : Int) (v11 : Int) (H9 : pS_h9 A w x0_00 x0_10 v10 v11) (R : List Value) : CsOK (Gw 8 (syL (pS_s9 A w x0_00 x0_10 v10 v11 R)) w) Tryz.prog pS_c9 := by have ⟨H2, h8, h9, h10, h11, h12⟩ := H9; have ⟨H0, h6, h7⟩ := H2; have ⟨H_l, h0, h1, h2, h3, h4, h5⟩ := H0; exact (pS_d2 A w x0_00 x0_10 H2 _)
noncomputable def pS_l9 : List LE := pS_l2
theorem pS_r9  (A : pS_A) (w : World) (x0_00 : Int) (x0_10 : Int) (v10 : Int) (v11 : Int) (H9 : pS_h9 A w x0_00 x0_10 v10 v11) (R : List Value) : LpsA E0 8 (pS_s9 A w x0_00 x0_10 v10 v11 R) w pS_l9 := by have ⟨H2, h8, h9, h10, h11, h12⟩ := H9; have ⟨H0, h6, h7⟩ := H2; have ⟨H_l, h0, h1, h2, h3, h4, h5⟩ := H0; exact (pS_r2 A w x0_00 x0_10 H2 _)
theorem pS_L1_0  (A : pS_A) (w : World) (x0_00 : Int) (x0_10 : Int) (v10 : Int) (v11 : Int) (H9 : pS_h9 A w x0_00 x0_10 v10 v11) (h13 : (at_ A.l v11).kind = 3) : RndS Tryz.prog 8 5 16 w pS_L1_H pS_L1_H (pS_L1_P A w x0_00 x0_10 v10 v11) (pS_L1_P A w x0_00 x0_10 ((IntKind.wrap .i64 (v10 + (at_ A.l v11).amount))) (v11 + 1)) .normal := by have ⟨H2, h8, h9, h10, h11, h12⟩ := H9; have ⟨H0, h6, h7⟩ := H2; have ⟨H_l, h0, h1, h2, h3, h4, h5⟩ := H0; exact rndS (E := E0) (n0 := 8) (L := (pS_s9 A w x0_00 x0_10 v10 v11 (.int .i64 ((IntKind.wrap .i64 (v10 + (at_ A.l v11).amount))) :: .int .i64 (v11 + 1) :: []))) (t := (pS_t9 ++ [⟨tagB .eql, [.sym 13, .int .u8 3], .bool true⟩, ⟨tagB .add, [.sym 7, .sym 20], .sym 21⟩, ⟨tagB .eql, [.sym 13, .int .u8 4], .bool false⟩, ⟨tagB .eql, [.sym 13, .int .u8 1], .bool false⟩, ⟨tagB .eql, [.sym 13, .int .u8 2], .bool false⟩, ⟨tagB .add, [.sym 8, .int .i64 1], .sym 22⟩])) (c := pS_c9) (p := pS_l9) 60 60 9 ⟨8, [], 0, [], 7, [.sym 21, .sym 22]⟩ [] ok0 (qsA (pS_q9 A w x0_00 x0_10 v10 v11 H9 _) (qsC (q_t .eql rfl rfl rfl h13) (qsC (q_add rfl rfl rfl) (qsC (q_f .eql rfl rfl rfl (show ¬ ((at_ A.l v11).kind = 4) by omega)) (qsC (q_f .eql rfl rfl rfl (show ¬ ((at_ A.l v11).kind = 1) by omega)) (qsC (q_f .eql rfl rfl rfl (show ¬ ((at_ A.l v11).kind = 2) by omega)) (qsC (q_addI rfl rfl rfl (show -9223372036854775808 ≤ (v11 + 1) ∧ (v11 + 1) ≤ 9223372036854775807 by omega)) qsN))))))) (pS_d9 A w x0_00 x0_10 v10 v11 H9 _) cmN (pS_r9 A w x0_00 x0_10 v10 v11 H9 _) ⟨rfl, rfl⟩ (by kernel_rfl) (by kernel_rfl) rfl rfl ⟨rfl, rfl, trivial⟩
theorem pS_L1_1  (A : pS_A) (w : World) (x0_00 : Int) (x0_10 : Int) (v10 : Int) (v11 : Int) (H9 : pS_h9 A w x0_00 x0_10 v10 v11) (h13 : ¬ ((at_ A.l v11).kind = 3)) (h14 : (at_ A.l v11).kind = 4) (h15 : 0 < (at_ A.l v11).by_.number) : RndS Tryz.prog 8 5 16 w pS_L1_H pS_L1_H (pS_L1_P A w x0_00 x0_10 v10 v11) (pS_L1_P A w x0_00 x0_10 ((IntKind.wrap .i64 (v10 - (at_ A.l v11).amount))) (v11 + 1)) .normal := by have ⟨H2, h8, h9, h10, h11, h12⟩ := H9; have ⟨H0, h6, h7⟩ := H2; have ⟨H_l, h0, h1, h2, h3, h4, h5⟩ := H0; exact rndS (E := E0) (n0 := 8) (L := (pS_s9 A w x0_00 x0_10 v10 v11 (.int .i64 ((IntKind.wrap .i64 (v10 - (at_ A.l v11).amount))) :: .int .i64 (v11 + 1) :: []))) (t := (pS_t9 ++ [⟨tagB .eql, [.sym 13, .int .u8 3], .bool false⟩, ⟨tagB .eql, [.sym 13, .int .u8 4], .bool true⟩, ⟨tagB .gtr, [.sym 19, .int .i64 0], .bool true⟩, ⟨tagB .sub, [.sym 7, .sym 20], .sym 21⟩, ⟨tagB .eql, [.sym 13, .int .u8 1], .bool false⟩, ⟨tagB .eql, [.sym 13, .int .u8 2], .bool false⟩, ⟨tagB .add, [.sym 8, .int .i64 1], .sym 22⟩])) (c := pS_c9) (p := pS_l9) 60 60 9 ⟨8, [], 0, [], 7, [.sym 21, .sym 22]⟩ [] ok0 (qsA (pS_q9 A w x0_00 x0_10 v10 v11 H9 _) (qsC (q_f .eql rfl rfl rfl h13) (qsC (q_t .eql rfl rfl rfl h14) (qsC (q_t .gtr rfl rfl rfl h15) (qsC (q_sub rfl rfl rfl) (qsC (q_f .eql rfl rfl rfl (show ¬ ((at_ A.l v11).kind = 1) by omega)) (qsC (q_f .eql rfl rfl rfl (show ¬ ((at_ A.l v11).kind = 2) by omega)) (qsC (q_addI rfl rfl rfl (show -9223372036854775808 ≤ (v11 + 1) ∧ (v11 + 1) ≤ 9223372036854775807 by omega)) qsN)))))))) (pS_d9 A w x0_00 x0_10 v10 v11 H9 _) cmN (pS_r9 A w x0_00 x0_10 v10 v11 H9 _) ⟨rfl, rfl⟩ (by kernel_rfl) (by kernel_rfl) rfl rfl ⟨rfl, rfl, trivial⟩
theorem pS_L1_2  (A : pS_A) (w : World) (x0_00 : Int) (x0_10 : Int) (v10 : Int) (v11 : Int) (H9 : pS_h9 A w x0_00 x0_10 v10 v11) (h13 : ¬ ((at_ A.l v11).kind = 3)) (h14 : (at_ A.l v11).kind = 4) (h15 : ¬ (0 < (at_ A.l v11).by_.number)) : RndS Tryz.prog 8 5 16 w pS_L1_H pS_L1_H (pS_L1_P A w x0_00 x0_10 v10 v11) (pS_L1_P A w x0_00 x0_10 v10 (v11 + 1)) .normal := by have ⟨H2, h8, h9, h10, h11, h12⟩ := H9; have ⟨H0, h6, h7⟩ := H2; have ⟨H_l, h0, h1, h2, h3, h4, h5⟩ := H0; exact rndS (E := E0) (n0 := 8) (L := (pS_s9 A w x0_00 x0_10 v10 v11 (.int .i64 (v11 + 1) :: []))) (t := (pS_t9 ++ [⟨tagB .eql, [.sym 13, .int .u8 3], .bool false⟩, ⟨tagB .eql, [.sym 13, .int .u8 4], .bool true⟩, ⟨tagB .gtr, [.sym 19, .int .i64 0], .bool false⟩, ⟨tagB .eql, [.sym 13, .int .u8 1], .bool false⟩, ⟨tagB .eql, [.sym 13, .int .u8 2], .bool false⟩, ⟨tagB .add, [.sym 8, .int .i64 1], .sym 21⟩])) (c := pS_c9) (p := pS_l9) 60 60 9 ⟨8, [], 0, [], 7, [.sym 7, .sym 21]⟩ [] ok0 (qsA (pS_q9 A w x0_00 x0_10 v10 v11 H9 _) (qsC (q_f .eql rfl rfl rfl h13) (qsC (q_t .eql rfl rfl rfl h14) (qsC (q_f .gtr rfl rfl rfl h15) (qsC (q_f .eql rfl rfl rfl (show ¬ ((at_ A.l v11).kind = 1) by omega)) (qsC (q_f .eql rfl rfl rfl (show ¬ ((at_ A.l v11).kind = 2) by omega)) (qsC (q_addI rfl rfl rfl (show -9223372036854775808 ≤ (v11 + 1) ∧ (v11 + 1) ≤ 9223372036854775807 by omega)) qsN))))))) (pS_d9 A w x0_00 x0_10 v10 v11 H9 _) cmN (pS_r9 A w x0_00 x0_10 v10 v11 H9 _) ⟨rfl, rfl⟩ (by kernel_rfl) (by kernel_rfl) rfl rfl ⟨rfl, rfl, trivial⟩
def pS_h10  (A : pS_A) (w : World) (x0_00 : Int) (x0_10 : Int) (v10 : Int) (v11 : Int) : Prop := pS_h9 A w x0_00 x0_10 v10 v11 ∧ (¬ ((at_ A.l v11).kind = 3)) ∧ (¬ ((at_ A.l v11).kind = 4)) ∧ ((at_ A.l v11).kind = 1)
def pS_s10  (A : pS_A) (w : World) (x0_00 : Int) (x0_10 : Int) (v10 : Int) (v11 : Int) (R : List Value) : List Value := (pS_s9 A w x0_00 x0_10 v10 v11 (.int .i64 (((owedTN A.n A.l (⟨((at_ A.l v11).reeve), ((at_ A.l v11).number)⟩)).1)) :: .int .i64 (((owedTN A.n A.l (⟨((at_ A.l v11).reeve), ((at_ A.l v11).number)⟩)).2)) :: R))
def pS_t10 : List QE := (pS_t9 ++ [⟨tagB .eql, [.sym 13, .int .u8 3], .bool false⟩, ⟨tagB .eql, [.sym 13, .int .u8 4], .bool false⟩, ⟨tagB .eql, [.sym 13, .int .u8 1], .bool true⟩])
theorem pS_q10  (A : pS_A) (w : World) (x0_00 : Int) (x0_10 : Int) (v10 : Int) (v11 : Int) (H10 : pS_h10 A w x0_00 x0_10 v10 v11) (R : List Value) : QsOK (Gw 8 (syL (pS_s10 A w x0_00 x0_10 v10 v11 R)) w) Tryz.prog pS_t10 := by have ⟨H9, h13, h14, h15⟩ := H10; have ⟨H2, h8, h9, h10, h11, h12⟩ := H9; have ⟨H0, h6, h7⟩ := H2; have ⟨H_l, h0, h1, h2, h3, h4, h5⟩ := H0; exact (qsA (pS_q9 A w x0_00 x0_10 v10 v11 H9 _) (qsC (q_f .eql rfl rfl rfl h13) (qsC (q_f .eql rfl rfl rfl h14) (qsC (q_t .eql rfl rfl rfl h15) qsN))))
def pS_c10 : List QE := (pS_c9 ++ [⟨31, [.tup [.sym 1, .sym 2, .agg [.sym 10, .sym 11]], .tup []], .tup [(.sym 21), (.sym 22)]⟩])
theorem pS_d10  (A : pS_A) (w : World) (x0_00 : Int) (x0_10 : Int) (v10 : Int) (v11 : Int) (H10 : pS_h10 A w x0_00 x0_10 v10 v11) (R : List Value) : CsOK (Gw 8 (syL (pS_s10 A w x0_00 x0_10 v10 v11 R)) w) Tryz.prog pS_c10 := by have ⟨H9, h13, h14, h15⟩ := H10; have ⟨H2, h8, h9, h10, h11, h12⟩ := H9; have ⟨H0, h6, h7⟩ := H2; have ⟨H_l, h0, h1, h2, h3, h4, h5⟩ := H0; exact (csA (pS_d9 A w x0_00 x0_10 v10 v11 H9 _) (csC (q_callT (.val _ _ _ _ _ rfl (.val _ _ _ _ _ rfl (.val _ _ _ _ _ rfl .nil))) rfl rfl rfl (fun w xs hw hq => by obtain ⟨_, rfl, _, rfl, _, rfl, rfl⟩ := hq; exact pOwedT_n (LstAt.old H_l hw) (by first | omega | (simp only [List.length_take]; omega)) (show (((A.l).length : Nat) : Int) ≤ 1000 by omega) (show -9223372036854775808 ≤ A.n ∧ A.n ≤ 9223372036854775807 by omega) (x := (⟨((at_ A.l v11).reeve), ((at_ A.l v11).number)⟩)) (show -9223372036854775808 ≤ ((at_ A.l v11).reeve) ∧ ((at_ A.l v11).reeve) ≤ 9223372036854775807 by omega) (show -9223372036854775808 ≤ ((at_ A.l v11).number) ∧ ((at_ A.l v11).number) ≤ 9223372036854775807 by omega))) csN))
noncomputable def pS_l10 : List LE := pS_l9
theorem pS_r10  (A : pS_A) (w : World) (x0_00 : Int) (x0_10 : Int) (v10 : Int) (v11 : Int) (H10 : pS_h10 A w x0_00 x0_10 v10 v11) (R : List Value) : LpsA E0 8 (pS_s10 A w x0_00 x0_10 v10 v11 R) w pS_l10 := by have ⟨H9, h13, h14, h15⟩ := H10; have ⟨H2, h8, h9, h10, h11, h12⟩ := H9; have ⟨H0, h6, h7⟩ := H2; have ⟨H_l, h0, h1, h2, h3, h4, h5⟩ := H0; exact (pS_r9 A w x0_00 x0_10 v10 v11 H9 _)
theorem pS_L1_3  (A : pS_A) (w : World) (x0_00 : Int) (x0_10 : Int) (v10 : Int) (v11 : Int) (H10 : pS_h10 A w x0_00 x0_10 v10 v11) (h16 : ((owedTN A.n A.l (⟨((at_ A.l v11).reeve), ((at_ A.l v11).number)⟩)).2) = 0) (h17 : ((owedTN A.n A.l (⟨((at_ A.l v11).reeve), ((at_ A.l v11).number)⟩)).1) < 0) : RndS Tryz.prog 8 5 16 w pS_L1_H pS_L1_X0 (pS_L1_P A w x0_00 x0_10 v10 v11) (pS_s2 A w x0_00 x0_10 (.int .i64 (v10) :: [])) .ret := by have ⟨H9, h13, h14, h15⟩ := H10; have ⟨H2, h8, h9, h10, h11, h12⟩ := H9; have ⟨H0, h6, h7⟩ := H2; have ⟨H_l, h0, h1, h2, h3, h4, h5⟩ := H0; exact rndS (E := E0) (n0 := 8) (L := (pS_s10 A w x0_00 x0_10 v10 v11 [])) (t := (pS_t10 ++ [⟨tagB .neq, [.sym 22, .int .i64 0], .bool false⟩, ⟨tagB .lss, [.sym 21, .int .i64 0], .bool true⟩])) (c := pS_c10) (p := pS_l10) 60 60 9 ⟨8, [], 0, [], 7, [.sym 7]⟩ [] ok0 (qsA (pS_q10 A w x0_00 x0_10 v10 v11 H10 _) (qsC (q_f .neq rfl rfl rfl (fun h => h h16)) (qsC (q_t .lss rfl rfl rfl h17) qsN))) (pS_d10 A w x0_00 x0_10 v10 v11 H10 _) cmN (pS_r10 A w x0_00 x0_10 v10 v11 H10 _) ⟨rfl, rfl⟩ (by kernel_rfl) (by kernel_rfl) rfl rfl ⟨rfl, trivial⟩
theorem pS_L1_4  (A : pS_A) (w : World) (x0_00 : Int) (x0_10 : Int) (v10 : Int) (v11 : Int) (H10 : pS_h10 A w x0_00 x0_10 v10 v11) (h16 : ((owedTN A.n A.l (⟨((at_ A.l v11).reeve), ((at_ A.l v11).number)⟩)).2) = 0) (h17 : ¬ (((owedTN A.n A.l (⟨((at_ A.l v11).reeve), ((at_ A.l v11).number)⟩)).1) < 0)) (h18 : (at_ A.l v11).amount < ((owedTN A.n A.l (⟨((at_ A.l v11).reeve), ((at_ A.l v11).number)⟩)).1)) : RndS Tryz.prog 8 5 16 w pS_L1_H pS_L1_X0 (pS_L1_P A w x0_00 x0_10 v10 v11) (pS_s2 A w x0_00 x0_10 (.int .i64 (v10) :: [])) .ret := by have ⟨H9, h13, h14, h15⟩ := H10; have ⟨H2, h8, h9, h10, h11, h12⟩ := H9; have ⟨H0, h6, h7⟩ := H2; have ⟨H_l, h0, h1, h2, h3, h4, h5⟩ := H0; exact rndS (E := E0) (n0 := 8) (L := (pS_s10 A w x0_00 x0_10 v10 v11 [])) (t := (pS_t10 ++ [⟨tagB .neq, [.sym 22, .int .i64 0], .bool false⟩, ⟨tagB .lss, [.sym 21, .int .i64 0], .bool false⟩, ⟨tagB .gtr, [.sym 21, .sym 20], .bool true⟩])) (c := pS_c10) (p := pS_l10) 60 60 9 ⟨8, [], 0, [], 7, [.sym 7]⟩ [] ok0 (qsA (pS_q10 A w x0_00 x0_10 v10 v11 H10 _) (qsC (q_f .neq rfl rfl rfl (fun h => h h16)) (qsC (q_f .lss rfl rfl rfl h17) (qsC (q_t .gtr rfl rfl rfl h18) qsN)))) (pS_d10 A w x0_00 x0_10 v10 v11 H10 _) cmN (pS_r10 A w x0_00 x0_10 v10 v11 H10 _) ⟨rfl, rfl⟩ (by kernel_rfl) (by kernel_rfl) rfl rfl ⟨rfl, trivial⟩
theorem pS_L1_5  (A : pS_A) (w : World) (x0_00 : Int) (x0_10 : Int) (v10 : Int) (v11 : Int) (H10 : pS_h10 A w x0_00 x0_10 v10 v11) (h16 : ((owedTN A.n A.l (⟨((at_ A.l v11).reeve), ((at_ A.l v11).number)⟩)).2) = 0) (h17 : ¬ (((owedTN A.n A.l (⟨((at_ A.l v11).reeve), ((at_ A.l v11).number)⟩)).1) < 0)) (h18 : ¬ ((at_ A.l v11).amount < ((owedTN A.n A.l (⟨((at_ A.l v11).reeve), ((at_ A.l v11).number)⟩)).1))) : RndS Tryz.prog 8 5 16 w pS_L1_H pS_L1_H (pS_L1_P A w x0_00 x0_10 v10 v11) (pS_L1_P A w x0_00 x0_10 v10 (v11 + 1)) .normal := by have ⟨H9, h13, h14, h15⟩ := H10; have ⟨H2, h8, h9, h10, h11, h12⟩ := H9; have ⟨H0, h6, h7⟩ := H2; have ⟨H_l, h0, h1, h2, h3, h4, h5⟩ := H0; exact rndS (E := E0) (n0 := 8) (L := (pS_s10 A w x0_00 x0_10 v10 v11 (.int .i64 (v11 + 1) :: []))) (t := (pS_t10 ++ [⟨tagB .neq, [.sym 22, .int .i64 0], .bool false⟩, ⟨tagB .lss, [.sym 21, .int .i64 0], .bool false⟩, ⟨tagB .gtr, [.sym 21, .sym 20], .bool false⟩, ⟨tagB .add, [.sym 8, .int .i64 1], .sym 23⟩])) (c := pS_c10) (p := pS_l10) 60 60 9 ⟨8, [], 0, [], 7, [.sym 7, .sym 23]⟩ [] ok0 (qsA (pS_q10 A w x0_00 x0_10 v10 v11 H10 _) (qsC (q_f .neq rfl rfl rfl (fun h => h h16)) (qsC (q_f .lss rfl rfl rfl h17) (qsC (q_f .gtr rfl rfl rfl h18) (qsC (q_addI rfl rfl rfl (show -9223372036854775808 ≤ (v11 + 1) ∧ (v11 + 1) ≤ 9223372036854775807 by omega)) qsN))))) (pS_d10 A w x0_00 x0_10 v10 v11 H10 _) cmN (pS_r10 A w x0_00 x0_10 v10 v11 H10 _) ⟨rfl, rfl⟩ (by kernel_rfl) (by kernel_rfl) rfl rfl ⟨rfl, rfl, trivial⟩
theorem pS_L1_6  (A : pS_A) (w : World) (x0_00 : Int) (x0_10 : Int) (v10 : Int) (v11 : Int) (H10 : pS_h10 A w x0_00 x0_10 v10 v11) (h16 : ¬ (((owedTN A.n A.l (⟨((at_ A.l v11).reeve), ((at_ A.l v11).number)⟩)).2) = 0)) : RndS Tryz.prog 8 5 16 w pS_L1_H pS_L1_X0 (pS_L1_P A w x0_00 x0_10 v10 v11) (pS_s2 A w x0_00 x0_10 (.int .i64 (v10) :: [])) .ret := by have ⟨H9, h13, h14, h15⟩ := H10; have ⟨H2, h8, h9, h10, h11, h12⟩ := H9; have ⟨H0, h6, h7⟩ := H2; have ⟨H_l, h0, h1, h2, h3, h4, h5⟩ := H0; exact rndS (E := E0) (n0 := 8) (L := (pS_s10 A w x0_00 x0_10 v10 v11 [])) (t := (pS_t10 ++ [⟨tagB .neq, [.sym 22, .int .i64 0], .bool true⟩])) (c := pS_c10) (p := pS_l10) 60 60 9 ⟨8, [], 0, [], 7, [.sym 7]⟩ [] ok0 (qsA (pS_q10 A w x0_00 x0_10 v10 v11 H10 _) (qsC (q_t .neq rfl rfl rfl h16) qsN)) (pS_d10 A w x0_00 x0_10 v10 v11 H10 _) cmN (pS_r10 A w x0_00 x0_10 v10 v11 H10 _) ⟨rfl, rfl⟩ (by kernel_rfl) (by kernel_rfl) rfl rfl ⟨rfl, trivial⟩
def pS_h11  (A : pS_A) (w : World) (x0_00 : Int) (x0_10 : Int) (v10 : Int) (v11 : Int) : Prop := pS_h9 A w x0_00 x0_10 v10 v11 ∧ (¬ ((at_ A.l v11).kind = 3)) ∧ (¬ ((at_ A.l v11).kind = 4)) ∧ (¬ ((at_ A.l v11).kind = 1)) ∧ ((at_ A.l v11).kind = 2)
def pS_s11  (A : pS_A) (w : World) (x0_00 : Int) (x0_10 : Int) (v10 : Int) (v11 : Int) (R : List Value) : List Value := (pS_s9 A w x0_00 x0_10 v10 v11 (.int .i64 (((owedTN A.n A.l (⟨((at_ A.l v11).reeve), ((at_ A.l v11).number)⟩)).1)) :: .int .i64 (((owedTN A.n A.l (⟨((at_ A.l v11).reeve), ((at_ A.l v11).number)⟩)).2)) :: R))
def pS_t11 : List QE := (pS_t9 ++ [⟨tagB .eql, [.sym 13, .int .u8 3], .bool false⟩, ⟨tagB .eql, [.sym 13, .int .u8 4], .bool false⟩, ⟨tagB .eql, [.sym 13, .int .u8 1], .bool false⟩, ⟨tagB .eql, [.sym 13, .int .u8 2], .bool true⟩])
theorem pS_q11  (A : pS_A) (w : World) (x0_00 : Int) (x0_10 : Int) (v10 : Int) (v11 : Int) (H11 : pS_h11 A w x0_00 x0_10 v10 v11) (R : List Value) : QsOK (Gw 8 (syL (pS_s11 A w x0_00 x0_10 v10 v11 R)) w) Tryz.prog pS_t11 := by have ⟨H9, h13, h14, h15, h16⟩ := H11; have ⟨H2, h8, h9, h10, h11, h12⟩ := H9; have ⟨H0, h6, h7⟩ := H2; have ⟨H_l, h0, h1, h2, h3, h4, h5⟩ := H0; exact (qsA (pS_q9 A w x0_00 x0_10 v10 v11 H9 _) (qsC (q_f .eql rfl rfl rfl h13) (qsC (q_f .eql rfl rfl rfl h14) (qsC (q_f .eql rfl rfl rfl h15) (qsC (q_t .eql rfl rfl rfl h16) qsN)))))
def pS_c11 : List QE := (pS_c9 ++ [⟨31, [.tup [.sym 1, .sym 2, .agg [.sym 10, .sym 11]], .tup []], .tup [(.sym 21), (.sym 22)]⟩])
theorem pS_d11  (A : pS_A) (w : World) (x0_00 : Int) (x0_10 : Int) (v10 : Int) (v11 : Int) (H11 : pS_h11 A w x0_00 x0_10 v10 v11) (R : List Value) : CsOK (Gw 8 (syL (pS_s11 A w x0_00 x0_10 v10 v11 R)) w) Tryz.prog pS_c11 := by have ⟨H9, h13, h14, h15, h16⟩ := H11; have ⟨H2, h8, h9, h10, h11, h12⟩ := H9; have ⟨H0, h6, h7⟩ := H2; have ⟨H_l, h0, h1, h2, h3, h4, h5⟩ := H0; exact (csA (pS_d9 A w x0_00 x0_10 v10 v11 H9 _) (csC (q_callT (.val _ _ _ _ _ rfl (.val _ _ _ _ _ rfl (.val _ _ _ _ _ rfl .nil))) rfl rfl rfl (fun w xs hw hq => by obtain ⟨_, rfl, _, rfl, _, rfl, rfl⟩ := hq; exact pOwedT_n (LstAt.old H_l hw) (by first | omega | (simp only [List.length_take]; omega)) (show (((A.l).length : Nat) : Int) ≤ 1000 by omega) (show -9223372036854775808 ≤ A.n ∧ A.n ≤ 9223372036854775807 by omega) (x := (⟨((at_ A.l v11).reeve), ((at_ A.l v11).number)⟩)) (show -9223372036854775808 ≤ ((at_ A.l v11).reeve) ∧ ((at_ A.l v11).reeve) ≤ 9223372036854775807 by omega) (show -9223372036854775808 ≤ ((at_ A.l v11).number) ∧ ((at_ A.l v11).number) ≤ 9223372036854775807 by omega))) csN))
noncomputable def pS_l11 : List LE := pS_l9
theorem pS_r11  (A : pS_A) (w : World) (x0_00 : Int) (x0_10 : Int) (v10 : Int) (v11 : Int) (H11 : pS_h11 A w x0_00 x0_10 v10 v11) (R : List Value) : LpsA E0 8 (pS_s11 A w x0_00 x0_10 v10 v11 R) w pS_l11 := by have ⟨H9, h13, h14, h15, h16⟩ := H11; have ⟨H2, h8, h9, h10, h11, h12⟩ := H9; have ⟨H0, h6, h7⟩ := H2; have ⟨H_l, h0, h1, h2, h3, h4, h5⟩ := H0; exact (pS_r9 A w x0_00 x0_10 v10 v11 H9 _)
theorem pS_L1_7  (A : pS_A) (w : World) (x0_00 : Int) (x0_10 : Int) (v10 : Int) (v11 : Int) (H11 : pS_h11 A w x0_00 x0_10 v10 v11) (h17 : ((owedTN A.n A.l (⟨((at_ A.l v11).reeve), ((at_ A.l v11).number)⟩)).2) = 0) (h18 : ((owedTN A.n A.l (⟨((at_ A.l v11).reeve), ((at_ A.l v11).number)⟩)).1) < 0) : RndS Tryz.prog 8 5 16 w pS_L1_H pS_L1_X0 (pS_L1_P A w x0_00 x0_10 v10 v11) (pS_s2 A w x0_00 x0_10 (.int .i64 (v10) :: [])) .ret := by have ⟨H9, h13, h14, h15, h16⟩ := H11; have ⟨H2, h8, h9, h10, h11, h12⟩ := H9; have ⟨H0, h6, h7⟩ := H2; have ⟨H_l, h0, h1, h2, h3, h4, h5⟩ := H0; exact rndS (E := E0) (n0 := 8) (L := (pS_s11 A w x0_00 x0_10 v10 v11 [])) (t := (pS_t11 ++ [⟨tagB .neq, [.sym 22, .int .i64 0], .bool false⟩, ⟨tagB .lss, [.sym 21, .int .i64 0], .bool true⟩])) (c := pS_c11) (p := pS_l11) 60 60 9 ⟨8, [], 0, [], 7, [.sym 7]⟩ [] ok0 (qsA (pS_q11 A w x0_00 x0_10 v10 v11 H11 _) (qsC (q_f .neq rfl rfl rfl (fun h => h h17)) (qsC (q_t .lss rfl rfl rfl h18) qsN))) (pS_d11 A w x0_00 x0_10 v10 v11 H11 _) cmN (pS_r11 A w x0_00 x0_10 v10 v11 H11 _) ⟨rfl, rfl⟩ (by kernel_rfl) (by kernel_rfl) rfl rfl ⟨rfl, trivial⟩
theorem pS_L1_8  (A : pS_A) (w : World) (x0_00 : Int) (x0_10 : Int) (v10 : Int) (v11 : Int) (H11 : pS_h11 A w x0_00 x0_10 v10 v11) (h17 : ((owedTN A.n A.l (⟨((at_ A.l v11).reeve), ((at_ A.l v11).number)⟩)).2) = 0) (h18 : ¬ (((owedTN A.n A.l (⟨((at_ A.l v11).reeve), ((at_ A.l v11).number)⟩)).1) < 0)) (h19 : (at_ A.l v11).amount < ((owedTN A.n A.l (⟨((at_ A.l v11).reeve), ((at_ A.l v11).number)⟩)).1)) : RndS Tryz.prog 8 5 16 w pS_L1_H pS_L1_X0 (pS_L1_P A w x0_00 x0_10 v10 v11) (pS_s2 A w x0_00 x0_10 (.int .i64 (v10) :: [])) .ret := by have ⟨H9, h13, h14, h15, h16⟩ := H11; have ⟨H2, h8, h9, h10, h11, h12⟩ := H9; have ⟨H0, h6, h7⟩ := H2; have ⟨H_l, h0, h1, h2, h3, h4, h5⟩ := H0; exact rndS (E := E0) (n0 := 8) (L := (pS_s11 A w x0_00 x0_10 v10 v11 [])) (t := (pS_t11 ++ [⟨tagB .neq, [.sym 22, .int .i64 0], .bool false⟩, ⟨tagB .lss, [.sym 21, .int .i64 0], .bool false⟩, ⟨tagB .gtr, [.sym 21, .sym 20], .bool true⟩])) (c := pS_c11) (p := pS_l11) 60 60 9 ⟨8, [], 0, [], 7, [.sym 7]⟩ [] ok0 (qsA (pS_q11 A w x0_00 x0_10 v10 v11 H11 _) (qsC (q_f .neq rfl rfl rfl (fun h => h h17)) (qsC (q_f .lss rfl rfl rfl h18) (qsC (q_t .gtr rfl rfl rfl h19) qsN)))) (pS_d11 A w x0_00 x0_10 v10 v11 H11 _) cmN (pS_r11 A w x0_00 x0_10 v10 v11 H11 _) ⟨rfl, rfl⟩ (by kernel_rfl) (by kernel_rfl) rfl rfl ⟨rfl, trivial⟩
theorem pS_L1_9  (A : pS_A) (w : World) (x0_00 : Int) (x0_10 : Int) (v10 : Int) (v11 : Int) (H11 : pS_h11 A w x0_00 x0_10 v10 v11) (h17 : ((owedTN A.n A.l (⟨((at_ A.l v11).reeve), ((at_ A.l v11).number)⟩)).2) = 0) (h18 : ¬ (((owedTN A.n A.l (⟨((at_ A.l v11).reeve), ((at_ A.l v11).number)⟩)).1) < 0)) (h19 : ¬ ((at_ A.l v11).amount < ((owedTN A.n A.l (⟨((at_ A.l v11).reeve), ((at_ A.l v11).number)⟩)).1))) : RndS Tryz.prog 8 5 16 w pS_L1_H pS_L1_H (pS_L1_P A w x0_00 x0_10 v10 v11) (pS_L1_P A w x0_00 x0_10 v10 (v11 + 1)) .normal := by have ⟨H9, h13, h14, h15, h16⟩ := H11; have ⟨H2, h8, h9, h10, h11, h12⟩ := H9; have ⟨H0, h6, h7⟩ := H2; have ⟨H_l, h0, h1, h2, h3, h4, h5⟩ := H0; exact rndS (E := E0) (n0 := 8) (L := (pS_s11 A w x0_00 x0_10 v10 v11 (.int .i64 (v11 + 1) :: []))) (t := (pS_t11 ++ [⟨tagB .neq, [.sym 22, .int .i64 0], .bool false⟩, ⟨tagB .lss, [.sym 21, .int .i64 0], .bool false⟩, ⟨tagB .gtr, [.sym 21, .sym 20], .bool false⟩, ⟨tagB .add, [.sym 8, .int .i64 1], .sym 23⟩])) (c := pS_c11) (p := pS_l11) 60 60 9 ⟨8, [], 0, [], 7, [.sym 7, .sym 23]⟩ [] ok0 (qsA (pS_q11 A w x0_00 x0_10 v10 v11 H11 _) (qsC (q_f .neq rfl rfl rfl (fun h => h h17)) (qsC (q_f .lss rfl rfl rfl h18) (qsC (q_f .gtr rfl rfl rfl h19) (qsC (q_addI rfl rfl rfl (show -9223372036854775808 ≤ (v11 + 1) ∧ (v11 + 1) ≤ 9223372036854775807 by omega)) qsN))))) (pS_d11 A w x0_00 x0_10 v10 v11 H11 _) cmN (pS_r11 A w x0_00 x0_10 v10 v11 H11 _) ⟨rfl, rfl⟩ (by kernel_rfl) (by kernel_rfl) rfl rfl ⟨rfl, rfl, trivial⟩
theorem pS_L1_10  (A : pS_A) (w : World) (x0_00 : Int) (x0_10 : Int) (v10 : Int) (v11 : Int) (H11 : pS_h11 A w x0_00 x0_10 v10 v11) (h17 : ¬ (((owedTN A.n A.l (⟨((at_ A.l v11).reeve), ((at_ A.l v11).number)⟩)).2) = 0)) : RndS Tryz.prog 8 5 16 w pS_L1_H pS_L1_X0 (pS_L1_P A w x0_00 x0_10 v10 v11) (pS_s2 A w x0_00 x0_10 (.int .i64 (v10) :: [])) .ret := by have ⟨H9, h13, h14, h15, h16⟩ := H11; have ⟨H2, h8, h9, h10, h11, h12⟩ := H9; have ⟨H0, h6, h7⟩ := H2; have ⟨H_l, h0, h1, h2, h3, h4, h5⟩ := H0; exact rndS (E := E0) (n0 := 8) (L := (pS_s11 A w x0_00 x0_10 v10 v11 [])) (t := (pS_t11 ++ [⟨tagB .neq, [.sym 22, .int .i64 0], .bool true⟩])) (c := pS_c11) (p := pS_l11) 60 60 9 ⟨8, [], 0, [], 7, [.sym 7]⟩ [] ok0 (qsA (pS_q11 A w x0_00 x0_10 v10 v11 H11 _) (qsC (q_t .neq rfl rfl rfl h17) qsN)) (pS_d11 A w x0_00 x0_10 v10 v11 H11 _) cmN (pS_r11 A w x0_00 x0_10 v10 v11 H11 _) ⟨rfl, rfl⟩ (by kernel_rfl) (by kernel_rfl) rfl rfl ⟨rfl, trivial⟩
theorem pS_L1_11  (A : pS_A) (w : World) (x0_00 : Int) (x0_10 : Int) (v10 : Int) (v11 : Int) (H9 : pS_h9 A w x0_00 x0_10 v10 v11) (h13 : ¬ ((at_ A.l v11).kind = 3)) (h14 : ¬ ((at_ A.l v11).kind = 4)) (h15 : ¬ ((at_ A.l v11).kind = 1)) (h16 : ¬ ((at_ A.l v11).kind = 2)) : RndS Tryz.prog 8 5 16 w pS_L1_H pS_L1_H (pS_L1_P A w x0_00 x0_10 v10 v11) (pS_L1_P A w x0_00 x0_10 v10 (v11 + 1)) .normal := by have ⟨H2, h8, h9, h10, h11, h12⟩ := H9; have ⟨H0, h6, h7⟩ := H2; have ⟨H_l, h0, h1, h2, h3, h4, h5⟩ := H0; exact rndS (E := E0) (n0 := 8) (L := (pS_s9 A w x0_00 x0_10 v10 v11 (.int .i64 (v11 + 1) :: []))) (t := (pS_t9 ++ [⟨tagB .eql, [.sym 13, .int .u8 3], .bool false⟩, ⟨tagB .eql, [.sym 13, .int .u8 4], .bool false⟩, ⟨tagB .eql, [.sym 13, .int .u8 1], .bool false⟩, ⟨tagB .eql, [.sym 13, .int .u8 2], .bool false⟩, ⟨tagB .add, [.sym 8, .int .i64 1], .sym 21⟩])) (c := pS_c9) (p := pS_l9) 60 60 9 ⟨8, [], 0, [], 7, [.sym 7, .sym 21]⟩ [] ok0 (qsA (pS_q9 A w x0_00 x0_10 v10 v11 H9 _) (qsC (q_f .eql rfl rfl rfl h13) (qsC (q_f .eql rfl rfl rfl h14) (qsC (q_f .eql rfl rfl rfl h15) (qsC (q_f .eql rfl rfl rfl h16) (qsC (q_addI rfl rfl rfl (show -9223372036854775808 ≤ (v11 + 1) ∧ (v11 + 1) ≤ 9223372036854775807 by omega)) qsN)))))) (pS_d9 A w x0_00 x0_10 v10 v11 H9 _) cmN (pS_r9 A w x0_00 x0_10 v10 v11 H9 _) ⟨rfl, rfl⟩ (by kernel_rfl) (by kernel_rfl) rfl rfl ⟨rfl, rfl, trivial⟩
theorem pS_L1_12  (A : pS_A) (w : World) (x0_00 : Int) (x0_10 : Int) (v10 : Int) (v11 : Int) (H2 : pS_h2 A w x0_00 x0_10) (h8 : 0 ≤ v11 ∧ v11 ≤ ((A.l.length : Nat) : Int)) (h9 : ¬ (v11 < ((A.l.length : Nat) : Int))) : RndS Tryz.prog 8 5 16 w pS_L1_H pS_L1_X1 (pS_L1_P A w x0_00 x0_10 v10 v11) (pS_s2 A w x0_00 x0_10 (.int .i64 (v10) :: [])) (.exit 2) := by have ⟨H0, h6, h7⟩ := H2; have ⟨H_l, h0, h1, h2, h3, h4, h5⟩ := H0; exact rndS (E := E0) (n0 := 8) (L := (pS_s2 A w x0_00 x0_10 (.int .i64 v10 :: .int .i64 v11 :: []))) (t := (pS_t2 ++ [⟨tagB .lss, [.sym 8, .sym 3], .bool false⟩])) (c := pS_c2) (p := pS_l2) 60 60 9 ⟨8, [], 0, [], 7, [.sym 7]⟩ [] ok0 (qsA (pS_q2 A w x0_00 x0_10 H2 _) (qsC (q_f .lss rfl rfl rfl h9) qsN)) (pS_d2 A w x0_00 x0_10 H2 _) cmN (pS_r2 A w x0_00 x0_10 H2 _) ⟨rfl, rfl⟩ (by kernel_rfl) (by kernel_rfl) rfl rfl ⟨rfl, trivial⟩
def pS_L1  (A : pS_A) (w : World) (x0_00 : Int) (x0_10 : Int) : Nat → Int → Int → Option (Nat × Int × Int × Unit)
 | 0, _, _ => none
 | fu_ + 1, v10, v11 => (if v11 < ((A.l.length : Nat) : Int) then (if (at_ A.l v11).kind = 3 then pS_L1 A w x0_00 x0_10 fu_ ((IntKind.wrap .i64 (v10 + (at_ A.l v11).amount))) (v11 + 1) else (if (at_ A.l v11).kind = 4 then (if 0 < (at_ A.l v11).by_.number then pS_L1 A w x0_00 x0_10 fu_ ((IntKind.wrap .i64 (v10 - (at_ A.l v11).amount))) (v11 + 1) else pS_L1 A w x0_00 x0_10 fu_ v10 (v11 + 1)) else (if (at_ A.l v11).kind = 1 then (if ((owedTN A.n A.l (⟨((at_ A.l v11).reeve), ((at_ A.l v11).number)⟩)).2) = 0 then (if ((owedTN A.n A.l (⟨((at_ A.l v11).reeve), ((at_ A.l v11).number)⟩)).1) < 0 then some (0, v10, default, ()) else (if (at_ A.l v11).amount < ((owedTN A.n A.l (⟨((at_ A.l v11).reeve), ((at_ A.l v11).number)⟩)).1) then some (0, v10, default, ()) else pS_L1 A w x0_00 x0_10 fu_ v10 (v11 + 1))) else some (0, v10, default, ())) else (if (at_ A.l v11).kind = 2 then (if ((owedTN A.n A.l (⟨((at_ A.l v11).reeve), ((at_ A.l v11).number)⟩)).2) = 0 then (if ((owedTN A.n A.l (⟨((at_ A.l v11).reeve), ((at_ A.l v11).number)⟩)).1) < 0 then some (0, v10, default, ()) else (if (at_ A.l v11).amount < ((owedTN A.n A.l (⟨((at_ A.l v11).reeve), ((at_ A.l v11).number)⟩)).1) then some (0, v10, default, ()) else pS_L1 A w x0_00 x0_10 fu_ v10 (v11 + 1))) else some (0, v10, default, ())) else pS_L1 A w x0_00 x0_10 fu_ v10 (v11 + 1))))) else some (1, default, v10, ()))
theorem pS_L1_ok  (A : pS_A) (w : World) (x0_00 : Int) (x0_10 : Int) (H2 : pS_h2 A w x0_00 x0_10) : ∀ (fu_ : Nat) (v10 : Int) (v11 : Int), (0 ≤ v11 ∧ v11 ≤ ((A.l.length : Nat) : Int)) → ((((A.l.length : Nat) : Int) - v11) : Int) < fu_ → ∃ o, pS_L1 A w x0_00 x0_10 fu_ v10 v11 = some o ∧ ((o.1 = 0 ∧ True ∧ RdsS Tryz.prog 8 5 16 w pS_L1_H pS_L1_X0 (pS_L1_P A w x0_00 x0_10 v10 v11) (pS_s2 A w x0_00 x0_10 (.int .i64 o.2.1 :: [])) .ret fu_) ∨ (o.1 = 1 ∧ True ∧ RdsS Tryz.prog 8 5 16 w pS_L1_H pS_L1_X1 (pS_L1_P A w x0_00 x0_10 v10 v11) (pS_s2 A w x0_00 x0_10 (.int .i64 o.2.2.1 :: [])) (.exit 2) fu_)) := by
 have ⟨H0, h6, h7⟩ := H2; have ⟨H_l, h0, h1, h2, h3, h4, h5⟩ := H0; intro fu_
 induction fu_ with
 | zero => intro v10 v11 _ hm; exfalso; omega
 | succ fu_ ih =>
  intro v10 v11 h8 hm
  rw [pS_L1]
  by_cases h9 : v11 < ((A.l.length : Nat) : Int)
  ·simp only [if_pos h9]
   have h10 : 0 ≤ (at_ A.l v11).kind ∧ (at_ A.l v11).kind ≤ 255 := h1 v11 ⟨by omega, by rw [(rfl : ((A.l.length : Nat) : Int) = _)]; omega⟩
   have h11 : -9223372036854775808 ≤ (at_ A.l v11).reeve ∧ (at_ A.l v11).reeve ≤ 9223372036854775807 := (h2 v11 ⟨by omega, by rw [(rfl : ((A.l.length : Nat) : Int) = _)]; omega⟩).1
   have h12 : -9223372036854775808 ≤ (at_ A.l v11).number ∧ (at_ A.l v11).number ≤ 9223372036854775807 := (h2 v11 ⟨by omega, by rw [(rfl : ((A.l.length : Nat) : Int) = _)]; omega⟩).2
   by_cases h13 : (at_ A.l v11).kind = 3
   ·simp only [if_pos h13]
    obtain ⟨o, g1, g2⟩ := ih ((IntKind.wrap .i64 (v10 + (at_ A.l v11).amount))) (v11 + 1) (by first | trivial | omega | (simp only [List.length_append, List.length_cons, List.length_nil, List.length_set]; omega)) (by first | trivial | omega | (simp only [List.length_append, List.length_cons, List.length_nil, List.length_set]; omega))
    refine ⟨o, g1, ?_⟩
    rcases g2 with ⟨ge, gi, gg⟩ | ⟨ge, gi, gg⟩
    ·exact .inl ⟨ge, gi, rndGo (pS_L1_0 A w x0_00 x0_10 v10 v11 ⟨⟨⟨H_l, h0, h1, h2, h3, h4, h5⟩, h6, h7⟩, h8, h9, h10, h11, h12⟩ h13) gg⟩
    ·exact .inr (⟨ge, gi, rndGo (pS_L1_0 A w x0_00 x0_10 v10 v11 ⟨⟨⟨H_l, h0, h1, h2, h3, h4, h5⟩, h6, h7⟩, h8, h9, h10, h11, h12⟩ h13) gg⟩)
   ·simp only [if_neg h13]
    by_cases h14 : (at_ A.l v11).kind = 4
    ·simp only [if_pos h14]
     by_cases h15 : 0 < (at_ A.l v11).by_.number
     ·simp only [if_pos h15]
      obtain ⟨o, g1, g2⟩ := ih ((IntKind.wrap .i64 (v10 - (at_ A.l v11).amount))) (v11 + 1) (by first | trivial | omega | (simp only [List.length_append, List.length_cons, List.length_nil, List.length_set]; omega)) (by first | trivial | omega | (simp only [List.length_append, List.length_cons, List.length_nil, List.length_set]; omega))
      refine ⟨o, g1, ?_⟩
      rcases g2 with ⟨ge, gi, gg⟩ | ⟨ge, gi, gg⟩
      ·exact .inl ⟨ge, gi, rndGo (pS_L1_1 A w x0_00 x0_10 v10 v11 ⟨⟨⟨H_l, h0, h1, h2, h3, h4, h5⟩, h6, h7⟩, h8, h9, h10, h11, h12⟩ h13 h14 h15) gg⟩
      ·exact .inr (⟨ge, gi, rndGo (pS_L1_1 A w x0_00 x0_10 v10 v11 ⟨⟨⟨H_l, h0, h1, h2, h3, h4, h5⟩, h6, h7⟩, h8, h9, h10, h11, h12⟩ h13 h14 h15) gg⟩)
     ·simp only [if_neg h15]
      obtain ⟨o, g1, g2⟩ := ih v10 (v11 + 1) (by first | trivial | omega | (simp only [List.length_append, List.length_cons, List.length_nil, List.length_set]; omega)) (by first | trivial | omega | (simp only [List.length_append, List.length_cons, List.length_nil, List.length_set]; omega))
      refine ⟨o, g1, ?_⟩
      rcases g2 with ⟨ge, gi, gg⟩ | ⟨ge, gi, gg⟩
      ·exact .inl ⟨ge, gi, rndGo (pS_L1_2 A w x0_00 x0_10 v10 v11 ⟨⟨⟨H_l, h0, h1, h2, h3, h4, h5⟩, h6, h7⟩, h8, h9, h10, h11, h12⟩ h13 h14 h15) gg⟩
      ·exact .inr (⟨ge, gi, rndGo (pS_L1_2 A w x0_00 x0_10 v10 v11 ⟨⟨⟨H_l, h0, h1, h2, h3, h4, h5⟩, h6, h7⟩, h8, h9, h10, h11, h12⟩ h13 h14 h15) gg⟩)
    ·simp only [if_neg h14]
     by_cases h15 : (at_ A.l v11).kind = 1
     ·simp only [if_pos h15]
      by_cases h16 : ((owedTN A.n A.l (⟨((at_ A.l v11).reeve), ((at_ A.l v11).number)⟩)).2) = 0
      ·simp only [if_pos h16]
       by_cases h17 : ((owedTN A.n A.l (⟨((at_ A.l v11).reeve), ((at_ A.l v11).number)⟩)).1) < 0
       ·simp only [if_pos h17]
        exact ⟨(0, v10, default, ()), rfl, .inl ⟨rfl, (show True by first | trivial | omega | (simp only [List.length_append, List.length_cons, List.length_nil, List.length_set]; omega)), rndEnd (by intro h; cases h) (pS_L1_3 A w x0_00 x0_10 v10 v11 ⟨⟨⟨⟨H_l, h0, h1, h2, h3, h4, h5⟩, h6, h7⟩, h8, h9, h10, h11, h12⟩, h13, h14, h15⟩ h16 h17)⟩⟩
       ·simp only [if_neg h17]
        by_cases h18 : (at_ A.l v11).amount < ((owedTN A.n A.l (⟨((at_ A.l v11).reeve), ((at_ A.l v11).number)⟩)).1)
        ·simp only [if_pos h18]
         exact ⟨(0, v10, default, ()), rfl, .inl ⟨rfl, (show True by first | trivial | omega | (simp only [List.length_append, List.length_cons, List.length_nil, List.length_set]; omega)), rndEnd (by intro h; cases h) (pS_L1_4 A w x0_00 x0_10 v10 v11 ⟨⟨⟨⟨H_l, h0, h1, h2, h3, h4, h5⟩, h6, h7⟩, h8, h9, h10, h11, h12⟩, h13, h14, h15⟩ h16 h17 h18)⟩⟩
        ·simp only [if_neg h18]
         obtain ⟨o, g1, g2⟩ := ih v10 (v11 + 1) (by first | trivial | omega | (simp only [List.length_append, List.length_cons, List.length_nil, List.length_set]; omega)) (by first | trivial | omega | (simp only [List.length_append, List.length_cons, List.length_nil, List.length_set]; omega))
         refine ⟨o, g1, ?_⟩
         rcases g2 with ⟨ge, gi, gg⟩ | ⟨ge, gi, gg⟩
         ·exact .inl ⟨ge, gi, rndGo (pS_L1_5 A w x0_00 x0_10 v10 v11 ⟨⟨⟨⟨H_l, h0, h1, h2, h3, h4, h5⟩, h6, h7⟩, h8, h9, h10, h11, h12⟩, h13, h14, h15⟩ h16 h17 h18) gg⟩
         ·exact .inr (⟨ge, gi, rndGo (pS_L1_5 A w x0_00 x0_10 v10 v11 ⟨⟨⟨⟨H_l, h0, h1, h2, h3, h4, h5⟩, h6, h7⟩, h8, h9, h10, h11, h12⟩, h13, h14, h15⟩ h16 h17 h18) gg⟩)
      ·simp only [if_neg h16]
       exact ⟨(0, v10, default, ()), rfl, .inl ⟨rfl, (show True by first | trivial | omega | (simp only [List.length_append, List.length_cons, List.length_nil, List.length_set]; omega)), rndEnd (by intro h; cases h) (pS_L1_6 A w x0_00 x0_10 v10 v11 ⟨⟨⟨⟨H_l, h0, h1, h2, h3, h4, h5⟩, h6, h7⟩, h8, h9, h10, h11, h12⟩, h13, h14, h15⟩ h16)⟩⟩
     ·simp only [if_neg h15]
      by_cases h16 : (at_ A.l v11).kind = 2
      ·simp only [if_pos h16]
       by_cases h17 : ((owedTN A.n A.l (⟨((at_ A.l v11).reeve), ((at_ A.l v11).number)⟩)).2) = 0
       ·simp only [if_pos h17]
        by_cases h18 : ((owedTN A.n A.l (⟨((at_ A.l v11).reeve), ((at_ A.l v11).number)⟩)).1) < 0
        ·simp only [if_pos h18]
         exact ⟨(0, v10, default, ()), rfl, .inl ⟨rfl, (show True by first | trivial | omega | (simp only [List.length_append, List.length_cons, List.length_nil, List.length_set]; omega)), rndEnd (by intro h; cases h) (pS_L1_7 A w x0_00 x0_10 v10 v11 ⟨⟨⟨⟨H_l, h0, h1, h2, h3, h4, h5⟩, h6, h7⟩, h8, h9, h10, h11, h12⟩, h13, h14, h15, h16⟩ h17 h18)⟩⟩
        ·simp only [if_neg h18]
         by_cases h19 : (at_ A.l v11).amount < ((owedTN A.n A.l (⟨((at_ A.l v11).reeve), ((at_ A.l v11).number)⟩)).1)
         ·simp only [if_pos h19]
          exact ⟨(0, v10, default, ()), rfl, .inl ⟨rfl, (show True by first | trivial | omega | (simp only [List.length_append, List.length_cons, List.length_nil, List.length_set]; omega)), rndEnd (by intro h; cases h) (pS_L1_8 A w x0_00 x0_10 v10 v11 ⟨⟨⟨⟨H_l, h0, h1, h2, h3, h4, h5⟩, h6, h7⟩, h8, h9, h10, h11, h12⟩, h13, h14, h15, h16⟩ h17 h18 h19)⟩⟩
         ·simp only [if_neg h19]
          obtain ⟨o, g1, g2⟩ := ih v10 (v11 + 1) (by first | trivial | omega | (simp only [List.length_append, List.length_cons, List.length_nil, List.length_set]; omega)) (by first | trivial | omega | (simp only [List.length_append, List.length_cons, List.length_nil, List.length_set]; omega))
          refine ⟨o, g1, ?_⟩
          rcases g2 with ⟨ge, gi, gg⟩ | ⟨ge, gi, gg⟩
          ·exact .inl ⟨ge, gi, rndGo (pS_L1_9 A w x0_00 x0_10 v10 v11 ⟨⟨⟨⟨H_l, h0, h1, h2, h3, h4, h5⟩, h6, h7⟩, h8, h9, h10, h11, h12⟩, h13, h14, h15, h16⟩ h17 h18 h19) gg⟩
          ·exact .inr (⟨ge, gi, rndGo (pS_L1_9 A w x0_00 x0_10 v10 v11 ⟨⟨⟨⟨H_l, h0, h1, h2, h3, h4, h5⟩, h6, h7⟩, h8, h9, h10, h11, h12⟩, h13, h14, h15, h16⟩ h17 h18 h19) gg⟩)
       ·simp only [if_neg h17]
        exact ⟨(0, v10, default, ()), rfl, .inl ⟨rfl, (show True by first | trivial | omega | (simp only [List.length_append, List.length_cons, List.length_nil, List.length_set]; omega)), rndEnd (by intro h; cases h) (pS_L1_10 A w x0_00 x0_10 v10 v11 ⟨⟨⟨⟨H_l, h0, h1, h2, h3, h4, h5⟩, h6, h7⟩, h8, h9, h10, h11, h12⟩, h13, h14, h15, h16⟩ h17)⟩⟩
      ·simp only [if_neg h16]
       obtain ⟨o, g1, g2⟩ := ih v10 (v11 + 1) (by first | trivial | omega | (simp only [List.length_append, List.length_cons, List.length_nil, List.length_set]; omega)) (by first | trivial | omega | (simp only [List.length_append, List.length_cons, List.length_nil, List.length_set]; omega))
       refine ⟨o, g1, ?_⟩
       rcases g2 with ⟨ge, gi, gg⟩ | ⟨ge, gi, gg⟩
       ·exact .inl ⟨ge, gi, rndGo (pS_L1_11 A w x0_00 x0_10 v10 v11 ⟨⟨⟨H_l, h0, h1, h2, h3, h4, h5⟩, h6, h7⟩, h8, h9, h10, h11, h12⟩ h13 h14 h15 h16) gg⟩
       ·exact .inr (⟨ge, gi, rndGo (pS_L1_11 A w x0_00 x0_10 v10 v11 ⟨⟨⟨H_l, h0, h1, h2, h3, h4, h5⟩, h6, h7⟩, h8, h9, h10, h11, h12⟩ h13 h14 h15 h16) gg⟩)
  ·simp only [if_neg h9]
   exact ⟨(1, default, v10, ()), rfl, .inr (⟨rfl, (show True by first | trivial | omega | (simp only [List.length_append, List.length_cons, List.length_nil, List.length_set]; omega)), rndEnd (by intro h; cases h) (pS_L1_12 A w x0_00 x0_10 v10 v11 ⟨⟨H_l, h0, h1, h2, h3, h4, h5⟩, h6, h7⟩ h8 h9)⟩)⟩
theorem pS_0  (A : pS_A) (w : World) (H_l : LstAt poC w A.a_l A.b_l A.o_l A.l) (h0 : ((A.l.length : Nat) : Int) ≤ ((A.κ_l : Nat) : Int)) (h1 : KindR A.l) (h2 : RefR A.l) (h3 : -9223372036854775808 ≤ A.n ∧ A.n ≤ 9223372036854775807) (h4 : 40 < ((A.l.length : Nat) : Int)) : Calls Tryz.prog 5 #[.int .i64 A.n, .slice A.a_l A.l.length A.κ_l] w fun e w' => e = .returned (.bool true) ∧ Chg (fun _ => False) w w' :=
 leafS (E := E0) (n0 := 8) (L := (.agg #[] :: .int .i64 A.n :: .slice A.a_l A.l.length A.κ_l :: .int .i64 ((A.l.length : Nat) : Int) :: [])) (t := [⟨6000000000 + 38, [.sym 2], .sym 3⟩, ⟨tagB .gtr, [.sym 3, .int .i64 40], .bool true⟩]) (c := [⟨14, [.tup [], .tup []], .bool true⟩]) 60 60 ok0 (qsC (q_lenB rfl rfl rfl (by kernel_rfl)) (qsC (q_t .gtr rfl rfl rfl h4) qsN)) (csC (q_callT .nil rfl rfl rfl (fun w xs hw hq => by obtain ⟨rfl⟩ := hq; exact impounded_any w)) csN) cmN lpN rfl (vs := [.sym 1, .sym 2]) (v := .bool true) rfl rfl (by kernel_rfl) rfl
theorem pS_1  (A : pS_A) (w : World) (x0_00 : Int) (x0_10 : Int) (H0 : pS_h0 A w) (h6 : pS_L0 A w (((201 - 0) : Int).toNat + 1) 0 0 = some (0, x0_00, x0_10, ())) (h7 : True) : Calls Tryz.prog 5 #[.int .i64 A.n, .slice A.a_l A.l.length A.κ_l] w fun e w' => e = .returned (.bool false) ∧ Chg (fun _ => False) w w' :=
 by have ⟨H_l, h0, h1, h2, h3, h4, h5⟩ := H0; exact leafS (E := E0) (n0 := 8) (L := (pS_s0 A w (.int .i64 x0_00 :: []))) (t := pS_t0) (c := pS_c0) (p := [⟨5, 8, lpG pS_L0_H pS_L0_R [] pS_L0_X0 .ret⟩]) 60 60 ok0 (pS_q0 A w H0 _) (pS_d0 A w H0 _) cmN (by exact loopS (E := E0) (r := pS_L0_R) (L0 := (pS_L0_P A w 0 0)) (Lo := (pS_s0 A w (.int .i64 x0_00 :: []))) rfl rfl (by kernel_rfl) rfl ⟨rfl, rfl, trivial⟩ rfl (by obtain ⟨o, g1, g2⟩ := pS_L0_ok A w ⟨H_l, h0, h1, h2, h3, h4, h5⟩ (((201 - 0) : Int).toNat + 1) 0 0 (by first | trivial | omega | (simp only [List.length_append, List.length_cons, List.length_nil, List.length_set]; omega)) (by first | omega | (simp only [List.length_append, List.length_cons, List.length_nil, List.length_set]; omega)); rw [h6] at g1; cases g1; rcases g2 with ⟨ge, -, gg⟩ | ⟨ge, -, gg⟩; exact gg; exact absurd (show (0 : Nat) = 1 from ge) (by decide))) rfl (vs := [.sym 1, .sym 2]) (v := .bool false) rfl rfl (by kernel_rfl) rfl
theorem pS_2  (A : pS_A) (w : World) (x0_00 : Int) (x0_10 : Int) (x1_00 : Int) (x1_10 : Int) (H2 : pS_h2 A w x0_00 x0_10) (h8 : pS_L1 A w x0_00 x0_10 (((((A.l.length : Nat) : Int) - 0) : Int).toNat + 1) 0 0 = some (0, x1_00, x1_10, ())) (h9 : True) : Calls Tryz.prog 5 #[.int .i64 A.n, .slice A.a_l A.l.length A.κ_l] w fun e w' => e = .returned (.bool false) ∧ Chg (fun _ => False) w w' :=
 by have ⟨H0, h6, h7⟩ := H2; have ⟨H_l, h0, h1, h2, h3, h4, h5⟩ := H0; exact leafS (E := E0) (n0 := 8) (L := (pS_s2 A w x0_00 x0_10 (.int .i64 x1_00 :: []))) (t := pS_t2) (c := pS_c2) (p := (pS_l2 ++ [⟨5, 16, lpG pS_L1_H pS_L1_R [] pS_L1_X0 .ret⟩])) 60 60 ok0 (pS_q2 A w x0_00 x0_10 H2 _) (pS_d2 A w x0_00 x0_10 H2 _) cmN (lpA_ (pS_r2 A w x0_00 x0_10 H2 _) (by exact loopS (E := E0) (r := pS_L1_R) (L0 := (pS_L1_P A w x0_00 x0_10 0 0)) (Lo := (pS_s2 A w x0_00 x0_10 (.int .i64 x1_00 :: []))) rfl rfl (by kernel_rfl) rfl ⟨rfl, rfl, trivial⟩ rfl (by obtain ⟨o, g1, g2⟩ := pS_L1_ok A w x0_00 x0_10 ⟨⟨H_l, h0, h1, h2, h3, h4, h5⟩, h6, h7⟩ (((((A.l.length : Nat) : Int) - 0) : Int).toNat + 1) 0 0 (by first | trivial | omega | (simp only [List.length_append, List.length_cons, List.length_nil, List.length_set]; omega)) (by first | omega | (simp only [List.length_append, List.length_cons, List.length_nil, List.length_set]; omega)); rw [h8] at g1; cases g1; rcases g2 with ⟨ge, -, gg⟩ | ⟨ge, -, gg⟩; exact gg; exact absurd (show (0 : Nat) = 1 from ge) (by decide)))) rfl (vs := [.sym 1, .sym 2]) (v := .bool false) rfl rfl (by kernel_rfl) rfl
def pS_h12  (A : pS_A) (w : World) (x0_00 : Int) (x0_10 : Int) (x1_00 : Int) (x1_10 : Int) : Prop := pS_h2 A w x0_00 x0_10 ∧ (pS_L1 A w x0_00 x0_10 (((((A.l.length : Nat) : Int) - 0) : Int).toNat + 1) 0 0 = some (1, x1_00, x1_10, ())) ∧ True
def pS_s12  (A : pS_A) (w : World) (x0_00 : Int) (x0_10 : Int) (x1_00 : Int) (x1_10 : Int) (R : List Value) : List Value := (pS_s2 A w x0_00 x0_10 (.int .i64 x1_10 :: .int .i64 ((balanceN A.n A.l 200).1) :: .int .i64 ((balanceN A.n A.l 200).2) :: R))
def pS_t12 : List QE := pS_t2
theorem pS_q12  (A : pS_A) (w : World) (x0_00 : Int) (x0_10 : Int) (x1_00 : Int) (x1_10 : Int) (H12 : pS_h12 A w x0_00 x0_10 x1_00 x1_10) (R : List Value) : QsOK (Gw 8 (syL (pS_s12 A w x0_00 x0_10 x1_00 x1_10 R)) w) Tryz.prog pS_t12 := by have ⟨H2, h8, h9⟩ := H12; have ⟨H0, h6, h7⟩ := H2; have ⟨H_l, h0, h1, h2, h3, h4, h5⟩ := H0; exact (pS_q2 A w x0_00 x0_10 H2 _)
def pS_c12 : List QE := (pS_c2 ++ [⟨30, [.tup [.sym 1, .sym 2, .int .i64 200], .tup []], .tup [(.sym 8), (.sym 9)]⟩, ⟨14, [.tup [], .tup []], .bool true⟩])
theorem pS_d12  (A : pS_A) (w : World) (x0_00 : Int) (x0_10 : Int) (x1_00 : Int) (x1_10 : Int) (H12 : pS_h12 A w x0_00 x0_10 x1_00 x1_10) (R : List Value) : CsOK (Gw 8 (syL (pS_s12 A w x0_00 x0_10 x1_00 x1_10 R)) w) Tryz.prog pS_c12 := by have ⟨H2, h8, h9⟩ := H12; have ⟨H0, h6, h7⟩ := H2; have ⟨H_l, h0, h1, h2, h3, h4, h5⟩ := H0; exact (csA (pS_d2 A w x0_00 x0_10 H2 _) (csC (q_callT (.val _ _ _ _ _ rfl (.val _ _ _ _ _ rfl (.val _ _ _ _ _ rfl .nil))) rfl rfl rfl (fun w xs hw hq => by obtain ⟨_, rfl, _, rfl, _, rfl, rfl⟩ := hq; exact pBalance_n (LstAt.old H_l hw) (by first | omega | (simp only [List.length_take]; omega)) h1 (show (((A.l).length : Nat) : Int) ≤ 1000 by omega) (show -9223372036854775808 ≤ A.n ∧ A.n ≤ 9223372036854775807 by omega) (show -9223372036854775808 ≤ 200 ∧ 200 ≤ 9223372036854775807 by omega))) (csC (q_callT .nil rfl rfl rfl (fun w xs hw hq => by obtain ⟨rfl⟩ := hq; exact impounded_any w)) csN)))
noncomputable def pS_l12 : List LE := (pS_l2 ++ [⟨5, 16, lpG pS_L1_H pS_L1_R [] pS_L1_X1 (.exit 2)⟩])
theorem pS_r12  (A : pS_A) (w : World) (x0_00 : Int) (x0_10 : Int) (x1_00 : Int) (x1_10 : Int) (H12 : pS_h12 A w x0_00 x0_10 x1_00 x1_10) (R : List Value) : LpsA E0 8 (pS_s12 A w x0_00 x0_10 x1_00 x1_10 R) w pS_l12 := by have ⟨H2, h8, h9⟩ := H12; have ⟨H0, h6, h7⟩ := H2; have ⟨H_l, h0, h1, h2, h3, h4, h5⟩ := H0; exact (lpA_ (pS_r2 A w x0_00 x0_10 H2 _) (by exact loopS (E := E0) (r := pS_L1_R) (L0 := (pS_L1_P A w x0_00 x0_10 0 0)) (Lo := (pS_s2 A w x0_00 x0_10 (.int .i64 x1_10 :: []))) rfl rfl (by kernel_rfl) rfl ⟨rfl, rfl, trivial⟩ rfl (by obtain ⟨o, g1, g2⟩ := pS_L1_ok A w x0_00 x0_10 ⟨⟨H_l, h0, h1, h2, h3, h4, h5⟩, h6, h7⟩ (((((A.l.length : Nat) : Int) - 0) : Int).toNat + 1) 0 0 (by first | trivial | omega | (simp only [List.length_append, List.length_cons, List.length_nil, List.length_set]; omega)) (by first | omega | (simp only [List.length_append, List.length_cons, List.length_nil, List.length_set]; omega)); rw [h8] at g1; cases g1; rcases g2 with ⟨ge, -, gg⟩ | ⟨ge, -, gg⟩; exact absurd (show (1 : Nat) = 0 from ge) (by decide); exact gg)))
theorem pS_3  (A : pS_A) (w : World) (x0_00 : Int) (x0_10 : Int) (x1_00 : Int) (x1_10 : Int) (H12 : pS_h12 A w x0_00 x0_10 x1_00 x1_10) (h10 : x0_10 = 0) (h11 : ((balanceN A.n A.l 200).2) = 0) (h12 : ((balanceN A.n A.l 200).1) = (IntKind.wrap .i64 (-(x1_10)))) : Calls Tryz.prog 5 #[.int .i64 A.n, .slice A.a_l A.l.length A.κ_l] w fun e w' => e = .returned (.bool true) ∧ Chg (fun _ => False) w w' :=
 by have ⟨H2, h8, h9⟩ := H12; have ⟨H0, h6, h7⟩ := H2; have ⟨H_l, h0, h1, h2, h3, h4, h5⟩ := H0; exact leafS (E := E0) (n0 := 8) (L := (pS_s12 A w x0_00 x0_10 x1_00 x1_10 (.int .i64 ((IntKind.wrap .i64 (-(x1_10)))) :: []))) (t := (pS_t12 ++ [⟨tagB .eql, [.sym 6, .int .i64 0], .bool true⟩, ⟨tagB .eql, [.sym 9, .int .i64 0], .bool true⟩, ⟨100, [.sym 7], .sym 10⟩, ⟨tagB .eql, [.sym 8, .sym 10], .bool true⟩])) (c := pS_c12) (p := pS_l12) 60 60 ok0 (qsA (pS_q12 A w x0_00 x0_10 x1_00 x1_10 H12 _) (qsC (q_t .eql rfl rfl rfl h10) (qsC (q_t .eql rfl rfl rfl h11) (qsC (q_neg rfl rfl) (qsC (q_t .eql rfl rfl rfl h12) qsN))))) (pS_d12 A w x0_00 x0_10 x1_00 x1_10 H12 _) cmN (pS_r12 A w x0_00 x0_10 x1_00 x1_10 H12 _) rfl (vs := [.sym 1, .sym 2]) (v := .bool true) rfl rfl (by kernel_rfl) rfl
theorem pS_4  (A : pS_A) (w : World) (x0_00 : Int) (x0_10 : Int) (x1_00 : Int) (x1_10 : Int) (H12 : pS_h12 A w x0_00 x0_10 x1_00 x1_10) (h10 : x0_10 = 0) (h11 : ((balanceN A.n A.l 200).2) = 0) (h12 : ¬ (((balanceN A.n A.l 200).1) = (IntKind.wrap .i64 (-(x1_10))))) : Calls Tryz.prog 5 #[.int .i64 A.n, .slice A.a_l A.l.length A.κ_l] w fun e w' => e = .returned (.bool false) ∧ Chg (fun _ => False) w w' :=
 by have ⟨H2, h8, h9⟩ := H12; have ⟨H0, h6, h7⟩ := H2; have ⟨H_l, h0, h1, h2, h3, h4, h5⟩ := H0; exact leafS (E := E0) (n0 := 8) (L := (pS_s12 A w x0_00 x0_10 x1_00 x1_10 (.int .i64 ((IntKind.wrap .i64 (-(x1_10)))) :: []))) (t := (pS_t12 ++ [⟨tagB .eql, [.sym 6, .int .i64 0], .bool true⟩, ⟨tagB .eql, [.sym 9, .int .i64 0], .bool true⟩, ⟨100, [.sym 7], .sym 10⟩, ⟨tagB .eql, [.sym 8, .sym 10], .bool false⟩])) (c := pS_c12) (p := pS_l12) 60 60 ok0 (qsA (pS_q12 A w x0_00 x0_10 x1_00 x1_10 H12 _) (qsC (q_t .eql rfl rfl rfl h10) (qsC (q_t .eql rfl rfl rfl h11) (qsC (q_neg rfl rfl) (qsC (q_f .eql rfl rfl rfl h12) qsN))))) (pS_d12 A w x0_00 x0_10 x1_00 x1_10 H12 _) cmN (pS_r12 A w x0_00 x0_10 x1_00 x1_10 H12 _) rfl (vs := [.sym 1, .sym 2]) (v := .bool false) rfl rfl (by kernel_rfl) rfl
theorem pS_5  (A : pS_A) (w : World) (x0_00 : Int) (x0_10 : Int) (x1_00 : Int) (x1_10 : Int) (H12 : pS_h12 A w x0_00 x0_10 x1_00 x1_10) (h10 : x0_10 = 0) (h11 : ¬ (((balanceN A.n A.l 200).2) = 0)) : Calls Tryz.prog 5 #[.int .i64 A.n, .slice A.a_l A.l.length A.κ_l] w fun e w' => e = .returned (.bool false) ∧ Chg (fun _ => False) w w' :=
 by have ⟨H2, h8, h9⟩ := H12; have ⟨H0, h6, h7⟩ := H2; have ⟨H_l, h0, h1, h2, h3, h4, h5⟩ := H0; exact leafS (E := E0) (n0 := 8) (L := (pS_s12 A w x0_00 x0_10 x1_00 x1_10 [])) (t := (pS_t12 ++ [⟨tagB .eql, [.sym 6, .int .i64 0], .bool true⟩, ⟨tagB .eql, [.sym 9, .int .i64 0], .bool false⟩])) (c := pS_c12) (p := pS_l12) 60 60 ok0 (qsA (pS_q12 A w x0_00 x0_10 x1_00 x1_10 H12 _) (qsC (q_t .eql rfl rfl rfl h10) (qsC (q_f .eql rfl rfl rfl h11) qsN))) (pS_d12 A w x0_00 x0_10 x1_00 x1_10 H12 _) cmN (pS_r12 A w x0_00 x0_10 x1_00 x1_10 H12 _) rfl (vs := [.sym 1, .sym 2]) (v := .bool false) rfl rfl (by kernel_rfl) rfl
theorem pS_6  (A : pS_A) (w : World) (x0_00 : Int) (x0_10 : Int) (x1_00 : Int) (x1_10 : Int) (H12 : pS_h12 A w x0_00 x0_10 x1_00 x1_10) (h10 : ¬ (x0_10 = 0)) : Calls Tryz.prog 5 #[.int .i64 A.n, .slice A.a_l A.l.length A.κ_l] w fun e w' => e = .returned (.bool false) ∧ Chg (fun _ => False) w w' :=
 by have ⟨H2, h8, h9⟩ := H12; have ⟨H0, h6, h7⟩ := H2; have ⟨H_l, h0, h1, h2, h3, h4, h5⟩ := H0; exact leafS (E := E0) (n0 := 8) (L := (pS_s12 A w x0_00 x0_10 x1_00 x1_10 [])) (t := (pS_t12 ++ [⟨tagB .eql, [.sym 6, .int .i64 0], .bool false⟩])) (c := pS_c12) (p := pS_l12) 60 60 ok0 (qsA (pS_q12 A w x0_00 x0_10 x1_00 x1_10 H12 _) (qsC (q_f .eql rfl rfl rfl h10) qsN)) (pS_d12 A w x0_00 x0_10 x1_00 x1_10 H12 _) cmN (pS_r12 A w x0_00 x0_10 x1_00 x1_10 H12 _) rfl (vs := [.sym 1, .sym 2]) (v := .bool false) rfl rfl (by kernel_rfl) rfl
theorem pS_7  (A : pS_A) (w : World) (H_l : LstAt poC w A.a_l A.b_l A.o_l A.l) (h0 : ((A.l.length : Nat) : Int) ≤ ((A.κ_l : Nat) : Int)) (h1 : KindR A.l) (h2 : RefR A.l) (h3 : -9223372036854775808 ≤ A.n ∧ A.n ≤ 9223372036854775807) (h4 : ¬ (40 < ((A.l.length : Nat) : Int))) (h5 : ¬ (((rollN A.n A.l).2) = 0)) : Calls Tryz.prog 5 #[.int .i64 A.n, .slice A.a_l A.l.length A.κ_l] w fun e w' => e = .returned (.bool true) ∧ Chg (fun _ => False) w w' :=
 leafS (E := E0) (n0 := 8) (L := (.agg #[] :: .int .i64 A.n :: .slice A.a_l A.l.length A.κ_l :: .int .i64 ((A.l.length : Nat) : Int) :: .int .i64 ((rollN A.n A.l).1) :: .int .i64 ((rollN A.n A.l).2) :: [])) (t := [⟨6000000000 + 38, [.sym 2], .sym 3⟩, ⟨tagB .gtr, [.sym 3, .int .i64 40], .bool false⟩, ⟨tagB .neq, [.sym 5, .int .i64 0], .bool true⟩]) (c := [⟨29, [.tup [.sym 1, .sym 2], .tup []], .tup [(.sym 4), (.sym 5)]⟩, ⟨14, [.tup [], .tup []], .bool true⟩]) 60 60 ok0 (qsC (q_lenB rfl rfl rfl (by kernel_rfl)) (qsC (q_f .gtr rfl rfl rfl h4) (qsC (q_t .neq rfl rfl rfl h5) qsN))) (csC (q_callT (.val _ _ _ _ _ rfl (.val _ _ _ _ _ rfl .nil)) rfl rfl rfl (fun w xs hw hq => by obtain ⟨_, rfl, _, rfl, rfl⟩ := hq; exact pRoll_n (LstAt.old H_l hw) (by first | omega | (simp only [List.length_take]; omega)) (show (((A.l).length : Nat) : Int) ≤ 1000 by omega) (show -9223372036854775808 ≤ A.n ∧ A.n ≤ 9223372036854775807 by omega))) (csC (q_callT .nil rfl rfl rfl (fun w xs hw hq => by obtain ⟨rfl⟩ := hq; exact impounded_any w)) csN)) cmN lpN rfl (vs := [.sym 1, .sym 2]) (v := .bool true) rfl rfl (by kernel_rfl) rfl
def pS_r  (A : pS_A) (w : World) : Bool := (if 40 < ((A.l.length : Nat) : Int) then true else (if ((rollN A.n A.l).2) = 0 then (match pS_L0 A w (((201 - 0) : Int).toNat + 1) 0 0 with | some (0, x0_00, x0_10, _) => false | some (1, x0_00, x0_10, _) => (match pS_L1 A w x0_00 x0_10 (((((A.l.length : Nat) : Int) - 0) : Int).toNat + 1) 0 0 with | some (0, x1_00, x1_10, _) => false | some (1, x1_00, x1_10, _) => (if x0_10 = 0 then (if ((balanceN A.n A.l 200).2) = 0 then (if ((balanceN A.n A.l 200).1) = (IntKind.wrap .i64 (-(x1_10))) then true else false) else false) else false) | _ => default) | _ => default) else true))
theorem pS_any  (A : pS_A) (w : World) (H_l : LstAt poC w A.a_l A.b_l A.o_l A.l) (h0 : ((A.l.length : Nat) : Int) ≤ ((A.κ_l : Nat) : Int)) (h1 : KindR A.l) (h2 : RefR A.l) (h3 : -9223372036854775808 ≤ A.n ∧ A.n ≤ 9223372036854775807) : Calls Tryz.prog 5 #[.int .i64 A.n, .slice A.a_l A.l.length A.κ_l] w fun e w' => e = .returned (.bool (pS_r A w)) ∧ Chg (fun _ => False) w w' := by
 unfold pS_r
 by_cases h4 : 40 < ((A.l.length : Nat) : Int)
 ·simp only [if_pos h4]
  exact pS_0 A w H_l h0 h1 h2 h3 h4
 ·simp only [if_neg h4]
  by_cases h5 : ((rollN A.n A.l).2) = 0
  ·simp only [if_pos h5]
   obtain ⟨⟨q6, x0_00, x0_10, _⟩, h6, hk6⟩ := pS_L0_ok A w ⟨H_l, h0, h1, h2, h3, h4, h5⟩ (((201 - 0) : Int).toNat + 1) 0 0 (by first | trivial | omega | (simp only [List.length_append, List.length_cons, List.length_nil, List.length_set]; omega)) (by first | omega | (simp only [List.length_append, List.length_cons, List.length_nil, List.length_set]; omega))
   simp only [h6]
   rcases hk6 with ⟨he6, h7, -⟩ | ⟨he6, h7, -⟩
   ·have he6 : q6 = 0 := he6
    subst he6
    exact pS_1 A w x0_00 x0_10 ⟨H_l, h0, h1, h2, h3, h4, h5⟩ h6 h7
   ·have he6 : q6 = 1 := he6
    subst he6
    obtain ⟨⟨q8, x1_00, x1_10, _⟩, h8, hk8⟩ := pS_L1_ok A w x0_00 x0_10 ⟨⟨H_l, h0, h1, h2, h3, h4, h5⟩, h6, h7⟩ (((((A.l.length : Nat) : Int) - 0) : Int).toNat + 1) 0 0 (by first | trivial | omega | (simp only [List.length_append, List.length_cons, List.length_nil, List.length_set]; omega)) (by first | omega | (simp only [List.length_append, List.length_cons, List.length_nil, List.length_set]; omega))
    simp only [h8]
    rcases hk8 with ⟨he8, h9, -⟩ | ⟨he8, h9, -⟩
    ·have he8 : q8 = 0 := he8
     subst he8
     exact pS_2 A w x0_00 x0_10 x1_00 x1_10 ⟨⟨H_l, h0, h1, h2, h3, h4, h5⟩, h6, h7⟩ h8 h9
    ·have he8 : q8 = 1 := he8
     subst he8
     by_cases h10 : x0_10 = 0
     ·simp only [if_pos h10]
      by_cases h11 : ((balanceN A.n A.l 200).2) = 0
      ·simp only [if_pos h11]
       by_cases h12 : ((balanceN A.n A.l 200).1) = (IntKind.wrap .i64 (-(x1_10)))
       ·simp only [if_pos h12]
        exact pS_3 A w x0_00 x0_10 x1_00 x1_10 ⟨⟨⟨H_l, h0, h1, h2, h3, h4, h5⟩, h6, h7⟩, h8, h9⟩ h10 h11 h12
       ·simp only [if_neg h12]
        exact pS_4 A w x0_00 x0_10 x1_00 x1_10 ⟨⟨⟨H_l, h0, h1, h2, h3, h4, h5⟩, h6, h7⟩, h8, h9⟩ h10 h11 h12
      ·simp only [if_neg h11]
       exact pS_5 A w x0_00 x0_10 x1_00 x1_10 ⟨⟨⟨H_l, h0, h1, h2, h3, h4, h5⟩, h6, h7⟩, h8, h9⟩ h10 h11
     ·simp only [if_neg h10]
      exact pS_6 A w x0_00 x0_10 x1_00 x1_10 ⟨⟨⟨H_l, h0, h1, h2, h3, h4, h5⟩, h6, h7⟩, h8, h9⟩ h10
  ·simp only [if_neg h5]
   exact pS_7 A w H_l h0 h1 h2 h3 h4 h5
theorem take_le {n : Int} {p : Po} (h : checkN n p = 0) : -1000000 ≤ takeN p ∧ takeN p ≤ 1000000 := by
 obtain ⟨_, _, _, h1, _⟩ := sides h
 unfold takeN
 repeat' split
 all_goals omega
theorem sum_snoc (f : Po → Int) (x : Po) : ∀ l : List Po, sumN f (l ++ [x]) = sumN f l + f x
 | [] => by simp [sumN]
 | y :: l => by
  have := sum_snoc f x l
  simp only [sumN, List.cons_append, List.foldr_cons] at this ⊢
  omega
theorem pS_L0_n (A : pS_A) (w : World) {n : Int} {l : List Po} (hn : A.n = n) (hl : A.l = l) (h : (rollN n l).2 = 0) (hL : (l.length : Int) ≤ 40) : ∀ (fu : Nat) (v i : Int), (0 ≤ i ∧ i ≤ 201) → 201 - i < fu → v = sumN (cumN i) l → pS_L0 A w fu v i = some (1, default, 0, ()) := by
 intro fu
 induction fu with
 | zero => intros; omega
 | succ fu ih =>
  intro v i h0 hm hv
  have hc := fun a x hx => cum_le (roll_formed h (x := x) hx) a
  rw [pS_L0, hn, hl]
  by_cases hi : i ≤ 200
  ·have b1 := sum_le (fun x hx => eff_le (roll_formed h hx) i)
   have b2 := sum_le (hc i)
   simp only [if_pos hi, balance_all h hL, if_true]
   rw [wrap64 (by omega)]
   exact ih _ _ (by omega) (by omega) (by rw [cum_next]; omega)
  ·rw [if_neg hi]
   have : i = 201 := by omega
   subst this
   rw [hv, sum_0 (fun x hx => cum_201 (roll_formed h hx))]
theorem pS_L1_n (A : pS_A) (w : World) (y z : Int) {n : Int} {l : List Po} (hn : A.n = n) (hl : A.l = l) (h : (rollN n l).2 = 0) (hL : (l.length : Int) ≤ 40) : ∀ (fu : Nat) (v i : Int), (0 ≤ i ∧ i ≤ (l.length : Int)) → (l.length : Int) - i < fu → v = sumN takeN (l.take i.toNat) → pS_L1 A w y z fu v i = some (1, default, sumN takeN l, ()) := by
 intro fu
 induction fu with
 | zero => intros; omega
 | succ fu ih =>
  intro v i h0 hm hv
  rw [pS_L1, hn, hl]
  by_cases hi : i < (l.length : Int)
  ·have hck := (reeve_of (roll_steps h i ⟨h0.1, hi⟩)).1
   have b0 := (sides hck).2.2.2.1
   have b1 := sum_le (f := takeN) (l := l.take i.toNat) (fun x hx => take_le (roll_formed h (List.mem_of_mem_take hx)))
   have b2 : ((l.take i.toNat).length : Int) ≤ 40 := by rw [List.length_take]; omega
   have e0 : sumN takeN (l.take (i + 1).toNat) = v + takeN (at_ l i) := by rw [take_succ ⟨h0.1, hi⟩, sum_snoc, hv]
   have e := fun v' => ih v' (i + 1) (by omega) (by omega)
   rw [if_pos hi]
   by_cases k3 : (at_ l i).kind = 3
   ·rw [if_pos k3, wrap64 (by omega)]
    refine e _ ?_
    rw [e0]; unfold takeN
    rw [if_pos k3, if_neg (by omega)]; omega
   ·rw [if_neg k3]
    by_cases k4 : (at_ l i).kind = 4
    ·rw [if_pos k4]
     by_cases kb : 0 < (at_ l i).by_.number
     ·rw [if_pos kb, wrap64 (by omega)]
      refine e _ ?_
      rw [e0]; unfold takeN
      rw [if_neg k3, if_pos ⟨k4, kb⟩]; omega
     ·rw [if_neg kb]
      refine e _ ?_
      rw [e0]; unfold takeN
      rw [if_neg k3, if_neg (fun g => kb g.2)]; omega
    ·rw [if_neg k4]
     have et : v = sumN takeN (l.take (i + 1).toNat) := by
      rw [e0]; unfold takeN
      rw [if_neg k3, if_neg (fun g => k4 g.1)]; omega
     by_cases k1 : (at_ l i).kind = 1
     ·obtain ⟨o1, o2, o3⟩ := owed_ok h hL ⟨h0.1, hi⟩ (.inl k1)
      rw [if_pos k1, if_pos o1, if_neg (by omega), if_neg (by omega)]
      exact e _ et
     ·rw [if_neg k1]
      by_cases k2 : (at_ l i).kind = 2
      ·obtain ⟨o1, o2, o3⟩ := owed_ok h hL ⟨h0.1, hi⟩ (.inr k2)
       rw [if_pos k2, if_pos o1, if_neg (by omega), if_neg (by omega)]
       exact e _ et
      ·rw [if_neg k2]
       exact e _ et
  ·rw [if_neg hi, hv, List.take_of_length_le (by omega)]
theorem pSums_r_n (A : pS_A) (w : World) {n : Int} {l : List Po} (hn : A.n = n) (hl : A.l = l) : pS_r A w = true := by
 unfold pS_r
 rw [hn, hl]
 by_cases hL : 40 < ((l.length : Nat) : Int)
 ·rw [if_pos hL]
 rw [if_neg hL]
 by_cases h : (rollN n l).2 = 0
 case neg => rw [if_neg h]
 have hL' : (l.length : Int) ≤ 40 := by omega
 have b := sum_le (f := takeN) (l := l) (fun x hx => take_le (roll_formed h hx))
 rw [if_pos h, pS_L0_n A w hn hl h hL' _ _ _ (by omega) (by omega) (by rw [sum_0 (fun x hx => cum_0 (roll_formed h hx))])]
 have e := fun y z => pS_L1_n A w y z hn hl h hL' (((((l.length : Nat) : Int) - 0) : Int).toNat + 1) 0 0 (by omega) (by omega) rfl
 simp only [e, transit h hL', if_true, wrap64 (x := - sumN takeN l) (by omega)]
theorem sums_walk {n : Int} {a_l : Option Addr} {b_l o_l κ_l : Nat} {l : List Po} {w : World} (H : LstAt poC w a_l b_l o_l l) (h0 : l.length ≤ κ_l) (h3 : -9223372036854775808 ≤ n ∧ n ≤ 9223372036854775807) (h1 : KindR l) (h2 : RefR l) : Calls Tryz.prog 5 #[.int .i64 n, .slice a_l l.length κ_l] w fun e w' => e = .returned (.bool true) ∧ Chg (fun _ => False) w w' := by
 have := pS_any ⟨n, a_l, b_l, o_l, κ_l, l⟩ w H (by show ((l.length : Nat) : Int) ≤ ((κ_l : Nat) : Int); omega) h1 h2 h3
 rw [pSums_r_n _ w rfl rfl] at this
 exact this
end Go.Proofs.YtocabeobfbhajaaGreatDoor.Sx
end
