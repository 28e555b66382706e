/- Parts of the proof. -/
import Derived.Test.YtocabeobfbhajaaGreatDoorAllE
import Derived.Test.YtocabeobfbhajaaGreatDoorAllG
import Derived.Test.YtocabeobfbhajaaGreatDoorAllH
import Derived.Test.YtocabeobfbhajaaGreatDoorImp
set_option linter.unusedVariables false
set_option linter.unusedSimpArgs false
set_option linter.unusedSectionVars false
section
set_option maxRecDepth 100000
set_option maxHeartbeats 0
namespace Go.Proofs.YtocabeobfbhajaaGreatDoor.Sx
open Go Go.Proofs Go.Proofs.YtocabeobfbhajaaGreatDoor Go.Proofs.YtocabeobfbhajaaGreatDoor.Sx
structure pJ_A where
 n : Int
 a_l : Option Addr
 b_l : Nat
 o_l : Nat
 κ_l : Nat
 l : List Po
 of : Rf
 reeve : Int
 account : Int
def pJ_r  (A : pJ_A) (w : World) : Bool := (if 40 < (A.l.length : Int) then true else (if (rollN A.n A.l).1 = (rrollN A.n A.l).1 then (if (rollN A.n A.l).2 = (rrollN A.n A.l).2 then (if (owedTN A.n A.l A.of).1 = (rowedTN A.n A.l A.of).1 then (if (owedTN A.n A.l A.of).2 = (rowedTN A.n A.l A.of).2 then (if (unsetTN A.n A.l A.reeve) = (runsetTN A.n A.l A.reeve) then (if (balanceN A.n A.l A.account).1 = (rbalanceN A.n A.l A.account).1 then (if (balanceN A.n A.l A.account).2 = (rbalanceN A.n A.l A.account).2 then true else false) else false) else false) else false) else false) else false) else false))
theorem pJ_any  (A : pJ_A) (w : World) (H_l : LstAt poC w A.a_l A.b_l A.o_l A.l) (h0 : (A.l.length : Int) ≤ (A.κ_l : Int)) (h1 : KindR A.l) (h2 : -9223372036854775808 ≤ A.n ∧ A.n ≤ 9223372036854775807) (h3 : -9223372036854775808 ≤ A.of.reeve ∧ A.of.reeve ≤ 9223372036854775807) (h4 : -9223372036854775808 ≤ A.of.number ∧ A.of.number ≤ 9223372036854775807) (h5 : -9223372036854775808 ≤ A.account ∧ A.account ≤ 9223372036854775807) (h6 : -9223372036854775808 ≤ A.reeve ∧ A.reeve ≤ 9223372036854775807) : Calls Tryz.prog 6 #[.int .i64 A.n, .slice A.a_l A.l.length A.κ_l, A.of.val, .int .i64 A.reeve, .int .i64 A.account] w fun e w' => e = .returned (.bool (pJ_r A w)) ∧ Chg (fun _ => False) w w' := by
 unfold pJ_r
 refine wGo (E := E0) (n := 8) (w := w) (L := id) ?_
 refine wS (.agg #[] :: I A.n :: .slice A.a_l A.l.length A.κ_l :: I A.of.reeve :: I A.of.number :: I A.reeve :: I A.account :: I (A.l.length : Int) :: []) (wN 38 2 7 ?_)
 split <;> rename_i h7
 ·refine wT .gtr 7 (J 40) h7 (wC (⟨14, [.tup [], .tup []], .bool true⟩) (fun _ => q_cV (h := fun w hw => by exact impounded_any w)) ?_)
  exact wZ (.bool true) [1, 2, .agg [3, 4], 5, 6]
 ·have h8 : ((unsetTN A.n A.l A.reeve).length : Int) ≤ ((A.l).length : Int) := unsetTN_le _ _ _
  have h9 : ((runsetTN A.n A.l A.reeve).length : Int) ≤ ((A.l).length : Int) := runsetTN_le _ _ _
  refine wS (I ((rollN A.n A.l).1) :: I ((rollN A.n A.l).2) :: I ((rrollN A.n A.l).1) :: I ((rrollN A.n A.l).2) :: I ((owedTN A.n A.l A.of).1) :: I ((owedTN A.n A.l A.of).2) :: I ((rowedTN A.n A.l A.of).1) :: I ((rowedTN A.n A.l A.of).2) :: Codec.flat rfC (unsetTN A.n A.l A.reeve) :: I (((unsetTN A.n A.l A.reeve).length : Int)) :: I ((rollN A.n A.l).2) :: Codec.flat rfC (runsetTN A.n A.l A.reeve) :: I (((runsetTN A.n A.l A.reeve).length : Int)) :: I ((rollN A.n A.l).2) :: I ((balanceN A.n A.l A.account).1) :: I ((balanceN A.n A.l A.account).2) :: I ((rbalanceN A.n A.l A.account).1) :: I ((rbalanceN A.n A.l A.account).2) :: []) (wF .gtr 7 (J 40) h7 (wC (⟨29, [.tup [1, 2], .tup []], .tup [8, 9]⟩) (fun _ => q_cV (h := fun w hw => by exact pRoll_n (LstAt.old H_l hw) (by omega) (by omega) (show -9223372036854775808 ≤ A.n ∧ A.n ≤ 9223372036854775807 by omega))) (wC (⟨32, [.tup [1, 2], .tup []], .tup [10, 11]⟩) (fun _ => q_cV (h := fun w hw => by exact pRRoll_n (LstAt.old H_l hw) (by omega) (by omega) (show -9223372036854775808 ≤ A.n ∧ A.n ≤ 9223372036854775807 by omega))) (wC (⟨31, [.tup [1, 2, .agg [3, 4]], .tup []], .tup [12, 13]⟩) (fun _ => q_cV (h := fun w hw => by exact pOwedT_n (LstAt.old H_l hw) (by omega) (by omega) (show -9223372036854775808 ≤ A.n ∧ A.n ≤ 9223372036854775807 by omega) (x := A.of) (show -9223372036854775808 ≤ A.of.reeve ∧ A.of.reeve ≤ 9223372036854775807 by omega) (show -9223372036854775808 ≤ A.of.number ∧ A.of.number ≤ 9223372036854775807 by omega))) (wC (⟨33, [.tup [1, 2, .agg [3, 4]], .tup []], .tup [14, 15]⟩) (fun _ => q_cV (h := fun w hw => by exact pROwedT_n (LstAt.old H_l hw) (by omega) (by omega) (show -9223372036854775808 ≤ A.n ∧ A.n ≤ 9223372036854775807 by omega) _)) (wC (⟨30, [.tup [1, 2, 6], .tup []], .tup [22, 23]⟩) (fun _ => q_cV (h := fun w hw => by exact pBalance_n (LstAt.old H_l hw) (by omega) h1 (by omega) (show -9223372036854775808 ≤ A.n ∧ A.n ≤ 9223372036854775807 by omega) (show -9223372036854775808 ≤ A.account ∧ A.account ≤ 9223372036854775807 by omega))) (wC (⟨36, [.tup [1, 2, 6], .tup []], .tup [24, 25]⟩) (fun _ => q_cV (h := fun w hw => by exact pRBalance_n (LstAt.old H_l hw) (by omega) h1 (by omega) (show -9223372036854775808 ≤ A.n ∧ A.n ≤ 9223372036854775807 by omega))) (wC (⟨14, [.tup [], .tup []], .bool true⟩) (fun _ => q_cV (h := fun w hw => by exact impounded_any w)) (wM (⟨34, [1, 2, 5], [], 9, 0, .tup [(.sls 9 2 (J 0) 17 2), 18], [(16, 2, 17)]⟩) (fun _ => q_callN (F := fun zs => .tuple #[(zs.getD 0 undef), .int .i64 ((rollN A.n A.l).2)]) (rs := [⟨(unsetTN A.n A.l A.reeve).flatMap rfC.f, 2, (unsetTN A.n A.l A.reeve).length⟩]) (.val _ _ _ _ _ rfl (.val _ _ _ _ _ rfl (.val _ _ _ _ _ rfl .nil))) rfl rfl ⟨rfl, rfl, flat_length _ _, flat_one _ _, rfl, trivial⟩ rfl (fun zs h => match zs, h with | [_], _ => rfl) (fun w xs hw hq => by obtain ⟨_, rfl, _, rfl, _, rfl, rfl⟩ := hq; exact pUnset_n (LstAt.old H_l hw) (by omega) (by omega) (show -9223372036854775808 ≤ A.n ∧ A.n ≤ 9223372036854775807 by omega) _)) (wM (⟨35, [1, 2, 5], [], 10, 1, .tup [(.sls 10 2 (J 0) 20 3), 21], [(19, 2, 20)]⟩) (fun _ => q_callN (F := fun zs => .tuple #[(zs.getD 0 undef), .int .i64 ((rollN A.n A.l).2)]) (rs := [⟨(runsetTN A.n A.l A.reeve).flatMap rfC.f, 2, (runsetTN A.n A.l A.reeve).length⟩]) (.val _ _ _ _ _ rfl (.val _ _ _ _ _ rfl (.val _ _ _ _ _ rfl .nil))) rfl rfl ⟨rfl, rfl, flat_length _ _, flat_one _ _, rfl, trivial⟩ rfl (fun zs h => match zs, h with | [_], _ => rfl) (fun w xs hw hq => by obtain ⟨_, rfl, _, rfl, _, rfl, rfl⟩ := hq; exact pRUnsetT_n (LstAt.old H_l hw) (by omega) (by omega) (show -9223372036854775808 ≤ A.n ∧ A.n ≤ 9223372036854775807 by omega) _)) ?_))))))))))
  split <;> rename_i h10
  ·refine wT .eql 8 10 h10 ?_
   split <;> rename_i h11
   ·refine wT .eql 9 11 h11 ?_
    split <;> rename_i h12
    ·refine wT .eql 12 14 h12 ?_
     split <;> rename_i h13
     ·refine wT .eql 13 15 h13 ?_
      split <;> rename_i h14
      ·refine wT .eql 18 21 (show ((rollN A.n A.l).2) = ((rollN A.n A.l).2) by omega) (wC (⟨37, [.tup [.sls 9 2 (J 0) 17 2, .sls 10 2 (J 0) 20 3], .tup [16, 19]], (.bool true)⟩) (fun _ => q_callT (.lst _ rfC (unsetTN A.n A.l A.reeve) (unsetTN A.n A.l A.reeve) _ 2 _ _ _ _ 0 _ _ _ rfl rfl rfl rfl (by simp) (.lst _ rfC (runsetTN A.n A.l A.reeve) (runsetTN A.n A.l A.reeve) _ 2 _ _ _ _ 0 _ _ _ rfl rfl rfl rfl (by simp) .nil)) rfl rfl rfl (fun w xs hw hq => by obtain ⟨a0, b0, o0, κ0, _, rfl, hκ0, hL0, a1, b1, o1, κ1, _, rfl, hκ1, hL1, rfl⟩ := hq; have hb := decide_eq_true h14; rw [← hb]; exact pSameRefs_n hL0 hL1 hκ0 hκ1 (show ((unsetTN A.n A.l A.reeve).length : Int) ≤ 1000 by omega) (show ((runsetTN A.n A.l A.reeve).length : Int) ≤ 1000 by omega))) ?_)
       split <;> rename_i h15
       ·refine wT .eql 22 24 h15 ?_
        split <;> rename_i h16
        ·refine wT .eql 23 25 h16 ?_
         exact wZ (.bool true) [1, 2, .agg [3, 4], 5, 6]
        ·refine wF .eql 23 25 h16 ?_
         exact wZ (.bool false) [1, 2, .agg [3, 4], 5, 6]
       ·refine wF .eql 22 24 h15 ?_
        exact wZ (.bool false) [1, 2, .agg [3, 4], 5, 6]
      ·refine wC (⟨37, [.tup [.sls 9 2 (J 0) 17 2, .sls 10 2 (J 0) 20 3], .tup [16, 19]], (.bool false)⟩) (fun _ => q_callT (.lst _ rfC (unsetTN A.n A.l A.reeve) (unsetTN A.n A.l A.reeve) _ 2 _ _ _ _ 0 _ _ _ rfl rfl rfl rfl (by simp) (.lst _ rfC (runsetTN A.n A.l A.reeve) (runsetTN A.n A.l A.reeve) _ 2 _ _ _ _ 0 _ _ _ rfl rfl rfl rfl (by simp) .nil)) rfl rfl rfl (fun w xs hw hq => by obtain ⟨a0, b0, o0, κ0, _, rfl, hκ0, hL0, a1, b1, o1, κ1, _, rfl, hκ1, hL1, rfl⟩ := hq; have hb := decide_eq_false h14; rw [← hb]; exact pSameRefs_n hL0 hL1 hκ0 hκ1 (show ((unsetTN A.n A.l A.reeve).length : Int) ≤ 1000 by omega) (show ((runsetTN A.n A.l A.reeve).length : Int) ≤ 1000 by omega))) ?_
       exact wZ (.bool false) [1, 2, .agg [3, 4], 5, 6]
     ·refine wF .eql 13 15 h13 ?_
      exact wZ (.bool false) [1, 2, .agg [3, 4], 5, 6]
    ·refine wF .eql 12 14 h12 ?_
     exact wZ (.bool false) [1, 2, .agg [3, 4], 5, 6]
   ·refine wF .eql 9 11 h11 ?_
    exact wZ (.bool false) [1, 2, .agg [3, 4], 5, 6]
  ·refine wF .eql 8 10 h10 ?_
   exact wZ (.bool false) [1, 2, .agg [3, 4], 5, 6]
theorem pJ_r_n (A : pJ_A) (w : World) : pJ_r A w = true := by
 unfold pJ_r
 by_cases hl : 40 < (A.l.length : Int)
 ·rw [if_pos hl]
 rw [if_neg hl, rroll_same, owed_same, unsetT_same, balance_same (by omega)]
 simp only [if_true]
theorem rolls_walk {n r acc : Int} {x : Rf} {a_l : Option Addr} {b_l o_l κ_l : Nat} {l : List Po} {w : World} (H : LstAt poC w a_l b_l o_l l) (h0 : l.length ≤ κ_l) (h1 : KindR l) (h2 : -9223372036854775808 ≤ n ∧ n ≤ 9223372036854775807) (h3 : -9223372036854775808 ≤ x.reeve ∧ x.reeve ≤ 9223372036854775807) (h4 : -9223372036854775808 ≤ x.number ∧ x.number ≤ 9223372036854775807) (h5 : -9223372036854775808 ≤ acc ∧ acc ≤ 9223372036854775807) (h6 : -9223372036854775808 ≤ r ∧ r ≤ 9223372036854775807) : Calls Tryz.prog 6 #[.int .i64 n, .slice a_l l.length κ_l, x.val, .int .i64 r, .int .i64 acc] w fun e w' => e = .returned (.bool true) ∧ Chg (fun _ => False) w w' := by
 have := pJ_any ⟨n, a_l, b_l, o_l, κ_l, l, x, r, acc⟩ w H (by show (l.length : Int) ≤ (κ_l : Int); omega) h1 h2 h3 h4 h5 h6
 rw [pJ_r_n _ w] at this
 exact this
end Go.Proofs.YtocabeobfbhajaaGreatDoor.Sx
end
