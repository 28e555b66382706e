/- Parts of the proof. -/
import Derived.Test.YtocabeobfbhajaaGreatDoorAllE
import Derived.Test.YtocabeobfbhajaaGreatDoorAllG
set_option linter.unusedVariables false
set_option linter.unusedSimpArgs false
set_option linter.unusedSectionVars false
section
set_option maxRecDepth 100000
set_option maxHeartbeats 0
namespace Go.Proofs.YtocabeobfbhajaaGreatDoor.Sx
open Go Go.Proofs Go.Proofs.YtocabeobfbhajaaGreatDoor Go.Proofs.YtocabeobfbhajaaGreatDoor.Sx
structure pE_A where
 n : Int
 a_l : Option Addr
 b_l : Nat
 o_l : Nat
 κ_l : Nat
 l : List Po
 reeve : Int
def pE_L0_H : Head := (⟨[(0, 1), (1, 2), (2, 3), (6, .ns), (7, .int .i64 0), (8, .ptr 13 0), (9, 14), (10, 15), (11, .sls 15 2 (.int .i64 0) 19 8), (14, .tup [.agg [.sls 8 11 (.int .i64 0) 5 2, .sls 9 11 (.int .i64 0) 7 3, .sls 10 11 (.int .i64 0) 9 4, .sls 11 11 (.int .i64 0) 11 5, .sls 12 11 (.int .i64 0) 13 6], 14, 15]), (15, 1), (16, 2), (17, .tup [.agg [.sls 8 11 (.int .i64 0) 5 2, .sls 9 11 (.int .i64 0) 7 3, .sls 10 11 (.int .i64 0) 9 4, .sls 11 11 (.int .i64 0) 11 5, .sls 12 11 (.int .i64 0) 13 6], 14, 15]), (18, .agg [.sls 8 11 (.int .i64 0) 5 2, .sls 9 11 (.int .i64 0) 7 3, .sls 10 11 (.int .i64 0) 9 4, .sls 11 11 (.int .i64 0) 11 5, .sls 12 11 (.int .i64 0) 13 6]), (19, 14), (20, 15), (21, 15), (22, .bool false), (24, 3), (25, .sls 14 11 (.int .i64 0) 17 1), (26, 17), (27, 20)], [(8, .lst 4 11 1), (9, .lst 6 11 2), (10, .lst 8 11 3), (11, .lst 10 11 4), (12, .lst 12 11 5), (13, .cells [.sls 8 11 (.int .i64 0) 5 2, .sls 9 11 (.int .i64 0) 7 3, .sls 10 11 (.int .i64 0) 9 4, .sls 11 11 (.int .i64 0) 11 5, .sls 12 11 (.int .i64 0) 13 6] 0 0), (14, .lst 16 11 6), (15, .lst 18 2 7)], 15, 16, 6, 7, 18, 21⟩ : Head)
def pE_L0_R : Rn := ⟨15, [15], 6, [6], 18, [0, .int .i64 0, .int .i64 0]⟩
def pE_L0_B  (A : pE_A) (w : World) (R : List Value) : List Value := .agg #[] :: .int .i64 A.n :: .slice A.a_l A.l.length A.κ_l :: .int .i64 A.reeve :: Codec.flat poC (booksN A.n A.l 0) :: .int .i64 (((booksN A.n A.l 0).length : Int)) :: Codec.flat poC (booksN A.n A.l 1) :: .int .i64 (((booksN A.n A.l 1).length : Int)) :: Codec.flat poC (booksN A.n A.l 2) :: .int .i64 (((booksN A.n A.l 2).length : Int)) :: Codec.flat poC (booksN A.n A.l 3) :: .int .i64 (((booksN A.n A.l 3).length : Int)) :: Codec.flat poC (booksN A.n A.l 4) :: .int .i64 (((booksN A.n A.l 4).length : Int)) :: .int .i64 ((rollN A.n A.l).1) :: .int .i64 ((rollN A.n A.l).2) :: Codec.flat poC ((unsetN (row5 (booksN A.n A.l 0) (booksN A.n A.l 1) (booksN A.n A.l 2) (booksN A.n A.l 3) (booksN A.n A.l 4)) A.reeve)) :: .int .i64 (((unsetN (row5 (booksN A.n A.l 0) (booksN A.n A.l 1) (booksN A.n A.l 2) (booksN A.n A.l 3) (booksN A.n A.l 4)) A.reeve).length : Int)) :: R
def pE_L0_X0 : Head := (⟨[(0, 1), (1, 2), (2, 3), (6, .ns), (7, .int .i64 0), (8, .ptr 13 0), (10, 15), (11, .sls 15 2 (.int .i64 0) 19 8), (14, .tup [.agg [.sls 8 11 (.int .i64 0) 5 2, .sls 9 11 (.int .i64 0) 7 3, .sls 10 11 (.int .i64 0) 9 4, .sls 11 11 (.int .i64 0) 11 5, .sls 12 11 (.int .i64 0) 13 6], 14, 15]), (15, 1), (16, 2), (17, .tup [.agg [.sls 8 11 (.int .i64 0) 5 2, .sls 9 11 (.int .i64 0) 7 3, .sls 10 11 (.int .i64 0) 9 4, .sls 11 11 (.int .i64 0) 11 5, .sls 12 11 (.int .i64 0) 13 6], 14, 15]), (18, .agg [.sls 8 11 (.int .i64 0) 5 2, .sls 9 11 (.int .i64 0) 7 3, .sls 10 11 (.int .i64 0) 9 4, .sls 11 11 (.int .i64 0) 11 5, .sls 12 11 (.int .i64 0) 13 6]), (19, 14), (20, 15), (21, 15), (22, .bool false), (24, 3), (25, .sls 14 11 (.int .i64 0) 17 1)], [(8, .lst 4 11 1), (9, .lst 6 11 2), (10, .lst 8 11 3), (11, .lst 10 11 4), (12, .lst 12 11 5), (13, .cells [.sls 8 11 (.int .i64 0) 5 2, .sls 9 11 (.int .i64 0) 7 3, .sls 10 11 (.int .i64 0) 9 4, .sls 11 11 (.int .i64 0) 11 5, .sls 12 11 (.int .i64 0) 13 6] 0 0), (14, .lst 16 11 6), (15, .lst 18 2 7)], 15, 16, 6, 7, 18, 20⟩ : Head)
def pE_L0  (A : pE_A) (w : World) : Nat → List Rf → Int → Option (Nat × List Rf × Unit)
 | 0, _, _ => none
 | fu_ + 1, l00, v01 => (if v01 < ((unsetN (row5 (booksN A.n A.l 0) (booksN A.n A.l 1) (booksN A.n A.l 2) (booksN A.n A.l 3) (booksN A.n A.l 4)) A.reeve).length : Int) then pE_L0 A w fu_ ((l00 ++ [(⟨((at_ ((unsetN (row5 (booksN A.n A.l 0) (booksN A.n A.l 1) (booksN A.n A.l 2) (booksN A.n A.l 3) (booksN A.n A.l 4)) A.reeve)) v01).reeve), ((at_ ((unsetN (row5 (booksN A.n A.l 0) (booksN A.n A.l 1) (booksN A.n A.l 2) (booksN A.n A.l 3) (booksN A.n A.l 4)) A.reeve)) v01).number)⟩ : Rf)])) (v01 + 1) else some (0, l00, ()))
def pE_r  (A : pE_A) (w : World) : List Rf × Int := (if ((rollN A.n A.l).2) = 0 then (match pE_L0 A w ((((((unsetN (row5 (booksN A.n A.l 0) (booksN A.n A.l 1) (booksN A.n A.l 2) (booksN A.n A.l 3) (booksN A.n A.l 4)) A.reeve)).length : Int) - 0) : Int).toNat + 1) ([]) 0 with | some (0, y0_00, _) => (y0_00, 0) | _ => default) else ([], ((rollN A.n A.l).2)))
theorem pE_any  (A : pE_A) (w : World) (H_l : LstAt poC w A.a_l A.b_l A.o_l A.l) (h0 : (A.l.length : Int) ≤ (A.κ_l : Int)) (h1 : (A.l.length : Int) ≤ 1000) (h2 : -9223372036854775808 ≤ A.n ∧ A.n ≤ 9223372036854775807) : Calls Tryz.prog 34 #[.int .i64 A.n, .slice A.a_l A.l.length A.κ_l, .int .i64 A.reeve] w fun e w' => ∃ zs : List Value, e = .returned (.tuple #[(zs.getD 0 undef), .int .i64 ((pE_r A w).2)]) ∧ FrAll w.heap.size w' [⟨((pE_r A w).1 : List Rf).flatMap rfC.f, 2, ((pE_r A w).1 : List Rf).length⟩] zs [] ∧ Chg (fun _ => False) w w' := by
 unfold pE_r
 refine wGo (E := E0) (n := 8) (w := w) (L := id) ?_
 have h3 : ((booksN A.n A.l 0).length : Int) ≤ ((A.l).length : Int) := books_le _ _ _
 have h4 : ((booksN A.n A.l 1).length : Int) ≤ ((A.l).length : Int) := books_le _ _ _
 have h5 : ((booksN A.n A.l 2).length : Int) ≤ ((A.l).length : Int) := books_le _ _ _
 have h6 : ((booksN A.n A.l 3).length : Int) ≤ ((A.l).length : Int) := books_le _ _ _
 have h7 : ((booksN A.n A.l 4).length : Int) ≤ ((A.l).length : Int) := books_le _ _ _
 refine wS (.agg #[] :: I A.n :: .slice A.a_l A.l.length A.κ_l :: I A.reeve :: Codec.flat poC (booksN A.n A.l 0) :: I (((booksN A.n A.l 0).length : Int)) :: Codec.flat poC (booksN A.n A.l 1) :: I (((booksN A.n A.l 1).length : Int)) :: Codec.flat poC (booksN A.n A.l 2) :: I (((booksN A.n A.l 2).length : Int)) :: Codec.flat poC (booksN A.n A.l 3) :: I (((booksN A.n A.l 3).length : Int)) :: Codec.flat poC (booksN A.n A.l 4) :: I (((booksN A.n A.l 4).length : Int)) :: I ((rollN A.n A.l).1) :: I ((rollN A.n A.l).2) :: []) (wM (⟨97, [1, 2], [], 8, 0, .tup [.agg [(.sls 8 11 (J 0) 5 2), (.sls 9 11 (J 0) 7 3), (.sls 10 11 (J 0) 9 4), (.sls 11 11 (J 0) 11 5), (.sls 12 11 (J 0) 13 6)], 14, 15], [(4, 11, 5), (6, 11, 7), (8, 11, 9), (10, 11, 11), (12, 11, 13)]⟩) (fun _ => q_callN (F := fun zs => .tuple #[.agg #[(zs.getD 0 undef), (zs.getD 1 undef), (zs.getD 2 undef), (zs.getD 3 undef), (zs.getD 4 undef)], .int .i64 ((rollN A.n A.l).1), .int .i64 ((rollN A.n A.l).2)]) (rs := [⟨(booksN A.n A.l 0).flatMap poC.f, 11, (booksN A.n A.l 0).length⟩, ⟨(booksN A.n A.l 1).flatMap poC.f, 11, (booksN A.n A.l 1).length⟩, ⟨(booksN A.n A.l 2).flatMap poC.f, 11, (booksN A.n A.l 2).length⟩, ⟨(booksN A.n A.l 3).flatMap poC.f, 11, (booksN A.n A.l 3).length⟩, ⟨(booksN A.n A.l 4).flatMap poC.f, 11, (booksN A.n A.l 4).length⟩]) (.val _ _ _ _ _ rfl (.val _ _ _ _ _ rfl .nil)) rfl rfl ⟨rfl, rfl, flat_length _ _, flat_one _ _, rfl, ⟨rfl, rfl, flat_length _ _, flat_one _ _, rfl, ⟨rfl, rfl, flat_length _ _, flat_one _ _, rfl, ⟨rfl, rfl, flat_length _ _, flat_one _ _, rfl, ⟨rfl, rfl, flat_length _ _, flat_one _ _, rfl, trivial⟩⟩⟩⟩⟩ rfl (fun zs h => match zs, h with | [_, _, _, _, _], _ => rfl) (fun w xs hw hq => by obtain ⟨_, rfl, _, rfl, rfl⟩ := hq; exact pChecked_n (LstAt.old H_l hw) (by first | omega | (simp only [List.length_take]; omega)) (by omega) (show -9223372036854775808 ≤ A.n ∧ A.n ≤ 9223372036854775807 by omega))) ?_)
 split <;> rename_i h8
 ·have h9 : ((unsetN (row5 (booksN A.n A.l 0) (booksN A.n A.l 1) (booksN A.n A.l 2) (booksN A.n A.l 3) (booksN A.n A.l 4)) A.reeve).length : Int) ≤ 5000 := unsetN_le (show ((booksN A.n A.l 0).length : Int) ≤ 1000 ∧ ((booksN A.n A.l 1).length : Int) ≤ 1000 ∧ ((booksN A.n A.l 2).length : Int) ≤ 1000 ∧ ((booksN A.n A.l 3).length : Int) ≤ 1000 ∧ ((booksN A.n A.l 4).length : Int) ≤ 1000 by omega) _
  refine wS (Codec.flat poC ((unsetN (row5 (booksN A.n A.l 0) (booksN A.n A.l 1) (booksN A.n A.l 2) (booksN A.n A.l 3) (booksN A.n A.l 4)) A.reeve)) :: I (((unsetN (row5 (booksN A.n A.l 0) (booksN A.n A.l 1) (booksN A.n A.l 2) (booksN A.n A.l 3) (booksN A.n A.l 4)) A.reeve).length : Int)) :: []) (wF .neq 15 (J 0) (fun h => h h8) (wE (⟨6000000000 + 38, [.sls 14 11 (J 0) 17 1], 17⟩) (fun _ => q_lenL rfl rfl (by kernel_rfl)) (wM (⟨105, [.ptr 13 0, 3], [.agg [.sls 8 11 (J 0) 5 2, .sls 9 11 (J 0) 7 3, .sls 10 11 (J 0) 9 4, .sls 11 11 (J 0) 11 5, .sls 12 11 (J 0) 13 6], 4, 6, 8, 10, 12], 14, 5, (.sls 14 11 (J 0) 17 1), [(16, 11, 17)]⟩) (fun _ => q_callR (.bk _ poC _ _ _ _ _ _ _ (.cons _ 11 _ _ _ _ 0 (booksN A.n A.l 0) (booksN A.n A.l 0) _ _ _ rfl rfl rfl rfl (by simp) (.cons _ 11 _ _ _ _ 0 (booksN A.n A.l 1) (booksN A.n A.l 1) _ _ _ rfl rfl rfl rfl (by simp) (.cons _ 11 _ _ _ _ 0 (booksN A.n A.l 2) (booksN A.n A.l 2) _ _ _ rfl rfl rfl rfl (by simp) (.cons _ 11 _ _ _ _ 0 (booksN A.n A.l 3) (booksN A.n A.l 3) _ _ _ rfl rfl rfl rfl (by simp) (.cons _ 11 _ _ _ _ 0 (booksN A.n A.l 4) (booksN A.n A.l 4) _ _ _ rfl rfl rfl rfl (by simp) .nil))))) (.val _ _ _ _ _ rfl .nil)) rfl ⟨rfl, rfl, flat_length _ _, flat_one _ _, rfl, trivial⟩ (fun w xs hw hq => by obtain ⟨B0, O0, _, rfl, hB0, _, rfl, rfl⟩ := hq; exact pUnsetB_n hB0 (show ((booksN A.n A.l 0).length : Int) ≤ 1000 ∧ ((booksN A.n A.l 1).length : Int) ≤ 1000 ∧ ((booksN A.n A.l 2).length : Int) ≤ 1000 ∧ ((booksN A.n A.l 3).length : Int) ≤ 1000 ∧ ((booksN A.n A.l 4).length : Int) ≤ 1000 by omega) _)) ?_)))
  refine wK (K := ∀ (fu_ : Nat) (l00 : List Rf) (v01 : Int), (0 ≤ v01 ∧ v01 ≤ (((unsetN (row5 (booksN A.n A.l 0) (booksN A.n A.l 1) (booksN A.n A.l 2) (booksN A.n A.l 3) (booksN A.n A.l 4)) A.reeve)).length : Int) ∧ (l00.length : Int) ≤ (((unsetN (row5 (booksN A.n A.l 0) (booksN A.n A.l 1) (booksN A.n A.l 2) (booksN A.n A.l 3) (booksN A.n A.l 4)) A.reeve)).length : Int) ∧ (l00.length : Int) ≤ v01) → (((((unsetN (row5 (booksN A.n A.l 0) (booksN A.n A.l 1) (booksN A.n A.l 2) (booksN A.n A.l 3) (booksN A.n A.l 4)) A.reeve)).length : Int) - v01) : Int) < fu_ → ∃ o, pE_L0 A w fu_ l00 v01 = some o ∧ RdsD Tryz.prog 8 34 6 w pE_L0_H (pE_L0_B A w [Codec.flat rfC l00, .int .i64 (l00.length : Int), .int .i64 v01]) fu_ [(o.1 = 0 ∧ ((o.2.1.length : Int) ≤ (((unsetN (row5 (booksN A.n A.l 0) (booksN A.n A.l 1) (booksN A.n A.l 2) (booksN A.n A.l 3) (booksN A.n A.l 4)) A.reeve)).length : Int)), pE_L0_X0, pE_L0_B A w [Codec.flat rfC o.2.1, .int .i64 (o.2.1.length : Int)], (.exit 0))]) (fun hq hc hm hp fu_ => ?_) (fun key10 => ?_)
  ·induction fu_ with
   | zero => intro l00 v01 _ hz; exfalso; omega
   | succ fu_ ih =>
    intro l00 v01 h10 hz
    rw [pE_L0]
    refine wB hq hc hm hp ?_
    refine wS (Codec.flat rfC l00 :: I (l00.length : Int) :: I v01 :: []) ?_
    split <;> rename_i h11
    ·refine wS (I ((at_ ((unsetN (row5 (booksN A.n A.l 0) (booksN A.n A.l 1) (booksN A.n A.l 2) (booksN A.n A.l 3) (booksN A.n A.l 4)) A.reeve)) v01).reeve) :: I ((at_ ((unsetN (row5 (booksN A.n A.l 0) (booksN A.n A.l 1) (booksN A.n A.l 2) (booksN A.n A.l 3) (booksN A.n A.l 4)) A.reeve)) v01).number) :: I ((at_ ((unsetN (row5 (booksN A.n A.l 0) (booksN A.n A.l 1) (booksN A.n A.l 2) (booksN A.n A.l 3) (booksN A.n A.l 4)) A.reeve)) v01).tick) :: .int .u8 ((at_ ((unsetN (row5 (booksN A.n A.l 0) (booksN A.n A.l 1) (booksN A.n A.l 2) (booksN A.n A.l 3) (booksN A.n A.l 4)) A.reeve)) v01).kind) :: I ((at_ ((unsetN (row5 (booksN A.n A.l 0) (booksN A.n A.l 1) (booksN A.n A.l 2) (booksN A.n A.l 3) (booksN A.n A.l 4)) A.reeve)) v01).cse) :: I ((at_ ((unsetN (row5 (booksN A.n A.l 0) (booksN A.n A.l 1) (booksN A.n A.l 2) (booksN A.n A.l 3) (booksN A.n A.l 4)) A.reeve)) v01).owner) :: I ((at_ ((unsetN (row5 (booksN A.n A.l 0) (booksN A.n A.l 1) (booksN A.n A.l 2) (booksN A.n A.l 3) (booksN A.n A.l 4)) A.reeve)) v01).of.reeve) :: I ((at_ ((unsetN (row5 (booksN A.n A.l 0) (booksN A.n A.l 1) (booksN A.n A.l 2) (booksN A.n A.l 3) (booksN A.n A.l 4)) A.reeve)) v01).of.number) :: I ((at_ ((unsetN (row5 (booksN A.n A.l 0) (booksN A.n A.l 1) (booksN A.n A.l 2) (booksN A.n A.l 3) (booksN A.n A.l 4)) A.reeve)) v01).by_.reeve) :: I ((at_ ((unsetN (row5 (booksN A.n A.l 0) (booksN A.n A.l 1) (booksN A.n A.l 2) (booksN A.n A.l 3) (booksN A.n A.l 4)) A.reeve)) v01).by_.number) :: I ((at_ ((unsetN (row5 (booksN A.n A.l 0) (booksN A.n A.l 1) (booksN A.n A.l 2) (booksN A.n A.l 3) (booksN A.n A.l 4)) A.reeve)) v01).amount) :: Codec.flat rfC ((l00 ++ [(⟨((at_ ((unsetN (row5 (booksN A.n A.l 0) (booksN A.n A.l 1) (booksN A.n A.l 2) (booksN A.n A.l 3) (booksN A.n A.l 4)) A.reeve)) v01).reeve), ((at_ ((unsetN (row5 (booksN A.n A.l 0) (booksN A.n A.l 1) (booksN A.n A.l 2) (booksN A.n A.l 3) (booksN A.n A.l 4)) A.reeve)) v01).number)⟩ : Rf)])) :: I ((l00.length : Int) + 1) :: I (v01 + 1) :: []) (wT .lss 20 17 h11 (wE (⟨2000000000 + 38, [.sls 14 11 (J 0) 17 1, 20], .pls 14 11 20 0⟩) (fun _ => q_idxL (oz := 0) (m := v01) (n := ((unsetN (row5 (booksN A.n A.l 0) (booksN A.n A.l 1) (booksN A.n A.l 2) (booksN A.n A.l 3) (booksN A.n A.l 4)) A.reeve).length : Int)) rfl rfl rfl rfl (by omega) (by show some v01 = some (0 + v01); exact congrArg some (by omega)) (by kernel_rfl)) (wE (⟨8000000000 + 25, [.pls 14 11 20 0, 16], .agg [21, 22, 23, 24, 25, 26, 27, 28, 29, 30, 31]⟩) (fun _ => q_rowL (C := poC) (X := (unsetN (row5 (booksN A.n A.l 0) (booksN A.n A.l 1) (booksN A.n A.l 2) (booksN A.n A.l 3) (booksN A.n A.l 4)) A.reeve)) (i := v01) rfl rfl rfl rfl ⟨by omega, by first | omega | (simp only [List.length_append, List.length_cons, List.length_nil, List.length_set]; omega)⟩ rfl (by kernel_rfl)) (wE (⟨8000000000 + 200000002, [.tup [18, J 0, 19], .tup [.agg [21, 22]]], .tup [32, 33]⟩) (fun _ => q_app1 (sz := 2) (C := rfC) (X := l00) (e := (⟨((at_ ((unsetN (row5 (booksN A.n A.l 0) (booksN A.n A.l 1) (booksN A.n A.l 2) (booksN A.n A.l 3) (booksN A.n A.l 4)) A.reeve)) v01).reeve), ((at_ ((unsetN (row5 (booksN A.n A.l 0) (booksN A.n A.l 1) (booksN A.n A.l 2) (booksN A.n A.l 3) (booksN A.n A.l 4)) A.reeve)) v01).number)⟩ : Rf)) rfl rfl rfl rfl (by show some (l00.length : Int) = some (((l00).length : Int)); simp) rfl rfl (by show some ((l00.length : Int) + 1) = some (((l00).length : Int) + 1); simp) (by first | omega | (simp only [List.length_append, List.length_cons, List.length_nil]; omega))) (wA 20 (J 1) 34 ?_)))))
     exact wQ (rnG (ih ((l00 ++ [(⟨((at_ ((unsetN (row5 (booksN A.n A.l 0) (booksN A.n A.l 1) (booksN A.n A.l 2) (booksN A.n A.l 3) (booksN A.n A.l 4)) A.reeve)) v01).reeve), ((at_ ((unsetN (row5 (booksN A.n A.l 0) (booksN A.n A.l 1) (booksN A.n A.l 2) (booksN A.n A.l 3) (booksN A.n A.l 4)) A.reeve)) v01).number)⟩ : Rf)])) (v01 + 1) (by simp only [List.length_append, List.length_cons, List.length_nil, List.length_set]; omega) (by omega))) 21 ⟨15, [20], 6, [7], 18, [32, 33, 34]⟩ [] ⟨rfl, (show some (Value.int .i64 ((l00.length : Int) + 1)) = some (Value.int .i64 (((l00 ++ [(⟨((at_ ((unsetN (row5 (booksN A.n A.l 0) (booksN A.n A.l 1) (booksN A.n A.l 2) (booksN A.n A.l 3) (booksN A.n A.l 4)) A.reeve)) v01).reeve), ((at_ ((unsetN (row5 (booksN A.n A.l 0) (booksN A.n A.l 1) (booksN A.n A.l 2) (booksN A.n A.l 3) (booksN A.n A.l 4)) A.reeve)) v01).number)⟩ : Rf)])).length : Int)) from congrArg some (congrArg (Value.int .i64) (by simp))), rfl, trivial⟩
    ·refine wF .lss 20 17 h11 ?_
     exact wQ (fun hr => ⟨(0, l00, ()), rfl, ⟨⟨rfl, (by first | trivial | omega | (simp only [List.length_append, List.length_cons, List.length_nil, List.length_set]; omega))⟩, rndEnd xeE hr⟩⟩) 21 ⟨15, [15], 6, [6], 18, [18, 19]⟩ [] ⟨rfl, rfl, trivial⟩
  obtain ⟨⟨q10, y0_00, _⟩, h10, hk10⟩ := key10 ((((((unsetN (row5 (booksN A.n A.l 0) (booksN A.n A.l 1) (booksN A.n A.l 2) (booksN A.n A.l 3) (booksN A.n A.l 4)) A.reeve)).length : Int) - 0) : Int).toNat + 1) ([]) 0 (by first | trivial | omega | (simp only [List.length_append, List.length_cons, List.length_nil, List.length_set]; omega)) (by first | omega | (simp only [List.length_append, List.length_cons, List.length_nil, List.length_set]; omega))
  rw [h10]
  rcases hk10 with ⟨⟨he10, h11⟩, hr10⟩
  ·have he10 : q10 = 0 := he10
   subst he10
   try simp only []
   have h11 : (y0_00.length : Int) ≤ (((unsetN (row5 (booksN A.n A.l 0) (booksN A.n A.l 1) (booksN A.n A.l 2) (booksN A.n A.l 3) (booksN A.n A.l 4)) A.reeve)).length : Int) := h11
   refine wS (Codec.flat rfC y0_00 :: I (y0_00.length : Int) :: []) ?_
   refine wLp (x := (.exit 0)) rfl hr10 pE_L0_R [2] (fun _ => rfl) (by kernel_rfl) (fun _ => rfl) (fun _ => ⟨rfl, (show some (Value.int .i64 0) = some (Value.int .i64 (([]).length : Int)) from congrArg some (congrArg (Value.int .i64) (by simp))), rfl, trivial⟩) (fun _ => rfl) ?_
   exact wRetL (v := .tup [.sls 15 2 (.int .i64 0) 19 8, .int .i64 0]) (rs := [⟨(y0_00 : List Rf).flatMap rfC.f, 2, (y0_00 : List Rf).length⟩]) ok0 60 60 [1, 2, 3] [(15, .lst 18 2 7)] rfl rfl rfl (by kernel_rfl) ⟨⟨rfl, by decide, ⟨18, 7, rfl, rfl, .inr ⟨rfl, by decide⟩⟩, rfl, (by show some ((y0_00.length : Int) : Int) = some ((y0_00).length : Int); first | (simp; done) | (refine congrArg some ?_; simp only [List.length_append, List.length_cons, List.length_nil]; omega)), rfl, flat_length _ _⟩, trivial⟩ (fun zs hz => match zs, hz with | [_], _ => rfl)
 ·refine wT .neq 15 (J 0) h8 ?_
  exact wRetL (v := .tup [.ns, 15]) (rs := [⟨([] : List Rf).flatMap rfC.f, 2, ([] : List Rf).length⟩]) ok0 60 60 [1, 2, 3] [] rfl rfl rfl (by kernel_rfl) ⟨rfl, trivial⟩ (fun zs hz => match zs, hz with | [_], _ => rfl)
theorem pE_L0_n (A : pE_A) (w : World) {X : List Po} (hX : X = unsetN (row5 (booksN A.n A.l 0) (booksN A.n A.l 1) (booksN A.n A.l 2) (booksN A.n A.l 3) (booksN A.n A.l 4)) A.reeve) : ∀ (n : Nat) (q : List Rf) (i : Int), (0 ≤ i ∧ i ≤ (X.length : Int)) → (X.length : Int) - i < n → pE_L0 A w n q i = some (0, q ++ refsN (X.drop i.toNat), ()) := by
 subst hX
 intro n
 induction n with
 | zero => intros; omega
 | succ n ih =>
  intro q i h0 hm
  rw [pE_L0]
  by_cases hi : i < ((unsetN (row5 (booksN A.n A.l 0) (booksN A.n A.l 1) (booksN A.n A.l 2) (booksN A.n A.l 3) (booksN A.n A.l 4)) A.reeve).length : Int)
  ·rw [if_pos hi, drop_at ⟨h0.1, hi⟩, ih _ (i + 1) (by omega) (by omega)]
   simp [refsN]
  ·rw [if_neg hi, drop_end hi]; simp [refsN]
theorem pE_r_n (A : pE_A) (w : World) {n r : Int} {l : List Po} (hn : A.n = n) (hl : A.l = l) (hr : A.reeve = r) : pE_r A w = (unsetTN n l r, (rollN n l).2) := by
 unfold pE_r unsetTN
 by_cases h : (rollN A.n A.l).2 = 0
 ·rw [if_pos h, pE_L0_n A w rfl _ _ _ (by omega) (by omega)]
  subst hn hl hr
  rw [if_pos h, h]
  simp
 ·subst hn hl hr
  rw [if_neg h, if_neg h]
theorem pUnset_n {n : Int} {a_l : Option Addr} {b_l o_l κ_l : Nat} {l : List Po} {w : World} (H : LstAt poC w a_l b_l o_l l) (h0 : l.length ≤ κ_l) (h1 : (l.length : Int) ≤ 1000) (h2 : -9223372036854775808 ≤ n ∧ n ≤ 9223372036854775807) (r : Int) : Calls Tryz.prog 34 #[.int .i64 n, .slice a_l l.length κ_l, .int .i64 r] w fun e w' => ∃ zs : List Value, e = .returned (.tuple #[(zs.getD 0 undef), .int .i64 ((rollN n l).2)]) ∧ FrAll w.heap.size w' [⟨(unsetTN n l r : List Rf).flatMap rfC.f, 2, (unsetTN n l r : List Rf).length⟩] zs [] ∧ Chg (fun _ => False) w w' := by
 have := pE_any ⟨n, a_l, b_l, o_l, κ_l, l, r⟩ w H (by show (l.length : Int) ≤ (κ_l : Int); omega) h1 h2
 rw [pE_r_n _ w rfl rfl rfl] at this
 exact this
structure pI_A where
 p : Po
def pI_r  (A : pI_A) (w : World) : Bool := (if A.p.kind = 1 then true else (if A.p.kind = 2 then true else false))
theorem pI_any  (A : pI_A) (w : World) : Calls Tryz.prog 103 #[A.p.val] w fun e w' => e = .returned (.bool (pI_r A w)) ∧ Chg (fun _ => False) w w' := by
 unfold pI_r
 refine wGo (E := E0) (n := 8) (w := w) (L := id) ?_
 refine wS (.agg #[] :: poV A.p ++ []) ?_
 split <;> rename_i h0
 ·refine wT .eql 4 (.int .u8 1) h0 ?_
  exact wZ (.bool true) [.agg [1, 2, 3, 4, 5, 6, 7, 8, 9, 10, 11]]
 ·refine wF .eql 4 (.int .u8 1) h0 ?_
  split <;> rename_i h1
  ·refine wT .eql 4 (.int .u8 2) h1 ?_
   exact wZ (.bool true) [.agg [1, 2, 3, 4, 5, 6, 7, 8, 9, 10, 11]]
  ·refine wF .eql 4 (.int .u8 2) h1 ?_
   exact wZ (.bool false) [.agg [1, 2, 3, 4, 5, 6, 7, 8, 9, 10, 11]]
theorem pRCharge_n (p : Po) (w : World) : Calls Tryz.prog 103 #[p.val] w fun e w' => e = .returned (.bool (decide (p.kind = 1 ∨ p.kind = 2))) ∧ Chg (fun _ => False) w w' := by
 have := pI_any ⟨p⟩ w
 have e : pI_r ⟨p⟩ w = decide (p.kind = 1 ∨ p.kind = 2) := by
  unfold pI_r
  by_cases h1 : p.kind = 1 <;> by_cases h2 : p.kind = 2 <;> simp [h1, h2]
 rw [e] at this
 exact this
structure pQ_A where
 a_l : Option Addr
 b_l : Nat
 o_l : Nat
 κ_l : Nat
 l : List Po
 c : Po
def pQ_L0_H : Head := (⟨[(0, 1), (1, .agg [2, 3, 4, 5, 6, 7, 8, 9, 10, 11, 12]), (3, .ptr 8 0), (4, .int .i64 0), (5, 13), (6, 14), (7, .ptr 8 10), (8, 12)], [(8, .cells [2, 3, 4, 5, 6, 7, 8, 9, 10, 11, 12] 0 0)], 9, 9, 0, 0, 13, 15⟩ : Head)
def pQ_L0_R : Rn := ⟨9, [], 0, [], 13, [12, .int .i64 0]⟩
def pQ_L0_B  (A : pQ_A) (w : World) (R : List Value) : List Value := .agg #[] :: .slice A.a_l A.l.length A.κ_l :: poV A.c ++ R
def pQ_L0_X0 : Head := (⟨[(1, .agg [2, 3, 4, 5, 6, 7, 8, 9, 10, 11, 12]), (3, .ptr 8 0), (4, .int .i64 0), (5, 13), (7, .ptr 8 10), (8, 12)], [(8, .cells [2, 3, 4, 5, 6, 7, 8, 9, 10, 11, 12] 0 0)], 9, 9, 0, 0, 13, 14⟩ : Head)
def pQ_L0  (A : pQ_A) (w : World) : Nat → Int → Int → Option (Nat × Int × Unit)
 | 0, _, _ => none
 | fu_ + 1, v00, v01 => (if v01 < (A.l.length : Int) then (if (at_ A.l v01).kind = 4 then (if (at_ A.l v01).of.reeve = A.c.reeve then (if (at_ A.l v01).of.number = A.c.number then pQ_L0 A w fu_ ((IntKind.wrap .i64 (v00 - (at_ A.l v01).amount))) (v01 + 1) else pQ_L0 A w fu_ v00 (v01 + 1)) else pQ_L0 A w fu_ v00 (v01 + 1)) else (if (at_ A.l v01).kind = 5 then (if (at_ A.l v01).of.reeve = A.c.reeve then (if (at_ A.l v01).of.number = A.c.number then pQ_L0 A w fu_ ((IntKind.wrap .i64 (v00 - (at_ A.l v01).amount))) (v01 + 1) else pQ_L0 A w fu_ v00 (v01 + 1)) else pQ_L0 A w fu_ v00 (v01 + 1)) else pQ_L0 A w fu_ v00 (v01 + 1))) else some (0, v00, ()))
def pQ_r  (A : pQ_A) (w : World) : Int := (match pQ_L0 A w ((((A.l.length : Int) - 0) : Int).toNat + 1) A.c.amount 0 with | some (0, x0_00, _) => (max x0_00 0) | _ => default)
theorem pQ_any  (A : pQ_A) (w : World) (H_l : LstAt poC w A.a_l A.b_l A.o_l A.l) (h0 : (A.l.length : Int) ≤ (A.κ_l : Int)) (h1 : (A.l.length : Int) ≤ 1000) : Calls Tryz.prog 104 #[.slice A.a_l A.l.length A.κ_l, A.c.val] w fun e w' => e = .returned (.int .i64 (pQ_r A w)) ∧ Chg (fun _ => False) w w' := by
 unfold pQ_r
 refine wGo (E := E0) (n := 8) (w := w) (L := id) ?_
 refine wS (.agg #[] :: .slice A.a_l A.l.length A.κ_l :: poV A.c ++ []) ?_
 refine wK (K := ∀ (fu_ : Nat) (v00 : Int) (v01 : Int), (0 ≤ v01 ∧ v01 ≤ (A.l.length : Int)) → (((A.l.length : Int) - v01) : Int) < fu_ → ∃ o, pQ_L0 A w fu_ v00 v01 = some o ∧ RdsD Tryz.prog 8 104 3 w pQ_L0_H (pQ_L0_B A w [.int .i64 v00, .int .i64 v01]) fu_ [(o.1 = 0 ∧ True, pQ_L0_X0, pQ_L0_B A w [.int .i64 o.2.1], (.exit 0))]) (fun hq hc hm hp fu_ => ?_) (fun key2 => ?_)
 ·induction fu_ with
  | zero => intro v00 v01 _ hz; exfalso; omega
  | succ fu_ ih =>
   intro v00 v01 h2 hz
   rw [pQ_L0]
   refine wB hq hc hm hp ?_
   refine wS (I v00 :: I v01 :: I (A.l.length : Int) :: []) (wN 38 1 15 ?_)
   split <;> rename_i h3
   ·refine wS (.pointer (some ⟨A.b_l, A.o_l + (v01 : Int).toNat * 11, none⟩) :: .pointer (some ⟨A.b_l, A.o_l + (v01 : Int).toNat * 11 + 3, none⟩) :: .int .u8 ((at_ A.l v01).kind) :: []) (wT .lss 14 15 h3 (wX 38 1 14 16 H_l 11 v01 (wO 25 3 3 16 17 (wP 5 17 18 H_l v01 3 ?_))))
    split <;> rename_i h4
    ·refine wS (.pointer (some ⟨A.b_l, A.o_l + (v01 : Int).toNat * 11 + 6, none⟩) :: I ((at_ A.l v01).of.reeve) :: I ((at_ A.l v01).of.number) :: []) (wT .eql 18 (.int .u8 4) h4 (wO 25 6 6 16 19 (wE (⟨8000000000 + 23, [19], .agg [20, 21]⟩) (fun _ => q_subO (C := poC) H_l (i := v01) (j := 6) (n := 2) ⟨by omega, by omega⟩ rfl rfl rfl rfl rfl rfl (by kernel_rfl)) ?_)))
     split <;> rename_i h5
     ·refine wU 20 2 h5 ?_
      split <;> rename_i h6
      ·refine wS (.pointer (some ⟨A.b_l, A.o_l + (v01 : Int).toNat * 11 + 10, none⟩) :: I ((at_ A.l v01).amount) :: I ((IntKind.wrap .i64 (v00 - (at_ A.l v01).amount))) :: I (v01 + 1) :: []) (wU 21 3 h6 (wO 25 8 10 16 22 (wP 3 22 23 H_l v01 10 (wE (⟨tagB .sub, [13, 23], 24⟩) (fun _ => q_sub rfl rfl rfl) (wA 14 (J 1) 25 ?_)))))
       exact wQ (rnG (ih ((IntKind.wrap .i64 (v00 - (at_ A.l v01).amount))) (v01 + 1) (by omega) (by omega))) 15 ⟨9, [], 0, [], 13, [24, 25]⟩ [] ⟨rfl, rfl, trivial⟩
      ·refine wS (I (v01 + 1) :: []) (wV 21 3 h6 (wA 14 (J 1) 22 ?_))
       exact wQ (rnG (ih v00 (v01 + 1) (by omega) (by omega))) 15 ⟨9, [], 0, [], 13, [13, 22]⟩ [] ⟨rfl, rfl, trivial⟩
     ·refine wS (I (v01 + 1) :: []) (wV 20 2 h5 (wA 14 (J 1) 22 ?_))
      exact wQ (rnG (ih v00 (v01 + 1) (by omega) (by omega))) 15 ⟨9, [], 0, [], 13, [13, 22]⟩ [] ⟨rfl, rfl, trivial⟩
    ·refine wF .eql 18 (.int .u8 4) h4 ?_
     split <;> rename_i h5
     ·refine wS (.pointer (some ⟨A.b_l, A.o_l + (v01 : Int).toNat * 11 + 6, none⟩) :: I ((at_ A.l v01).of.reeve) :: I ((at_ A.l v01).of.number) :: []) (wT .eql 18 (.int .u8 5) h5 (wO 25 6 6 16 19 (wE (⟨8000000000 + 23, [19], .agg [20, 21]⟩) (fun _ => q_subO (C := poC) H_l (i := v01) (j := 6) (n := 2) ⟨by omega, by omega⟩ rfl rfl rfl rfl rfl rfl (by kernel_rfl)) ?_)))
      split <;> rename_i h6
      ·refine wU 20 2 h6 ?_
       split <;> rename_i h7
       ·refine wS (.pointer (some ⟨A.b_l, A.o_l + (v01 : Int).toNat * 11 + 10, none⟩) :: I ((at_ A.l v01).amount) :: I ((IntKind.wrap .i64 (v00 - (at_ A.l v01).amount))) :: I (v01 + 1) :: []) (wU 21 3 h7 (wO 25 8 10 16 22 (wP 3 22 23 H_l v01 10 (wE (⟨tagB .sub, [13, 23], 24⟩) (fun _ => q_sub rfl rfl rfl) (wA 14 (J 1) 25 ?_)))))
        exact wQ (rnG (ih ((IntKind.wrap .i64 (v00 - (at_ A.l v01).amount))) (v01 + 1) (by omega) (by omega))) 15 ⟨9, [], 0, [], 13, [24, 25]⟩ [] ⟨rfl, rfl, trivial⟩
       ·refine wS (I (v01 + 1) :: []) (wV 21 3 h7 (wA 14 (J 1) 22 ?_))
        exact wQ (rnG (ih v00 (v01 + 1) (by omega) (by omega))) 15 ⟨9, [], 0, [], 13, [13, 22]⟩ [] ⟨rfl, rfl, trivial⟩
      ·refine wS (I (v01 + 1) :: []) (wV 20 2 h6 (wA 14 (J 1) 22 ?_))
       exact wQ (rnG (ih v00 (v01 + 1) (by omega) (by omega))) 15 ⟨9, [], 0, [], 13, [13, 22]⟩ [] ⟨rfl, rfl, trivial⟩
     ·refine wS (I (v01 + 1) :: []) (wF .eql 18 (.int .u8 5) h5 (wA 14 (J 1) 19 ?_))
      exact wQ (rnG (ih v00 (v01 + 1) (by omega) (by omega))) 15 ⟨9, [], 0, [], 13, [13, 19]⟩ [] ⟨rfl, rfl, trivial⟩
   ·refine wF .lss 14 15 h3 ?_
    exact wQ (fun hr => ⟨(0, v00, ()), rfl, ⟨⟨rfl, trivial⟩, rndEnd xeE hr⟩⟩) 15 ⟨9, [], 0, [], 13, [13]⟩ [] ⟨rfl, trivial⟩
 obtain ⟨⟨q2, x0_00, _⟩, h2, hk2⟩ := key2 ((((A.l.length : Int) - 0) : Int).toNat + 1) A.c.amount 0 (by first | trivial | omega | (simp; omega)) (by first | omega | (simp; omega))
 rw [h2]
 rcases hk2 with ⟨⟨he2, h3⟩, hr2⟩
 ·have he2 : q2 = 0 := he2
  subst he2
  refine wS (I x0_00 :: []) ?_
  refine wLp (x := (.exit 0)) rfl hr2 pQ_L0_R [] (fun _ => rfl) (by kernel_rfl) (fun _ => rfl) (fun _ => ⟨rfl, rfl, trivial⟩) (fun _ => rfl) ?_
  refine wS (I (max x0_00 0) :: []) (wE (⟨6200000000, [13, J 0], 14⟩) (fun _ => q_max rfl rfl rfl) ?_)
  exact wZ 14 [1, .agg [2, 3, 4, 5, 6, 7, 8, 9, 10, 11, 12]]
theorem pQ_L0_n (A : pQ_A) (w : World) : ∀ (n : Nat) (v i : Int), (0 ≤ i ∧ i ≤ (A.l.length : Int)) → (A.l.length : Int) - i < n → pQ_L0 A w n v i = some (0, (A.l.drop i.toNat).foldl (owedF A.c) v, ()) := by
 intro n
 induction n with
 | zero => intros; omega
 | succ n ih =>
  intro v i h0 hm
  rw [pQ_L0]
  by_cases hi : i < (A.l.length : Int)
  ·have e := fun v => ih v (i + 1) (by omega) (by omega)
   rw [if_pos hi, drop_at ⟨h0.1, hi⟩, List.foldl_cons]
   simp only [e, owedF]
   repeat' split
   all_goals first | rfl | (exfalso; simp_all; done)
  ·rw [if_neg hi, drop_end hi]; rfl
theorem pQ_r_n (A : pQ_A) (w : World) : pQ_r A w = owedN A.l A.c := by
 unfold pQ_r owedN
 rw [pQ_L0_n _ _ _ _ _ (by omega) (by omega)]
 rfl
theorem pROwed_n {a_l : Option Addr} {b_l o_l κ_l : Nat} {l : List Po} {w : World} (H : LstAt poC w a_l b_l o_l l) (h0 : l.length ≤ κ_l) (h1 : (l.length : Int) ≤ 1000) (c : Po) : Calls Tryz.prog 104 #[.slice a_l l.length κ_l, c.val] w fun e w' => e = .returned (.int .i64 (owedN l c)) ∧ Chg (fun _ => False) w w' := by
 have := pQ_any ⟨a_l, b_l, o_l, κ_l, l, c⟩ w H (by show (l.length : Int) ≤ (κ_l : Int); omega) h1
 rw [pQ_r_n] at this
 exact this
structure pX_A where
 a_l : Option Addr
 b_l : Nat
 o_l : Nat
 κ_l : Nat
 l : List Po
 x : Rf
def pX_L0_H : Head := (⟨[(0, 1), (1, .agg [2, 3]), (3, .ptr 8 0), (4, .ptr 9 0), (5, .bool false), (6, 4)], [(8, .cells [2, 3] 0 0), (9, .cells [.int .i64 0, .int .i64 0, .int .i64 0, .bs 1 0, .int .i64 0, .int .i64 0, .int .i64 0, .int .i64 0, .int .i64 0, .int .i64 0, .int .i64 0] 0 0)], 10, 10, 0, 0, 4, 5⟩ : Head)
def pX_L0_R : Rn := ⟨10, [], 0, [], 4, [.int .i64 0]⟩
def pX_L0_B  (A : pX_A) (w : World) (R : List Value) : List Value := .agg #[] :: .slice A.a_l A.l.length A.κ_l :: .int .i64 A.x.reeve :: .int .i64 A.x.number :: R
def pX_L0_X0 : Head := (⟨[(1, .agg [2, 3]), (4, .ptr 9 0), (5, .bool true)], [(8, .cells [2, 3] 0 0), (9, .cells [4, 5, 6, 7, 8, 9, 10, 11, 12, 13, 14] 0 0)], 10, 10, 0, 0, 4, 15⟩ : Head)
def pX_L0_X1 : Head := (⟨[(1, .agg [2, 3]), (4, .ptr 9 0), (5, .bool false)], [(8, .cells [2, 3] 0 0), (9, .cells [.int .i64 0, .int .i64 0, .int .i64 0, .bs 1 0, .int .i64 0, .int .i64 0, .int .i64 0, .int .i64 0, .int .i64 0, .int .i64 0, .int .i64 0] 0 0)], 10, 10, 0, 0, 4, 4⟩ : Head)
def pX_L0  (A : pX_A) (w : World) : Nat → Int → Option (Nat × Int × Int × Int × Int × Int × Int × Int × Int × Int × Int × Int × Unit)
 | 0, _ => none
 | fu_ + 1, v00 => (if v00 < (A.l.length : Int) then (if (at_ A.l v00).reeve = A.x.reeve then (if (at_ A.l v00).number = A.x.number then some (0, ((at_ A.l v00).reeve), ((at_ A.l v00).number), ((at_ A.l v00).tick), ((at_ A.l v00).kind), ((at_ A.l v00).cse), ((at_ A.l v00).owner), ((at_ A.l v00).of.reeve), ((at_ A.l v00).of.number), ((at_ A.l v00).by_.reeve), ((at_ A.l v00).by_.number), ((at_ A.l v00).amount), ()) else pX_L0 A w fu_ (v00 + 1)) else pX_L0 A w fu_ (v00 + 1)) else some (1, default, default, default, default, default, default, default, default, default, default, default, ()))
def pX_r  (A : pX_A) (w : World) : Int × Int × Int × Int × Int × Int × Int × Int × Int × Int × Int × Bool := (match pX_L0 A w ((((A.l.length : Int) - 0) : Int).toNat + 1) 0 with | some (0, x0_00, x0_01, x0_02, x0_03, x0_04, x0_05, x0_06, x0_07, x0_08, x0_09, x0_010, _) => (x0_00, x0_01, x0_02, x0_03, x0_04, x0_05, x0_06, x0_07, x0_08, x0_09, x0_010, true) | some (1, x0_00, x0_01, x0_02, x0_03, x0_04, x0_05, x0_06, x0_07, x0_08, x0_09, x0_010, _) => (0, 0, 0, 0, 0, 0, 0, 0, 0, 0, 0, false) | _ => default)
theorem pX_any  (A : pX_A) (w : World) (H_l : LstAt poC w A.a_l A.b_l A.o_l A.l) (h0 : (A.l.length : Int) ≤ (A.κ_l : Int)) (h1 : (A.l.length : Int) ≤ 1000) : Calls Tryz.prog 102 #[.slice A.a_l A.l.length A.κ_l, A.x.val] w fun e w' => e = .returned (.tuple #[.agg #[.int .i64 ((pX_r A w).1), .int .i64 ((pX_r A w).2.1), .int .i64 ((pX_r A w).2.2.1), .int .u8 ((pX_r A w).2.2.2.1), .int .i64 ((pX_r A w).2.2.2.2.1), .int .i64 ((pX_r A w).2.2.2.2.2.1), .int .i64 ((pX_r A w).2.2.2.2.2.2.1), .int .i64 ((pX_r A w).2.2.2.2.2.2.2.1), .int .i64 ((pX_r A w).2.2.2.2.2.2.2.2.1), .int .i64 ((pX_r A w).2.2.2.2.2.2.2.2.2.1), .int .i64 ((pX_r A w).2.2.2.2.2.2.2.2.2.2.1)], .bool ((pX_r A w).2.2.2.2.2.2.2.2.2.2.2)]) ∧ Chg (fun _ => False) w w' := by
 unfold pX_r
 refine wGo (E := E0) (n := 8) (w := w) (L := id) ?_
 refine wS (.agg #[] :: .slice A.a_l A.l.length A.κ_l :: I A.x.reeve :: I A.x.number :: []) ?_
 refine wK (K := ∀ (fu_ : Nat) (v00 : Int), (0 ≤ v00 ∧ v00 ≤ (A.l.length : Int)) → (((A.l.length : Int) - v00) : Int) < fu_ → ∃ o, pX_L0 A w fu_ v00 = some o ∧ RdsD Tryz.prog 8 102 2 w pX_L0_H (pX_L0_B A w [.int .i64 v00]) fu_ [(o.1 = 0 ∧ True, pX_L0_X0, pX_L0_B A w [.int .i64 o.2.1, .int .i64 o.2.2.1, .int .i64 o.2.2.2.1, .int .u8 o.2.2.2.2.1, .int .i64 o.2.2.2.2.2.1, .int .i64 o.2.2.2.2.2.2.1, .int .i64 o.2.2.2.2.2.2.2.1, .int .i64 o.2.2.2.2.2.2.2.2.1, .int .i64 o.2.2.2.2.2.2.2.2.2.1, .int .i64 o.2.2.2.2.2.2.2.2.2.2.1, .int .i64 o.2.2.2.2.2.2.2.2.2.2.2.1], .ret), (o.1 = 1 ∧ True, pX_L0_X1, pX_L0_B A w [], (.exit 0))]) (fun hq hc hm hp fu_ => ?_) (fun key2 => ?_)
 ·induction fu_ with
  | zero => intro v00 _ hz; exfalso; omega
  | succ fu_ ih =>
   intro v00 h2 hz
   rw [pX_L0]
   refine wB hq hc hm hp ?_
   refine wS (I v00 :: I (A.l.length : Int) :: []) (wN 38 1 5 ?_)
   split <;> rename_i h3
   ·refine wS (.pointer (some ⟨A.b_l, A.o_l + (v00 : Int).toNat * 11, none⟩) :: poV (at_ A.l v00) ++ []) (wT .lss 4 5 h3 (wX 38 1 4 6 H_l 11 v00 (wR 25 6 [7, 8, 9, 10, 11, 12, 13, 14, 15, 16, 17] H_l v00 ?_)))
    split <;> rename_i h4
    ·refine wU 7 2 h4 ?_
     split <;> rename_i h5
     ·refine wU 8 3 h5 ?_
      exact wQ (fun hr => ⟨(0, ((at_ A.l v00).reeve), ((at_ A.l v00).number), ((at_ A.l v00).tick), ((at_ A.l v00).kind), ((at_ A.l v00).cse), ((at_ A.l v00).owner), ((at_ A.l v00).of.reeve), ((at_ A.l v00).of.number), ((at_ A.l v00).by_.reeve), ((at_ A.l v00).by_.number), ((at_ A.l v00).amount), ()), rfl, Or.inl ⟨⟨rfl, trivial⟩, rndEnd xeR hr⟩⟩) 5 ⟨10, [], 0, [], 4, [7, 8, 9, 10, 11, 12, 13, 14, 15, 16, 17]⟩ [] ⟨rfl, rfl, rfl, rfl, rfl, rfl, rfl, rfl, rfl, rfl, rfl, trivial⟩
     ·refine wS (I (v00 + 1) :: []) (wV 8 3 h5 (wA 4 (J 1) 18 ?_))
      exact wQ (rnG (ih (v00 + 1) (by omega) (by omega))) 5 ⟨10, [], 0, [], 4, [18]⟩ [] ⟨rfl, trivial⟩
    ·refine wS (I (v00 + 1) :: []) (wV 7 2 h4 (wA 4 (J 1) 18 ?_))
     exact wQ (rnG (ih (v00 + 1) (by omega) (by omega))) 5 ⟨10, [], 0, [], 4, [18]⟩ [] ⟨rfl, trivial⟩
   ·refine wF .lss 4 5 h3 ?_
    exact wQ (fun hr => ⟨(1, default, default, default, default, default, default, default, default, default, default, default, ()), rfl, Or.inr (⟨⟨rfl, trivial⟩, rndEnd xeE hr⟩)⟩) 5 ⟨10, [], 0, [], 4, []⟩ [] trivial
 obtain ⟨⟨q2, x0_00, x0_01, x0_02, x0_03, x0_04, x0_05, x0_06, x0_07, x0_08, x0_09, x0_010, _⟩, h2, hk2⟩ := key2 ((((A.l.length : Int) - 0) : Int).toNat + 1) 0 (by first | trivial | omega | (simp; omega)) (by first | omega | (simp; omega))
 rw [h2]
 rcases hk2 with ⟨⟨he2, h3⟩, hr2⟩ | ⟨⟨he2, h3⟩, hr2⟩
 ·have he2 : q2 = 0 := he2
  subst he2
  refine wS (I x0_00 :: I x0_01 :: I x0_02 :: .int .u8 x0_03 :: I x0_04 :: I x0_05 :: I x0_06 :: I x0_07 :: I x0_08 :: I x0_09 :: I x0_010 :: []) ?_
  refine wLp (x := .ret) rfl hr2 pX_L0_R [] (fun _ => rfl) (by kernel_rfl) (fun _ => rfl) (fun _ => ⟨rfl, trivial⟩) (fun _ => rfl) ?_
  exact wZ (.tup [.agg [4, 5, 6, 7, 8, 9, 10, 11, 12, 13, 14], .bool true]) [1, .agg [2, 3]]
 ·have he2 : q2 = 1 := he2
  subst he2
  refine wLp (x := (.exit 0)) rfl hr2 pX_L0_R [] (fun _ => rfl) (by kernel_rfl) (fun _ => rfl) (fun _ => ⟨rfl, trivial⟩) (fun _ => rfl) ?_
  exact wZ (.tup [.agg [.int .i64 0, .int .i64 0, .int .i64 0, .bs 1 0, .int .i64 0, .int .i64 0, .int .i64 0, .int .i64 0, .int .i64 0, .int .i64 0, .int .i64 0], .bool false]) [1, .agg [2, 3]]
theorem pX_L0_n (A : pX_A) (w : World) : ∀ (n : Nat) (i : Int), (0 ≤ i ∧ i ≤ (A.l.length : Int)) → (A.l.length : Int) - i < n → pX_L0 A w n i = match (A.l.drop i.toNat).find? (hasRf A.x) with
  | some p => some (0, p.reeve, p.number, p.tick, p.kind, p.cse, p.owner, p.of.reeve, p.of.number, p.by_.reeve, p.by_.number, p.amount, ())
  | none => some (1, default, default, default, default, default, default, default, default, default, default, default, ()) := by
 intro n
 induction n with
 | zero => intros; omega
 | succ n ih =>
  intro i h0 hm
  rw [pX_L0]
  by_cases hi : i < (A.l.length : Int)
  ·rw [if_pos hi, drop_at ⟨h0.1, hi⟩, List.find?_cons, ih (i + 1) (by omega) (by omega)]
   by_cases h1 : (at_ A.l i).reeve = A.x.reeve
   ·by_cases h2 : (at_ A.l i).number = A.x.number
    ·rw [if_pos h1, if_pos h2, show hasRf A.x (at_ A.l i) = true by simp [hasRf, h1, h2]]
    ·rw [if_pos h1, if_neg h2, show hasRf A.x (at_ A.l i) = false by simp [hasRf, h2]]
   ·rw [if_neg h1, show hasRf A.x (at_ A.l i) = false by simp [hasRf, h1]]
  ·rw [if_neg hi, drop_end hi]; rfl
theorem pX_r_n (A : pX_A) (w : World) {l : List Po} {x : Rf} (hl : A.l = l) (hx : A.x = x) : pX_r A w = ((findP l x).reeve, (findP l x).number, (findP l x).tick, (findP l x).kind, (findP l x).cse, (findP l x).owner, (findP l x).of.reeve, (findP l x).of.number, (findP l x).by_.reeve, (findP l x).by_.number, (findP l x).amount, findB l x) := by
 unfold pX_r findP findB
 rw [pX_L0_n _ _ _ _ (by omega) (by omega), hl, hx, show l.drop (0 : Int).toNat = l from rfl]
 cases l.find? (hasRf x) <;> rfl
theorem pRFind_n {a_l : Option Addr} {b_l o_l κ_l : Nat} {l : List Po} {w : World} (H : LstAt poC w a_l b_l o_l l) (h0 : l.length ≤ κ_l) (h1 : (l.length : Int) ≤ 1000) (x : Rf) : Calls Tryz.prog 102 #[.slice a_l l.length κ_l, x.val] w fun e w' => e = .returned (.tuple #[.agg #[.int .i64 (findP l x).reeve, .int .i64 (findP l x).number, .int .i64 (findP l x).tick, .int .u8 (findP l x).kind, .int .i64 (findP l x).cse, .int .i64 (findP l x).owner, .int .i64 (findP l x).of.reeve, .int .i64 (findP l x).of.number, .int .i64 (findP l x).by_.reeve, .int .i64 (findP l x).by_.number, .int .i64 (findP l x).amount], .bool (findB l x)]) ∧ Chg (fun _ => False) w w' := by
 have := pX_any ⟨a_l, b_l, o_l, κ_l, l, x⟩ w H (by show (l.length : Int) ≤ (κ_l : Int); omega) h1
 rw [pX_r_n _ w rfl rfl] at this
 exact this
structure pV_A where
 n : Int
 a_l : Option Addr
 b_l : Nat
 o_l : Nat
 κ_l : Nat
 l : List Po
 p : Po
def pV_L0_H : Head := (⟨[(0, 1), (1, 2), (2, .agg [3, 4, 5, 6, 7, 8, 9, 10, 11, 12, 13]), (5, .ptr 8 0), (6, .int .i64 0), (7, .ptr 9 0), (8, 29), (11, 1), (12, .agg [3, 4, 5, 6, 7, 8, 9, 10, 11, 12, 13]), (13, .bool true), (14, .bool false), (15, .agg [.int .i64 (-1), .int .i64 0]), (16, 2), (17, 14), (18, .bool true), (19, 2), (20, 2), (21, 14), (22, 15), (23, 16), (24, .agg [17, 18, 19, 20, 21, 22, 23, 24, 25, 26, 27]), (25, .agg [17, 18]), (26, .ptr 8 0), (27, 3), (28, .ptr 9 0), (29, 17), (30, .bool false), (31, .bool false), (32, .ptr 8 0), (33, 3), (34, .ptr 9 0), (35, 17), (36, .bool true), (37, .bool true), (38, .ptr 8 1), (39, 4), (40, .ptr 9 1), (41, 18), (42, 28), (43, .bool false), (44, .bool false), (45, .bool false), (46, .bool false), (47, .ptr 8 0), (48, 3), (49, .ptr 9 0), (50, 17), (51, .bool false), (52, .bool false), (56, .bool false), (57, .bool false)], [(8, .cells [3, 4, 5, 6, 7, 8, 9, 10, 11, 12, 13] 0 0), (9, .cells [17, 18] 0 0), (10, .cells [17, 18, 19, 20, 21, 22, 23, 24, 25, 26, 27] 0 0), (11, .cells [17, 18] 0 0)], 12, 12, 0, 0, 29, 30⟩ : Head)
def pV_L0_R : Rn := ⟨12, [], 0, [], 29, [.int .i64 0]⟩
def pV_L0_B  (A : pV_A) (w : World) (R : List Value) : List Value := .agg #[] :: .int .i64 A.n :: .slice A.a_l A.l.length A.κ_l :: poV A.p ++ .int .i64 (A.l.length : Int) :: .int .i64 (((A.l.length : Int) - 1)) :: .pointer (some ⟨A.b_l, A.o_l + (((A.l.length : Int) - 1) : Int).toNat * 11, none⟩) :: poV ((at_ A.l (((A.l.length : Int) - 1)))) ++ .int .i64 ((IntKind.wrap .i64 ((at_ A.l (((A.l.length : Int) - 1))).number + 1))) :: R
def pV_L0_X0 : Head := (⟨[(0, 1), (1, 2), (2, .agg [3, 4, 5, 6, 7, 8, 9, 10, 11, 12, 13]), (5, .ptr 8 0), (6, .int .i64 6), (7, .ptr 9 0), (11, 1), (12, .agg [3, 4, 5, 6, 7, 8, 9, 10, 11, 12, 13]), (13, .bool true), (14, .bool false), (15, .agg [.int .i64 (-1), .int .i64 0]), (16, 2), (17, 14), (18, .bool true), (19, 2), (20, 2), (21, 14), (22, 15), (23, 16), (24, .agg [17, 18, 19, 20, 21, 22, 23, 24, 25, 26, 27]), (25, .agg [17, 18]), (26, .ptr 8 0), (27, 3), (28, .ptr 9 0), (29, 17), (30, .bool false), (31, .bool false), (32, .ptr 8 0), (33, 3), (34, .ptr 9 0), (35, 17), (36, .bool true), (37, .bool true), (38, .ptr 8 1), (39, 4), (40, .ptr 9 1), (41, 18), (42, 28), (43, .bool false), (44, .bool false), (45, .bool false), (46, .bool false), (47, .ptr 8 0), (48, 3), (49, .ptr 9 0), (50, 17), (51, .bool false), (52, .bool false), (56, .bool false), (57, .bool false)], [(8, .cells [3, 4, 5, 6, 7, 8, 9, 10, 11, 12, 13] 0 0), (9, .cells [17, 18] 0 0), (10, .cells [17, 18, 19, 20, 21, 22, 23, 24, 25, 26, 27] 0 0), (11, .cells [17, 18] 0 0)], 12, 12, 0, 0, 29, 29⟩ : Head)
def pV_L0_X1 : Head := (⟨[(0, 1), (1, 2), (2, .agg [3, 4, 5, 6, 7, 8, 9, 10, 11, 12, 13]), (5, .ptr 8 0), (6, .int .i64 0), (7, .ptr 9 0), (11, 1), (12, .agg [3, 4, 5, 6, 7, 8, 9, 10, 11, 12, 13]), (13, .bool true), (14, .bool false), (15, .agg [.int .i64 (-1), .int .i64 0]), (16, 2), (17, 14), (18, .bool true), (19, 2), (20, 2), (21, 14), (22, 15), (23, 16), (24, .agg [17, 18, 19, 20, 21, 22, 23, 24, 25, 26, 27]), (25, .agg [17, 18]), (26, .ptr 8 0), (27, 3), (28, .ptr 9 0), (29, 17), (30, .bool false), (31, .bool false), (32, .ptr 8 0), (33, 3), (34, .ptr 9 0), (35, 17), (36, .bool true), (37, .bool true), (38, .ptr 8 1), (39, 4), (40, .ptr 9 1), (41, 18), (42, 28), (43, .bool false), (44, .bool false), (45, .bool false), (46, .bool false), (47, .ptr 8 0), (48, 3), (49, .ptr 9 0), (50, 17), (51, .bool false), (52, .bool false), (56, .bool false), (57, .bool false)], [(8, .cells [3, 4, 5, 6, 7, 8, 9, 10, 11, 12, 13] 0 0), (9, .cells [17, 18] 0 0), (10, .cells [17, 18, 19, 20, 21, 22, 23, 24, 25, 26, 27] 0 0), (11, .cells [17, 18] 0 0)], 12, 12, 0, 0, 29, 29⟩ : Head)
def pV_L0  (A : pV_A) (w : World) : Nat → Int → Option (Nat × Unit)
 | 0, _ => none
 | fu_ + 1, v00 => (if v00 < (A.l.length : Int) then (if (at_ A.l v00).reeve = A.p.reeve then (if (A.p).kind = 1 ∨ (A.p).kind = 2 then (if (at_ A.l v00).kind = A.p.kind then (if (at_ A.l v00).cse = A.p.cse then some (0, ()) else pV_L0 A w fu_ (v00 + 1)) else pV_L0 A w fu_ (v00 + 1)) else (if A.p.kind = 4 then (if A.p.by_.reeve = 0 then (if A.p.by_.number = 0 then pV_L0 A w fu_ (v00 + 1) else (if (at_ A.l v00).kind = 4 then (if (at_ A.l v00).by_.reeve = A.p.by_.reeve then (if (at_ A.l v00).by_.number = A.p.by_.number then some (0, ()) else pV_L0 A w fu_ (v00 + 1)) else pV_L0 A w fu_ (v00 + 1)) else pV_L0 A w fu_ (v00 + 1))) else (if (at_ A.l v00).kind = 4 then (if (at_ A.l v00).by_.reeve = A.p.by_.reeve then (if (at_ A.l v00).by_.number = A.p.by_.number then some (0, ()) else pV_L0 A w fu_ (v00 + 1)) else pV_L0 A w fu_ (v00 + 1)) else pV_L0 A w fu_ (v00 + 1))) else pV_L0 A w fu_ (v00 + 1))) else pV_L0 A w fu_ (v00 + 1)) else some (1, ()))
def pV_L1_H : Head := (⟨[(0, 1), (1, 2), (2, .agg [3, 4, 5, 6, 7, 8, 9, 10, 11, 12, 13]), (5, .ptr 8 0), (6, .int .i64 0), (7, .ptr 9 0), (8, 28), (11, 1), (12, .agg [3, 4, 5, 6, 7, 8, 9, 10, 11, 12, 13]), (13, .bool true), (14, .bool false), (15, .agg [.int .i64 (-1), .int .i64 0]), (16, 2), (17, 14), (18, .bool true), (19, 2), (20, 2), (21, 14), (22, 15), (23, 16), (24, .agg [17, 18, 19, 20, 21, 22, 23, 24, 25, 26, 27]), (25, .agg [17, 18]), (26, .ptr 8 0), (27, 3), (28, .ptr 9 0), (29, 17), (30, .bool false), (31, .bool false), (32, .ptr 8 0), (33, 3), (34, .ptr 9 0), (35, 17), (36, .bool false), (37, .bool false), (44, .bool false), (45, .bool false), (46, .bool false), (47, .ptr 8 0), (48, 3), (49, .ptr 9 0), (50, 17), (51, .bool true), (52, .bool true), (53, .ptr 8 1), (54, 4), (55, .bool false), (56, .bool false), (57, .bool false)], [(8, .cells [3, 4, 5, 6, 7, 8, 9, 10, 11, 12, 13] 0 0), (9, .cells [17, 18] 0 0), (10, .cells [17, 18, 19, 20, 21, 22, 23, 24, 25, 26, 27] 0 0), (11, .cells [17, 18] 0 0)], 12, 12, 0, 0, 28, 29⟩ : Head)
def pV_L1_R : Rn := ⟨12, [], 0, [], 28, [.int .i64 0]⟩
def pV_L1_B  (A : pV_A) (w : World) (R : List Value) : List Value := .agg #[] :: .int .i64 A.n :: .slice A.a_l A.l.length A.κ_l :: poV A.p ++ .int .i64 (A.l.length : Int) :: .int .i64 (((A.l.length : Int) - 1)) :: .pointer (some ⟨A.b_l, A.o_l + (((A.l.length : Int) - 1) : Int).toNat * 11, none⟩) :: poV ((at_ A.l (((A.l.length : Int) - 1)))) ++ R
def pV_L1_X0 : Head := (⟨[(0, 1), (1, 2), (2, .agg [3, 4, 5, 6, 7, 8, 9, 10, 11, 12, 13]), (5, .ptr 8 0), (6, .int .i64 6), (7, .ptr 9 0), (11, 1), (12, .agg [3, 4, 5, 6, 7, 8, 9, 10, 11, 12, 13]), (13, .bool true), (14, .bool false), (15, .agg [.int .i64 (-1), .int .i64 0]), (16, 2), (17, 14), (18, .bool true), (19, 2), (20, 2), (21, 14), (22, 15), (23, 16), (24, .agg [17, 18, 19, 20, 21, 22, 23, 24, 25, 26, 27]), (25, .agg [17, 18]), (26, .ptr 8 0), (27, 3), (28, .ptr 9 0), (29, 17), (30, .bool false), (31, .bool false), (32, .ptr 8 0), (33, 3), (34, .ptr 9 0), (35, 17), (36, .bool false), (37, .bool false), (44, .bool false), (45, .bool false), (46, .bool false), (47, .ptr 8 0), (48, 3), (49, .ptr 9 0), (50, 17), (51, .bool true), (52, .bool true), (53, .ptr 8 1), (54, 4), (55, .bool false), (56, .bool false), (57, .bool false)], [(8, .cells [3, 4, 5, 6, 7, 8, 9, 10, 11, 12, 13] 0 0), (9, .cells [17, 18] 0 0), (10, .cells [17, 18, 19, 20, 21, 22, 23, 24, 25, 26, 27] 0 0), (11, .cells [17, 18] 0 0)], 12, 12, 0, 0, 28, 28⟩ : Head)
def pV_L1_X1 : Head := (⟨[(0, 1), (1, 2), (2, .agg [3, 4, 5, 6, 7, 8, 9, 10, 11, 12, 13]), (5, .ptr 8 0), (6, .int .i64 0), (7, .ptr 9 0), (11, 1), (12, .agg [3, 4, 5, 6, 7, 8, 9, 10, 11, 12, 13]), (13, .bool true), (14, .bool false), (15, .agg [.int .i64 (-1), .int .i64 0]), (16, 2), (17, 14), (18, .bool true), (19, 2), (20, 2), (21, 14), (22, 15), (23, 16), (24, .agg [17, 18, 19, 20, 21, 22, 23, 24, 25, 26, 27]), (25, .agg [17, 18]), (26, .ptr 8 0), (27, 3), (28, .ptr 9 0), (29, 17), (30, .bool false), (31, .bool false), (32, .ptr 8 0), (33, 3), (34, .ptr 9 0), (35, 17), (36, .bool false), (37, .bool false), (44, .bool false), (45, .bool false), (46, .bool false), (47, .ptr 8 0), (48, 3), (49, .ptr 9 0), (50, 17), (51, .bool true), (52, .bool true), (53, .ptr 8 1), (54, 4), (55, .bool false), (56, .bool false), (57, .bool false)], [(8, .cells [3, 4, 5, 6, 7, 8, 9, 10, 11, 12, 13] 0 0), (9, .cells [17, 18] 0 0), (10, .cells [17, 18, 19, 20, 21, 22, 23, 24, 25, 26, 27] 0 0), (11, .cells [17, 18] 0 0)], 12, 12, 0, 0, 28, 28⟩ : Head)
def pV_L1  (A : pV_A) (w : World) : Nat → Int → Option (Nat × Unit)
 | 0, _ => none
 | fu_ + 1, v10 => (if v10 < (A.l.length : Int) then (if (at_ A.l v10).reeve = A.p.reeve then (if (A.p).kind = 1 ∨ (A.p).kind = 2 then (if (at_ A.l v10).kind = A.p.kind then (if (at_ A.l v10).cse = A.p.cse then some (0, ()) else pV_L1 A w fu_ (v10 + 1)) else pV_L1 A w fu_ (v10 + 1)) else (if A.p.kind = 4 then (if A.p.by_.reeve = 0 then (if A.p.by_.number = 0 then pV_L1 A w fu_ (v10 + 1) else (if (at_ A.l v10).kind = 4 then (if (at_ A.l v10).by_.reeve = A.p.by_.reeve then (if (at_ A.l v10).by_.number = A.p.by_.number then some (0, ()) else pV_L1 A w fu_ (v10 + 1)) else pV_L1 A w fu_ (v10 + 1)) else pV_L1 A w fu_ (v10 + 1))) else (if (at_ A.l v10).kind = 4 then (if (at_ A.l v10).by_.reeve = A.p.by_.reeve then (if (at_ A.l v10).by_.number = A.p.by_.number then some (0, ()) else pV_L1 A w fu_ (v10 + 1)) else pV_L1 A w fu_ (v10 + 1)) else pV_L1 A w fu_ (v10 + 1))) else pV_L1 A w fu_ (v10 + 1))) else pV_L1 A w fu_ (v10 + 1)) else some (1, ()))
def pV_L2_H : Head := (⟨[(0, 1), (1, 2), (2, .agg [3, 4, 5, 6, 7, 8, 9, 10, 11, 12, 13]), (5, .ptr 8 0), (6, .int .i64 0), (7, .ptr 9 0), (8, 15), (11, 1), (12, .agg [3, 4, 5, 6, 7, 8, 9, 10, 11, 12, 13]), (13, .bool true), (14, .bool false), (15, .agg [.int .i64 (-1), .int .i64 0]), (16, 2), (17, 14), (18, .bool false), (26, .ptr 8 0), (27, 3), (28, .ptr 9 0), (29, .int .i64 (-1)), (30, .bool false), (31, .bool false), (32, .ptr 8 0), (33, 3), (34, .ptr 9 0), (35, .int .i64 (-1)), (36, .bool true), (37, .bool true), (38, .ptr 8 1), (39, 4), (40, .ptr 9 1), (41, .int .i64 0), (42, .int .i64 1), (43, .bool false), (44, .bool false), (45, .bool false), (46, .bool false), (47, .ptr 8 0), (48, 3), (49, .ptr 9 0), (50, .int .i64 (-1)), (51, .bool false), (52, .bool false), (56, .bool false), (57, .bool false)], [(8, .cells [3, 4, 5, 6, 7, 8, 9, 10, 11, 12, 13] 0 0), (9, .cells [.int .i64 (-1), .int .i64 0] 0 0)], 10, 10, 0, 0, 15, 16⟩ : Head)
def pV_L2_R : Rn := ⟨10, [], 0, [], 15, [.int .i64 0]⟩
def pV_L2_B  (A : pV_A) (w : World) (R : List Value) : List Value := .agg #[] :: .int .i64 A.n :: .slice A.a_l A.l.length A.κ_l :: poV A.p ++ .int .i64 (A.l.length : Int) :: R
def pV_L2_X0 : Head := (⟨[(0, 1), (1, 2), (2, .agg [3, 4, 5, 6, 7, 8, 9, 10, 11, 12, 13]), (5, .ptr 8 0), (6, .int .i64 0), (7, .ptr 9 0), (11, 1), (12, .agg [3, 4, 5, 6, 7, 8, 9, 10, 11, 12, 13]), (13, .bool true), (14, .bool false), (15, .agg [.int .i64 (-1), .int .i64 0]), (16, 2), (17, 14), (18, .bool false), (26, .ptr 8 0), (27, 3), (28, .ptr 9 0), (29, .int .i64 (-1)), (30, .bool false), (31, .bool false), (32, .ptr 8 0), (33, 3), (34, .ptr 9 0), (35, .int .i64 (-1)), (36, .bool true), (37, .bool true), (38, .ptr 8 1), (39, 4), (40, .ptr 9 1), (41, .int .i64 0), (42, .int .i64 1), (43, .bool false), (44, .bool false), (45, .bool false), (46, .bool false), (47, .ptr 8 0), (48, 3), (49, .ptr 9 0), (50, .int .i64 (-1)), (51, .bool false), (52, .bool false), (56, .bool false), (57, .bool false)], [(8, .cells [3, 4, 5, 6, 7, 8, 9, 10, 11, 12, 13] 0 0), (9, .cells [.int .i64 (-1), .int .i64 0] 0 0)], 10, 10, 0, 0, 15, 15⟩ : Head)
def pV_L2  (A : pV_A) (w : World) : Nat → Int → Option (Nat × Unit)
 | 0, _ => none
 | fu_ + 1, v20 => some (0, ())
def pV_L3_H : Head := (⟨[(0, 1), (1, 2), (2, .agg [3, 4, 5, 6, 7, 8, 9, 10, 11, 12, 13]), (5, .ptr 8 0), (6, .int .i64 0), (7, .ptr 9 0), (8, 15), (11, 1), (12, .agg [3, 4, 5, 6, 7, 8, 9, 10, 11, 12, 13]), (13, .bool true), (14, .bool false), (15, .agg [.int .i64 (-1), .int .i64 0]), (16, 2), (17, 14), (18, .bool false), (26, .ptr 8 0), (27, 3), (28, .ptr 9 0), (29, .int .i64 (-1)), (30, .bool false), (31, .bool false), (32, .ptr 8 0), (33, 3), (34, .ptr 9 0), (35, .int .i64 (-1)), (36, .bool false), (37, .bool false), (44, .bool false), (45, .bool false), (46, .bool false), (47, .ptr 8 0), (48, 3), (49, .ptr 9 0), (50, .int .i64 (-1)), (51, .bool true), (52, .bool true), (53, .ptr 8 1), (54, 4), (55, .bool false), (56, .bool false), (57, .bool false)], [(8, .cells [3, 4, 5, 6, 7, 8, 9, 10, 11, 12, 13] 0 0), (9, .cells [.int .i64 (-1), .int .i64 0] 0 0)], 10, 10, 0, 0, 15, 16⟩ : Head)
def pV_L3_R : Rn := ⟨10, [], 0, [], 15, [.int .i64 0]⟩
def pV_L3_B  (A : pV_A) (w : World) (R : List Value) : List Value := .agg #[] :: .int .i64 A.n :: .slice A.a_l A.l.length A.κ_l :: poV A.p ++ .int .i64 (A.l.length : Int) :: R
def pV_L3_X0 : Head := (⟨[(0, 1), (1, 2), (2, .agg [3, 4, 5, 6, 7, 8, 9, 10, 11, 12, 13]), (5, .ptr 8 0), (6, .int .i64 0), (7, .ptr 9 0), (11, 1), (12, .agg [3, 4, 5, 6, 7, 8, 9, 10, 11, 12, 13]), (13, .bool true), (14, .bool false), (15, .agg [.int .i64 (-1), .int .i64 0]), (16, 2), (17, 14), (18, .bool false), (26, .ptr 8 0), (27, 3), (28, .ptr 9 0), (29, .int .i64 (-1)), (30, .bool false), (31, .bool false), (32, .ptr 8 0), (33, 3), (34, .ptr 9 0), (35, .int .i64 (-1)), (36, .bool false), (37, .bool false), (44, .bool false), (45, .bool false), (46, .bool false), (47, .ptr 8 0), (48, 3), (49, .ptr 9 0), (50, .int .i64 (-1)), (51, .bool true), (52, .bool true), (53, .ptr 8 1), (54, 4), (55, .bool false), (56, .bool false), (57, .bool false)], [(8, .cells [3, 4, 5, 6, 7, 8, 9, 10, 11, 12, 13] 0 0), (9, .cells [.int .i64 (-1), .int .i64 0] 0 0)], 10, 10, 0, 0, 15, 15⟩ : Head)
def pV_L3  (A : pV_A) (w : World) : Nat → Int → Option (Nat × Unit)
 | 0, _ => none
 | fu_ + 1, v30 => some (0, ())
def pV_r  (A : pV_A) (w : World) : Int := (if checkN A.n A.p = 0 then (if 0 < (A.l.length : Int) then (if A.p.reeve < (at_ A.l (((A.l.length : Int) - 1))).reeve then 8 else (if A.p.reeve = (at_ A.l (((A.l.length : Int) - 1))).reeve then (if A.p.number = (IntKind.wrap .i64 ((at_ A.l (((A.l.length : Int) - 1))).number + 1)) then (match pV_L0 A w ((((A.l.length : Int) - 0) : Int).toNat + 1) 0 with | some (0, _) => 6 | some (1, _) => (if A.p.kind = 4 then (if findB A.l A.p.of = true then (if (findP A.l A.p.of).kind = 1 ∨ (findP A.l A.p.of).kind = 2 then (if (findP A.l A.p.of).owner = A.p.owner then (if A.p.by_.reeve = 0 then (if A.p.by_.number = 0 then (if (owedN A.l (findP A.l A.p.of)) < A.p.amount then 8 else 0) else 0) else 0) else 5) else 5) else 5) else (if A.p.kind = 5 then (if findB A.l A.p.of = true then (if (findP A.l A.p.of).kind = 1 ∨ (findP A.l A.p.of).kind = 2 then (if (findP A.l A.p.of).owner = A.p.owner then (if A.p.by_.reeve = 0 then (if A.p.by_.number = 0 then (if (owedN A.l (findP A.l A.p.of)) < A.p.amount then 8 else 0) else 0) else 0) else 5) else 5) else 5) else 0)) | _ => default) else 8) else (if A.p.number = 1 then (match pV_L1 A w ((((A.l.length : Int) - 0) : Int).toNat + 1) 0 with | some (0, _) => 6 | some (1, _) => (if A.p.kind = 4 then (if findB A.l A.p.of = true then (if (findP A.l A.p.of).kind = 1 ∨ (findP A.l A.p.of).kind = 2 then (if (findP A.l A.p.of).owner = A.p.owner then (if A.p.by_.reeve = 0 then (if A.p.by_.number = 0 then (if (owedN A.l (findP A.l A.p.of)) < A.p.amount then 8 else 0) else 0) else 0) else 5) else 5) else 5) else (if A.p.kind = 5 then (if findB A.l A.p.of = true then (if (findP A.l A.p.of).kind = 1 ∨ (findP A.l A.p.of).kind = 2 then (if (findP A.l A.p.of).owner = A.p.owner then (if A.p.by_.reeve = 0 then (if A.p.by_.number = 0 then (if (owedN A.l (findP A.l A.p.of)) < A.p.amount then 8 else 0) else 0) else 0) else 5) else 5) else 5) else 0)) | _ => default) else 8))) else (if A.p.reeve < (-1) then 8 else (if A.p.reeve = (-1) then (if A.p.number = 1 then (match pV_L2 A w ((((A.l.length : Int) - 0) : Int).toNat + 1) 0 with | some (0, _) => (if A.p.kind = 4 then (if findB A.l A.p.of = true then (if (findP A.l A.p.of).kind = 1 ∨ (findP A.l A.p.of).kind = 2 then (if (findP A.l A.p.of).owner = A.p.owner then (if A.p.by_.reeve = 0 then (if A.p.by_.number = 0 then (if (owedN A.l (findP A.l A.p.of)) < A.p.amount then 8 else 0) else 0) else 0) else 5) else 5) else 5) else (if A.p.kind = 5 then (if findB A.l A.p.of = true then (if (findP A.l A.p.of).kind = 1 ∨ (findP A.l A.p.of).kind = 2 then (if (findP A.l A.p.of).owner = A.p.owner then (if A.p.by_.reeve = 0 then (if A.p.by_.number = 0 then (if (owedN A.l (findP A.l A.p.of)) < A.p.amount then 8 else 0) else 0) else 0) else 5) else 5) else 5) else 0)) | _ => default) else 8) else (if A.p.number = 1 then (match pV_L3 A w ((((A.l.length : Int) - 0) : Int).toNat + 1) 0 with | some (0, _) => (if A.p.kind = 4 then (if findB A.l A.p.of = true then (if (findP A.l A.p.of).kind = 1 ∨ (findP A.l A.p.of).kind = 2 then (if (findP A.l A.p.of).owner = A.p.owner then (if A.p.by_.reeve = 0 then (if A.p.by_.number = 0 then (if (owedN A.l (findP A.l A.p.of)) < A.p.amount then 8 else 0) else 0) else 0) else 5) else 5) else 5) else (if A.p.kind = 5 then (if findB A.l A.p.of = true then (if (findP A.l A.p.of).kind = 1 ∨ (findP A.l A.p.of).kind = 2 then (if (findP A.l A.p.of).owner = A.p.owner then (if A.p.by_.reeve = 0 then (if A.p.by_.number = 0 then (if (owedN A.l (findP A.l A.p.of)) < A.p.amount then 8 else 0) else 0) else 0) else 5) else 5) else 5) else 0)) | _ => default) else 8)))) else 1)
theorem pV_any  (A : pV_A) (w : World) (H_l : LstAt poC w A.a_l A.b_l A.o_l A.l) (h0 : (A.l.length : Int) ≤ (A.κ_l : Int)) (h1 : (A.l.length : Int) ≤ 1000) (h2 : A.n = 3 ∨ A.n = 5) : Calls Tryz.prog 101 #[.int .i64 A.n, .slice A.a_l A.l.length A.κ_l, A.p.val] w fun e w' => e = .returned (.int .i64 (pV_r A w)) ∧ Chg (fun _ => False) w w' := by
 unfold pV_r
 refine wGo (E := E0) (n := 8) (w := w) (L := id) ?_
 refine wS (.agg #[] :: I A.n :: .slice A.a_l A.l.length A.κ_l :: poV A.p ++ []) ?_
 by_cases h3 : checkN A.n A.p = 0
 ·rw [if_pos h3]
  refine wS (I (A.l.length : Int) :: []) (wN 38 2 14 (wC (⟨82, [.tup [1, .agg [3, 4, 5, 6, 7, 8, 9, 10, 11, 12, 13]], .tup []], (.bool true)⟩) (fun _ => q_cV (h := fun w hw => by have hb := decide_eq_true h3; rw [← hb]; exact rFormed_n _ _ _ (show A.n = 3 ∨ A.n = 5 by omega))) ?_))
  by_cases h4 : 0 < (A.l.length : Int)
  ·rw [if_pos h4]
   refine wS (I (((A.l.length : Int) - 1)) :: .pointer (some ⟨A.b_l, A.o_l + (((A.l.length : Int) - 1) : Int).toNat * 11, none⟩) :: poV ((at_ A.l (((A.l.length : Int) - 1)))) ++ []) (wT .gtr 14 (J 0) h4 (wD 14 (J 1) 15 (wX 38 2 15 16 H_l 11 ((A.l.length : Int) - 1) (wR 25 16 [17, 18, 19, 20, 21, 22, 23, 24, 25, 26, 27] H_l ((A.l.length : Int) - 1) ?_))))
   by_cases h5 : A.p.reeve < (at_ A.l (((A.l.length : Int) - 1))).reeve
   ·rw [if_pos h5]
    refine wT .lss 3 17 h5 ?_
    exact wZ (.int .i64 8) [1, 2, .agg [3, 4, 5, 6, 7, 8, 9, 10, 11, 12, 13]]
   ·rw [if_neg h5]
    refine wF .lss 3 17 h5 ?_
    by_cases h6 : A.p.reeve = (at_ A.l (((A.l.length : Int) - 1))).reeve
    ·rw [if_pos h6]
     refine wS (I ((IntKind.wrap .i64 ((at_ A.l (((A.l.length : Int) - 1))).number + 1))) :: []) (wT .eql 3 17 h6 (wE (⟨tagB .add, [18, J 1], 28⟩) (fun _ => q_add rfl rfl rfl) ?_))
     by_cases h7 : A.p.number = (IntKind.wrap .i64 ((at_ A.l (((A.l.length : Int) - 1))).number + 1))
     ·rw [if_pos h7]
      refine wF .neq 4 28 (fun h => h h7) (wF .gtr 3 17 (show ¬ ((at_ A.l (((A.l.length : Int) - 1))).reeve < A.p.reeve) by omega) ?_)
      refine wK (K := ∀ (fu_ : Nat) (v00 : Int), (0 ≤ v00 ∧ v00 ≤ (A.l.length : Int)) → (((A.l.length : Int) - v00) : Int) < fu_ → ∃ o, pV_L0 A w fu_ v00 = some o ∧ RdsD Tryz.prog 8 101 9 w pV_L0_H (pV_L0_B A w [.int .i64 v00]) fu_ [(o.1 = 0 ∧ True, pV_L0_X0, pV_L0_B A w [], .ret), (o.1 = 1 ∧ True, pV_L0_X1, pV_L0_B A w [], (.exit 0))]) (fun hq hc hm hp fu_ => ?_) (fun key8 => ?_)
      ·induction fu_ with
       | zero => intro v00 _ hz; exfalso; omega
       | succ fu_ ih =>
        intro v00 h8 hz
        rw [pV_L0]
        refine wB hq hc hm hp ?_
        refine wS (I v00 :: []) ?_
        by_cases h9 : v00 < (A.l.length : Int)
        ·rw [if_pos h9]
         refine wS (.pointer (some ⟨A.b_l, A.o_l + (v00 : Int).toNat * 11, none⟩) :: .pointer (some ⟨A.b_l, A.o_l + (v00 : Int).toNat * 11 + 0, none⟩) :: I ((at_ A.l v00).reeve) :: []) (wT .lss 29 14 h9 (wX 38 2 29 30 H_l 11 v00 (wO 25 0 0 30 31 (wP 3 31 32 H_l v00 0 ?_))))
         by_cases h10 : (at_ A.l v00).reeve = A.p.reeve
         ·rw [if_pos h10]
          refine wF .neq 32 3 (fun h => h h10) ?_
          by_cases h11 : (A.p).kind = 1 ∨ (A.p).kind = 2
          ·rw [if_pos h11]
           refine wS (.pointer (some ⟨A.b_l, A.o_l + (v00 : Int).toNat * 11 + 3, none⟩) :: .int .u8 ((at_ A.l v00).kind) :: []) (wO 25 3 3 30 33 (wP 5 33 34 H_l v00 3 (wC (⟨103, [.tup [.agg [3, 4, 5, 6, 7, 8, 9, 10, 11, 12, 13]], .tup []], (.bool true)⟩) (fun _ => q_cV (h := fun w hw => by have hb := decide_eq_true h11; rw [← hb]; exact pRCharge_n _ _)) ?_)))
           by_cases h12 : (at_ A.l v00).kind = A.p.kind
           ·rw [if_pos h12]
            refine wS (.pointer (some ⟨A.b_l, A.o_l + (v00 : Int).toNat * 11 + 4, none⟩) :: I ((at_ A.l v00).cse) :: []) (wT .eql 34 6 h12 (wO 25 4 4 30 35 (wP 3 35 36 H_l v00 4 ?_)))
            by_cases h13 : (at_ A.l v00).cse = A.p.cse
            ·rw [if_pos h13]
             refine wT .eql 36 7 h13 ?_
             exact wQ (fun hr => ⟨(0, ()), rfl, Or.inl ⟨⟨rfl, trivial⟩, rndEnd xeR hr⟩⟩) 30 ⟨12, [], 0, [], 29, []⟩ [] trivial
            ·rw [if_neg h13]
             refine wS (I (v00 + 1) :: []) (wF .eql 36 7 h13 (wF .eql 6 (.int .u8 4) (show ¬ (A.p.kind = 4) by omega) (wA 29 (J 1) 37 ?_)))
             exact wQ (rnG (ih (v00 + 1) (by omega) (by omega))) 30 ⟨12, [], 0, [], 29, [37]⟩ [] ⟨rfl, trivial⟩
           ·rw [if_neg h12]
            refine wS (I (v00 + 1) :: []) (wF .eql 34 6 h12 (wF .eql 6 (.int .u8 4) (show ¬ (A.p.kind = 4) by omega) (wA 29 (J 1) 35 ?_)))
            exact wQ (rnG (ih (v00 + 1) (by omega) (by omega))) 30 ⟨12, [], 0, [], 29, [35]⟩ [] ⟨rfl, trivial⟩
          ·rw [if_neg h11]
           refine wC (⟨103, [.tup [.agg [3, 4, 5, 6, 7, 8, 9, 10, 11, 12, 13]], .tup []], (.bool false)⟩) (fun _ => q_cV (h := fun w hw => by have hb := decide_eq_false h11; rw [← hb]; exact pRCharge_n _ _)) ?_
           by_cases h12 : A.p.kind = 4
           ·rw [if_pos h12]
            refine wT .eql 6 (.int .u8 4) h12 ?_
            by_cases h13 : A.p.by_.reeve = 0
            ·rw [if_pos h13]
             refine wU 11 (J 0) h13 ?_
             by_cases h14 : A.p.by_.number = 0
             ·rw [if_pos h14]
              refine wS (I (v00 + 1) :: []) (wU 12 (J 0) h14 (wA 29 (J 1) 33 ?_))
              exact wQ (rnG (ih (v00 + 1) (by omega) (by omega))) 30 ⟨12, [], 0, [], 29, [33]⟩ [] ⟨rfl, trivial⟩
             ·rw [if_neg h14]
              refine wS (.pointer (some ⟨A.b_l, A.o_l + (v00 : Int).toNat * 11 + 3, none⟩) :: .int .u8 ((at_ A.l v00).kind) :: []) (wV 12 (J 0) h14 (wO 25 3 3 30 33 (wP 5 33 34 H_l v00 3 ?_)))
              by_cases h15 : (at_ A.l v00).kind = 4
              ·rw [if_pos h15]
               refine wS (.pointer (some ⟨A.b_l, A.o_l + (v00 : Int).toNat * 11 + 8, none⟩) :: I ((at_ A.l v00).by_.reeve) :: I ((at_ A.l v00).by_.number) :: []) (wT .eql 34 (.int .u8 4) h15 (wO 25 7 8 30 35 (wE (⟨8000000000 + 23, [35], .agg [36, 37]⟩) (fun _ => q_subO (C := poC) H_l (i := v00) (j := 8) (n := 2) ⟨by omega, by omega⟩ rfl rfl rfl rfl rfl rfl (by kernel_rfl)) ?_)))
               by_cases h16 : (at_ A.l v00).by_.reeve = A.p.by_.reeve
               ·rw [if_pos h16]
                refine wU 36 11 h16 ?_
                by_cases h17 : (at_ A.l v00).by_.number = A.p.by_.number
                ·rw [if_pos h17]
                 refine wU 37 12 h17 ?_
                 exact wQ (fun hr => ⟨(0, ()), rfl, Or.inl ⟨⟨rfl, trivial⟩, rndEnd xeR hr⟩⟩) 30 ⟨12, [], 0, [], 29, []⟩ [] trivial
                ·rw [if_neg h17]
                 refine wS (I (v00 + 1) :: []) (wV 37 12 h17 (wA 29 (J 1) 38 ?_))
                 exact wQ (rnG (ih (v00 + 1) (by omega) (by omega))) 30 ⟨12, [], 0, [], 29, [38]⟩ [] ⟨rfl, trivial⟩
               ·rw [if_neg h16]
                refine wS (I (v00 + 1) :: []) (wV 36 11 h16 (wA 29 (J 1) 38 ?_))
                exact wQ (rnG (ih (v00 + 1) (by omega) (by omega))) 30 ⟨12, [], 0, [], 29, [38]⟩ [] ⟨rfl, trivial⟩
              ·rw [if_neg h15]
               refine wS (I (v00 + 1) :: []) (wF .eql 34 (.int .u8 4) h15 (wA 29 (J 1) 35 ?_))
               exact wQ (rnG (ih (v00 + 1) (by omega) (by omega))) 30 ⟨12, [], 0, [], 29, [35]⟩ [] ⟨rfl, trivial⟩
            ·rw [if_neg h13]
             refine wS (.pointer (some ⟨A.b_l, A.o_l + (v00 : Int).toNat * 11 + 3, none⟩) :: .int .u8 ((at_ A.l v00).kind) :: []) (wV 11 (J 0) h13 (wO 25 3 3 30 33 (wP 5 33 34 H_l v00 3 ?_)))
             by_cases h14 : (at_ A.l v00).kind = 4
             ·rw [if_pos h14]
              refine wS (.pointer (some ⟨A.b_l, A.o_l + (v00 : Int).toNat * 11 + 8, none⟩) :: I ((at_ A.l v00).by_.reeve) :: I ((at_ A.l v00).by_.number) :: []) (wT .eql 34 (.int .u8 4) h14 (wO 25 7 8 30 35 (wE (⟨8000000000 + 23, [35], .agg [36, 37]⟩) (fun _ => q_subO (C := poC) H_l (i := v00) (j := 8) (n := 2) ⟨by omega, by omega⟩ rfl rfl rfl rfl rfl rfl (by kernel_rfl)) ?_)))
              by_cases h15 : (at_ A.l v00).by_.reeve = A.p.by_.reeve
              ·rw [if_pos h15]
               refine wU 36 11 h15 ?_
               by_cases h16 : (at_ A.l v00).by_.number = A.p.by_.number
               ·rw [if_pos h16]
                refine wU 37 12 h16 ?_
                exact wQ (fun hr => ⟨(0, ()), rfl, Or.inl ⟨⟨rfl, trivial⟩, rndEnd xeR hr⟩⟩) 30 ⟨12, [], 0, [], 29, []⟩ [] trivial
               ·rw [if_neg h16]
                refine wS (I (v00 + 1) :: []) (wV 37 12 h16 (wA 29 (J 1) 38 ?_))
                exact wQ (rnG (ih (v00 + 1) (by omega) (by omega))) 30 ⟨12, [], 0, [], 29, [38]⟩ [] ⟨rfl, trivial⟩
              ·rw [if_neg h15]
               refine wS (I (v00 + 1) :: []) (wV 36 11 h15 (wA 29 (J 1) 38 ?_))
               exact wQ (rnG (ih (v00 + 1) (by omega) (by omega))) 30 ⟨12, [], 0, [], 29, [38]⟩ [] ⟨rfl, trivial⟩
             ·rw [if_neg h14]
              refine wS (I (v00 + 1) :: []) (wF .eql 34 (.int .u8 4) h14 (wA 29 (J 1) 35 ?_))
              exact wQ (rnG (ih (v00 + 1) (by omega) (by omega))) 30 ⟨12, [], 0, [], 29, [35]⟩ [] ⟨rfl, trivial⟩
           ·rw [if_neg h12]
            refine wS (I (v00 + 1) :: []) (wF .eql 6 (.int .u8 4) h12 (wA 29 (J 1) 33 ?_))
            exact wQ (rnG (ih (v00 + 1) (by omega) (by omega))) 30 ⟨12, [], 0, [], 29, [33]⟩ [] ⟨rfl, trivial⟩
         ·rw [if_neg h10]
          refine wS (I (v00 + 1) :: []) (wT .neq 32 3 h10 (wA 29 (J 1) 33 ?_))
          exact wQ (rnG (ih (v00 + 1) (by omega) (by omega))) 30 ⟨12, [], 0, [], 29, [33]⟩ [] ⟨rfl, trivial⟩
        ·rw [if_neg h9]
         refine wF .lss 29 14 h9 ?_
         exact wQ (fun hr => ⟨(1, ()), rfl, Or.inr (⟨⟨rfl, trivial⟩, rndEnd xeE hr⟩)⟩) 30 ⟨12, [], 0, [], 29, []⟩ [] trivial
      obtain ⟨⟨q8, _⟩, h8, hk8⟩ := key8 ((((A.l.length : Int) - 0) : Int).toNat + 1) 0 (by first | trivial | omega | (simp; omega)) (by first | omega | (simp; omega))
      rw [h8]
      rcases hk8 with ⟨⟨he8, h9⟩, hr8⟩ | ⟨⟨he8, h9⟩, hr8⟩
      ·have he8 : q8 = 0 := he8
       subst he8
       try dsimp only
       refine wLp (x := .ret) rfl hr8 pV_L0_R [] (fun _ => rfl) (by kernel_rfl) (fun _ => rfl) (fun _ => ⟨rfl, trivial⟩) (fun _ => rfl) ?_
       exact wZ (.int .i64 6) [1, 2, .agg [3, 4, 5, 6, 7, 8, 9, 10, 11, 12, 13]]
      ·have he8 : q8 = 1 := he8
       subst he8
       try dsimp only
       refine wLp (x := (.exit 0)) rfl hr8 pV_L0_R [] (fun _ => rfl) (by kernel_rfl) (fun _ => rfl) (fun _ => ⟨rfl, trivial⟩) (fun _ => rfl) ?_
       by_cases h10 : A.p.kind = 4
       ·rw [if_pos h10]
        refine wF .neq 6 (.int .u8 4) (fun h => h h10) ?_
        by_cases h11 : findB A.l A.p.of = true
        ·rw [if_pos h11]
         refine wS (poV (findP A.l A.p.of) ++ []) (wC (⟨102, [.tup [2, .agg [9, 10]], .tup []], .tup [.agg [29, 30, 31, 32, 33, 34, 35, 36, 37, 38, 39], (.bool true)]⟩) (fun _ => q_cV (h := fun w hw => by have hb := h11; (try simp only [Bool.not_eq_true] at hb); rw [← hb]; exact pRFind_n (LstAt.old H_l hw) (by omega) (by omega) _)) ?_)
         by_cases h12 : (findP A.l A.p.of).kind = 1 ∨ (findP A.l A.p.of).kind = 2
         ·rw [if_pos h12]
          refine wC (⟨103, [.tup [.agg [29, 30, 31, 32, 33, 34, 35, 36, 37, 38, 39]], .tup []], (.bool true)⟩) (fun _ => q_cV (h := fun w hw => by have hb := decide_eq_true h12; rw [← hb]; exact pRCharge_n _ _)) ?_
          by_cases h13 : (findP A.l A.p.of).owner = A.p.owner
          ·rw [if_pos h13]
           refine wF .neq 34 8 (fun h => h h13) ?_
           by_cases h14 : A.p.by_.reeve = 0
           ·rw [if_pos h14]
            refine wU 11 (J 0) h14 ?_
            by_cases h15 : A.p.by_.number = 0
            ·rw [if_pos h15]
             have h16 : 0 ≤ owedN A.l (findP A.l A.p.of) := owedN_nn _ _
             refine wS (I (owedN A.l (findP A.l A.p.of)) :: []) (wU 12 (J 0) h15 (wC (⟨104, [.tup [2, .agg [29, 30, 31, 32, 33, 34, 35, 36, 37, 38, 39]], .tup []], 40⟩) (fun _ => q_cV (h := fun w hw => by exact pROwed_n (LstAt.old H_l hw) (by omega) (by omega) _)) ?_))
             by_cases h17 : (owedN A.l (findP A.l A.p.of)) < A.p.amount
             ·rw [if_pos h17]
              refine wT .gtr 13 40 h17 ?_
              exact wZ (.int .i64 8) [1, 2, .agg [3, 4, 5, 6, 7, 8, 9, 10, 11, 12, 13]]
             ·rw [if_neg h17]
              refine wF .gtr 13 40 h17 ?_
              exact wZ (.int .i64 0) [1, 2, .agg [3, 4, 5, 6, 7, 8, 9, 10, 11, 12, 13]]
            ·rw [if_neg h15]
             refine wV 12 (J 0) h15 ?_
             exact wZ (.int .i64 0) [1, 2, .agg [3, 4, 5, 6, 7, 8, 9, 10, 11, 12, 13]]
           ·rw [if_neg h14]
            refine wV 11 (J 0) h14 ?_
            exact wZ (.int .i64 0) [1, 2, .agg [3, 4, 5, 6, 7, 8, 9, 10, 11, 12, 13]]
          ·rw [if_neg h13]
           refine wT .neq 34 8 h13 ?_
           exact wZ (.int .i64 5) [1, 2, .agg [3, 4, 5, 6, 7, 8, 9, 10, 11, 12, 13]]
         ·rw [if_neg h12]
          refine wC (⟨103, [.tup [.agg [29, 30, 31, 32, 33, 34, 35, 36, 37, 38, 39]], .tup []], (.bool false)⟩) (fun _ => q_cV (h := fun w hw => by have hb := decide_eq_false h12; rw [← hb]; exact pRCharge_n _ _)) ?_
          exact wZ (.int .i64 5) [1, 2, .agg [3, 4, 5, 6, 7, 8, 9, 10, 11, 12, 13]]
        ·rw [if_neg h11]
         refine wS (poV (findP A.l A.p.of) ++ []) (wC (⟨102, [.tup [2, .agg [9, 10]], .tup []], .tup [.agg [29, 30, 31, 32, 33, 34, 35, 36, 37, 38, 39], (.bool false)]⟩) (fun _ => q_cV (h := fun w hw => by have hb := h11; (try simp only [Bool.not_eq_true] at hb); rw [← hb]; exact pRFind_n (LstAt.old H_l hw) (by omega) (by omega) _)) ?_)
         exact wZ (.int .i64 5) [1, 2, .agg [3, 4, 5, 6, 7, 8, 9, 10, 11, 12, 13]]
       ·rw [if_neg h10]
        refine wT .neq 6 (.int .u8 4) h10 ?_
        by_cases h11 : A.p.kind = 5
        ·rw [if_pos h11]
         refine wF .neq 6 (.int .u8 5) (fun h => h h11) ?_
         by_cases h12 : findB A.l A.p.of = true
         ·rw [if_pos h12]
          refine wS (poV (findP A.l A.p.of) ++ []) (wC (⟨102, [.tup [2, .agg [9, 10]], .tup []], .tup [.agg [29, 30, 31, 32, 33, 34, 35, 36, 37, 38, 39], (.bool true)]⟩) (fun _ => q_cV (h := fun w hw => by have hb := h12; (try simp only [Bool.not_eq_true] at hb); rw [← hb]; exact pRFind_n (LstAt.old H_l hw) (by omega) (by omega) _)) ?_)
          by_cases h13 : (findP A.l A.p.of).kind = 1 ∨ (findP A.l A.p.of).kind = 2
          ·rw [if_pos h13]
           refine wC (⟨103, [.tup [.agg [29, 30, 31, 32, 33, 34, 35, 36, 37, 38, 39]], .tup []], (.bool true)⟩) (fun _ => q_cV (h := fun w hw => by have hb := decide_eq_true h13; rw [← hb]; exact pRCharge_n _ _)) ?_
           by_cases h14 : (findP A.l A.p.of).owner = A.p.owner
           ·rw [if_pos h14]
            refine wF .neq 34 8 (fun h => h h14) ?_
            by_cases h15 : A.p.by_.reeve = 0
            ·rw [if_pos h15]
             refine wU 11 (J 0) h15 ?_
             by_cases h16 : A.p.by_.number = 0
             ·rw [if_pos h16]
              have h17 : 0 ≤ owedN A.l (findP A.l A.p.of) := owedN_nn _ _
              refine wS (I (owedN A.l (findP A.l A.p.of)) :: []) (wU 12 (J 0) h16 (wC (⟨104, [.tup [2, .agg [29, 30, 31, 32, 33, 34, 35, 36, 37, 38, 39]], .tup []], 40⟩) (fun _ => q_cV (h := fun w hw => by exact pROwed_n (LstAt.old H_l hw) (by omega) (by omega) _)) ?_))
              by_cases h18 : (owedN A.l (findP A.l A.p.of)) < A.p.amount
              ·rw [if_pos h18]
               refine wT .gtr 13 40 h18 ?_
               exact wZ (.int .i64 8) [1, 2, .agg [3, 4, 5, 6, 7, 8, 9, 10, 11, 12, 13]]
              ·rw [if_neg h18]
               refine wF .gtr 13 40 h18 ?_
               exact wZ (.int .i64 0) [1, 2, .agg [3, 4, 5, 6, 7, 8, 9, 10, 11, 12, 13]]
             ·rw [if_neg h16]
              refine wV 12 (J 0) h16 ?_
              exact wZ (.int .i64 0) [1, 2, .agg [3, 4, 5, 6, 7, 8, 9, 10, 11, 12, 13]]
            ·rw [if_neg h15]
             refine wV 11 (J 0) h15 ?_
             exact wZ (.int .i64 0) [1, 2, .agg [3, 4, 5, 6, 7, 8, 9, 10, 11, 12, 13]]
           ·rw [if_neg h14]
            refine wT .neq 34 8 h14 ?_
            exact wZ (.int .i64 5) [1, 2, .agg [3, 4, 5, 6, 7, 8, 9, 10, 11, 12, 13]]
          ·rw [if_neg h13]
           refine wC (⟨103, [.tup [.agg [29, 30, 31, 32, 33, 34, 35, 36, 37, 38, 39]], .tup []], (.bool false)⟩) (fun _ => q_cV (h := fun w hw => by have hb := decide_eq_false h13; rw [← hb]; exact pRCharge_n _ _)) ?_
           exact wZ (.int .i64 5) [1, 2, .agg [3, 4, 5, 6, 7, 8, 9, 10, 11, 12, 13]]
         ·rw [if_neg h12]
          refine wS (poV (findP A.l A.p.of) ++ []) (wC (⟨102, [.tup [2, .agg [9, 10]], .tup []], .tup [.agg [29, 30, 31, 32, 33, 34, 35, 36, 37, 38, 39], (.bool false)]⟩) (fun _ => q_cV (h := fun w hw => by have hb := h12; (try simp only [Bool.not_eq_true] at hb); rw [← hb]; exact pRFind_n (LstAt.old H_l hw) (by omega) (by omega) _)) ?_)
          exact wZ (.int .i64 5) [1, 2, .agg [3, 4, 5, 6, 7, 8, 9, 10, 11, 12, 13]]
        ·rw [if_neg h11]
         refine wT .neq 6 (.int .u8 5) h11 ?_
         exact wZ (.int .i64 0) [1, 2, .agg [3, 4, 5, 6, 7, 8, 9, 10, 11, 12, 13]]
     ·rw [if_neg h7]
      refine wT .neq 4 28 h7 ?_
      exact wZ (.int .i64 8) [1, 2, .agg [3, 4, 5, 6, 7, 8, 9, 10, 11, 12, 13]]
    ·rw [if_neg h6]
     refine wF .eql 3 17 h6 (wT .gtr 3 17 (show (at_ A.l (((A.l.length : Int) - 1))).reeve < A.p.reeve by omega) ?_)
     by_cases h7 : A.p.number = 1
     ·rw [if_pos h7]
      refine wF .neq 4 (J 1) (fun h => h h7) ?_
      refine wK (K := ∀ (fu_ : Nat) (v10 : Int), (0 ≤ v10 ∧ v10 ≤ (A.l.length : Int)) → (((A.l.length : Int) - v10) : Int) < fu_ → ∃ o, pV_L1 A w fu_ v10 = some o ∧ RdsD Tryz.prog 8 101 9 w pV_L1_H (pV_L1_B A w [.int .i64 v10]) fu_ [(o.1 = 0 ∧ True, pV_L1_X0, pV_L1_B A w [], .ret), (o.1 = 1 ∧ True, pV_L1_X1, pV_L1_B A w [], (.exit 0))]) (fun hq hc hm hp fu_ => ?_) (fun key8 => ?_)
      ·induction fu_ with
       | zero => intro v10 _ hz; exfalso; omega
       | succ fu_ ih =>
        intro v10 h8 hz
        rw [pV_L1]
        refine wB hq hc hm hp ?_
        refine wS (I v10 :: []) ?_
        by_cases h9 : v10 < (A.l.length : Int)
        ·rw [if_pos h9]
         refine wS (.pointer (some ⟨A.b_l, A.o_l + (v10 : Int).toNat * 11, none⟩) :: .pointer (some ⟨A.b_l, A.o_l + (v10 : Int).toNat * 11 + 0, none⟩) :: I ((at_ A.l v10).reeve) :: []) (wT .lss 28 14 h9 (wX 38 2 28 29 H_l 11 v10 (wO 25 0 0 29 30 (wP 3 30 31 H_l v10 0 ?_))))
         by_cases h10 : (at_ A.l v10).reeve = A.p.reeve
         ·rw [if_pos h10]
          refine wF .neq 31 3 (fun h => h h10) ?_
          by_cases h11 : (A.p).kind = 1 ∨ (A.p).kind = 2
          ·rw [if_pos h11]
           refine wS (.pointer (some ⟨A.b_l, A.o_l + (v10 : Int).toNat * 11 + 3, none⟩) :: .int .u8 ((at_ A.l v10).kind) :: []) (wO 25 3 3 29 32 (wP 5 32 33 H_l v10 3 (wC (⟨103, [.tup [.agg [3, 4, 5, 6, 7, 8, 9, 10, 11, 12, 13]], .tup []], (.bool true)⟩) (fun _ => q_cV (h := fun w hw => by have hb := decide_eq_true h11; rw [← hb]; exact pRCharge_n _ _)) ?_)))
           by_cases h12 : (at_ A.l v10).kind = A.p.kind
           ·rw [if_pos h12]
            refine wS (.pointer (some ⟨A.b_l, A.o_l + (v10 : Int).toNat * 11 + 4, none⟩) :: I ((at_ A.l v10).cse) :: []) (wT .eql 33 6 h12 (wO 25 4 4 29 34 (wP 3 34 35 H_l v10 4 ?_)))
            by_cases h13 : (at_ A.l v10).cse = A.p.cse
            ·rw [if_pos h13]
             refine wT .eql 35 7 h13 ?_
             exact wQ (fun hr => ⟨(0, ()), rfl, Or.inl ⟨⟨rfl, trivial⟩, rndEnd xeR hr⟩⟩) 29 ⟨12, [], 0, [], 28, []⟩ [] trivial
            ·rw [if_neg h13]
             refine wS (I (v10 + 1) :: []) (wF .eql 35 7 h13 (wF .eql 6 (.int .u8 4) (show ¬ (A.p.kind = 4) by omega) (wA 28 (J 1) 36 ?_)))
             exact wQ (rnG (ih (v10 + 1) (by omega) (by omega))) 29 ⟨12, [], 0, [], 28, [36]⟩ [] ⟨rfl, trivial⟩
           ·rw [if_neg h12]
            refine wS (I (v10 + 1) :: []) (wF .eql 33 6 h12 (wF .eql 6 (.int .u8 4) (show ¬ (A.p.kind = 4) by omega) (wA 28 (J 1) 34 ?_)))
            exact wQ (rnG (ih (v10 + 1) (by omega) (by omega))) 29 ⟨12, [], 0, [], 28, [34]⟩ [] ⟨rfl, trivial⟩
          ·rw [if_neg h11]
           refine wC (⟨103, [.tup [.agg [3, 4, 5, 6, 7, 8, 9, 10, 11, 12, 13]], .tup []], (.bool false)⟩) (fun _ => q_cV (h := fun w hw => by have hb := decide_eq_false h11; rw [← hb]; exact pRCharge_n _ _)) ?_
           by_cases h12 : A.p.kind = 4
           ·rw [if_pos h12]
            refine wT .eql 6 (.int .u8 4) h12 ?_
            by_cases h13 : A.p.by_.reeve = 0
            ·rw [if_pos h13]
             refine wU 11 (J 0) h13 ?_
             by_cases h14 : A.p.by_.number = 0
             ·rw [if_pos h14]
              refine wS (I (v10 + 1) :: []) (wU 12 (J 0) h14 (wA 28 (J 1) 32 ?_))
              exact wQ (rnG (ih (v10 + 1) (by omega) (by omega))) 29 ⟨12, [], 0, [], 28, [32]⟩ [] ⟨rfl, trivial⟩
             ·rw [if_neg h14]
              refine wS (.pointer (some ⟨A.b_l, A.o_l + (v10 : Int).toNat * 11 + 3, none⟩) :: .int .u8 ((at_ A.l v10).kind) :: []) (wV 12 (J 0) h14 (wO 25 3 3 29 32 (wP 5 32 33 H_l v10 3 ?_)))
              by_cases h15 : (at_ A.l v10).kind = 4
              ·rw [if_pos h15]
               refine wS (.pointer (some ⟨A.b_l, A.o_l + (v10 : Int).toNat * 11 + 8, none⟩) :: I ((at_ A.l v10).by_.reeve) :: I ((at_ A.l v10).by_.number) :: []) (wT .eql 33 (.int .u8 4) h15 (wO 25 7 8 29 34 (wE (⟨8000000000 + 23, [34], .agg [35, 36]⟩) (fun _ => q_subO (C := poC) H_l (i := v10) (j := 8) (n := 2) ⟨by omega, by omega⟩ rfl rfl rfl rfl rfl rfl (by kernel_rfl)) ?_)))
               by_cases h16 : (at_ A.l v10).by_.reeve = A.p.by_.reeve
               ·rw [if_pos h16]
                refine wU 35 11 h16 ?_
                by_cases h17 : (at_ A.l v10).by_.number = A.p.by_.number
                ·rw [if_pos h17]
                 refine wU 36 12 h17 ?_
                 exact wQ (fun hr => ⟨(0, ()), rfl, Or.inl ⟨⟨rfl, trivial⟩, rndEnd xeR hr⟩⟩) 29 ⟨12, [], 0, [], 28, []⟩ [] trivial
                ·rw [if_neg h17]
                 refine wS (I (v10 + 1) :: []) (wV 36 12 h17 (wA 28 (J 1) 37 ?_))
                 exact wQ (rnG (ih (v10 + 1) (by omega) (by omega))) 29 ⟨12, [], 0, [], 28, [37]⟩ [] ⟨rfl, trivial⟩
               ·rw [if_neg h16]
                refine wS (I (v10 + 1) :: []) (wV 35 11 h16 (wA 28 (J 1) 37 ?_))
                exact wQ (rnG (ih (v10 + 1) (by omega) (by omega))) 29 ⟨12, [], 0, [], 28, [37]⟩ [] ⟨rfl, trivial⟩
              ·rw [if_neg h15]
               refine wS (I (v10 + 1) :: []) (wF .eql 33 (.int .u8 4) h15 (wA 28 (J 1) 34 ?_))
               exact wQ (rnG (ih (v10 + 1) (by omega) (by omega))) 29 ⟨12, [], 0, [], 28, [34]⟩ [] ⟨rfl, trivial⟩
            ·rw [if_neg h13]
             refine wS (.pointer (some ⟨A.b_l, A.o_l + (v10 : Int).toNat * 11 + 3, none⟩) :: .int .u8 ((at_ A.l v10).kind) :: []) (wV 11 (J 0) h13 (wO 25 3 3 29 32 (wP 5 32 33 H_l v10 3 ?_)))
             by_cases h14 : (at_ A.l v10).kind = 4
             ·rw [if_pos h14]
              refine wS (.pointer (some ⟨A.b_l, A.o_l + (v10 : Int).toNat * 11 + 8, none⟩) :: I ((at_ A.l v10).by_.reeve) :: I ((at_ A.l v10).by_.number) :: []) (wT .eql 33 (.int .u8 4) h14 (wO 25 7 8 29 34 (wE (⟨8000000000 + 23, [34], .agg [35, 36]⟩) (fun _ => q_subO (C := poC) H_l (i := v10) (j := 8) (n := 2) ⟨by omega, by omega⟩ rfl rfl rfl rfl rfl rfl (by kernel_rfl)) ?_)))
              by_cases h15 : (at_ A.l v10).by_.reeve = A.p.by_.reeve
              ·rw [if_pos h15]
               refine wU 35 11 h15 ?_
               by_cases h16 : (at_ A.l v10).by_.number = A.p.by_.number
               ·rw [if_pos h16]
                refine wU 36 12 h16 ?_
                exact wQ (fun hr => ⟨(0, ()), rfl, Or.inl ⟨⟨rfl, trivial⟩, rndEnd xeR hr⟩⟩) 29 ⟨12, [], 0, [], 28, []⟩ [] trivial
               ·rw [if_neg h16]
                refine wS (I (v10 + 1) :: []) (wV 36 12 h16 (wA 28 (J 1) 37 ?_))
                exact wQ (rnG (ih (v10 + 1) (by omega) (by omega))) 29 ⟨12, [], 0, [], 28, [37]⟩ [] ⟨rfl, trivial⟩
              ·rw [if_neg h15]
               refine wS (I (v10 + 1) :: []) (wV 35 11 h15 (wA 28 (J 1) 37 ?_))
               exact wQ (rnG (ih (v10 + 1) (by omega) (by omega))) 29 ⟨12, [], 0, [], 28, [37]⟩ [] ⟨rfl, trivial⟩
             ·rw [if_neg h14]
              refine wS (I (v10 + 1) :: []) (wF .eql 33 (.int .u8 4) h14 (wA 28 (J 1) 34 ?_))
              exact wQ (rnG (ih (v10 + 1) (by omega) (by omega))) 29 ⟨12, [], 0, [], 28, [34]⟩ [] ⟨rfl, trivial⟩
           ·rw [if_neg h12]
            refine wS (I (v10 + 1) :: []) (wF .eql 6 (.int .u8 4) h12 (wA 28 (J 1) 32 ?_))
            exact wQ (rnG (ih (v10 + 1) (by omega) (by omega))) 29 ⟨12, [], 0, [], 28, [32]⟩ [] ⟨rfl, trivial⟩
         ·rw [if_neg h10]
          refine wS (I (v10 + 1) :: []) (wT .neq 31 3 h10 (wA 28 (J 1) 32 ?_))
          exact wQ (rnG (ih (v10 + 1) (by omega) (by omega))) 29 ⟨12, [], 0, [], 28, [32]⟩ [] ⟨rfl, trivial⟩
        ·rw [if_neg h9]
         refine wF .lss 28 14 h9 ?_
         exact wQ (fun hr => ⟨(1, ()), rfl, Or.inr (⟨⟨rfl, trivial⟩, rndEnd xeE hr⟩)⟩) 29 ⟨12, [], 0, [], 28, []⟩ [] trivial
      obtain ⟨⟨q8, _⟩, h8, hk8⟩ := key8 ((((A.l.length : Int) - 0) : Int).toNat + 1) 0 (by first | trivial | omega | (simp; omega)) (by first | omega | (simp; omega))
      rw [h8]
      rcases hk8 with ⟨⟨he8, h9⟩, hr8⟩ | ⟨⟨he8, h9⟩, hr8⟩
      ·have he8 : q8 = 0 := he8
       subst he8
       try dsimp only
       refine wLp (x := .ret) rfl hr8 pV_L1_R [] (fun _ => rfl) (by kernel_rfl) (fun _ => rfl) (fun _ => ⟨rfl, trivial⟩) (fun _ => rfl) ?_
       exact wZ (.int .i64 6) [1, 2, .agg [3, 4, 5, 6, 7, 8, 9, 10, 11, 12, 13]]
      ·have he8 : q8 = 1 := he8
       subst he8
       try dsimp only
       refine wLp (x := (.exit 0)) rfl hr8 pV_L1_R [] (fun _ => rfl) (by kernel_rfl) (fun _ => rfl) (fun _ => ⟨rfl, trivial⟩) (fun _ => rfl) ?_
       by_cases h10 : A.p.kind = 4
       ·rw [if_pos h10]
        refine wF .neq 6 (.int .u8 4) (fun h => h h10) ?_
        by_cases h11 : findB A.l A.p.of = true
        ·rw [if_pos h11]
         refine wS (poV (findP A.l A.p.of) ++ []) (wC (⟨102, [.tup [2, .agg [9, 10]], .tup []], .tup [.agg [28, 29, 30, 31, 32, 33, 34, 35, 36, 37, 38], (.bool true)]⟩) (fun _ => q_cV (h := fun w hw => by have hb := h11; (try simp only [Bool.not_eq_true] at hb); rw [← hb]; exact pRFind_n (LstAt.old H_l hw) (by omega) (by omega) _)) ?_)
         by_cases h12 : (findP A.l A.p.of).kind = 1 ∨ (findP A.l A.p.of).kind = 2
         ·rw [if_pos h12]
          refine wC (⟨103, [.tup [.agg [28, 29, 30, 31, 32, 33, 34, 35, 36, 37, 38]], .tup []], (.bool true)⟩) (fun _ => q_cV (h := fun w hw => by have hb := decide_eq_true h12; rw [← hb]; exact pRCharge_n _ _)) ?_
          by_cases h13 : (findP A.l A.p.of).owner = A.p.owner
          ·rw [if_pos h13]
           refine wF .neq 33 8 (fun h => h h13) ?_
           by_cases h14 : A.p.by_.reeve = 0
           ·rw [if_pos h14]
            refine wU 11 (J 0) h14 ?_
            by_cases h15 : A.p.by_.number = 0
            ·rw [if_pos h15]
             have h16 : 0 ≤ owedN A.l (findP A.l A.p.of) := owedN_nn _ _
             refine wS (I (owedN A.l (findP A.l A.p.of)) :: []) (wU 12 (J 0) h15 (wC (⟨104, [.tup [2, .agg [28, 29, 30, 31, 32, 33, 34, 35, 36, 37, 38]], .tup []], 39⟩) (fun _ => q_cV (h := fun w hw => by exact pROwed_n (LstAt.old H_l hw) (by omega) (by omega) _)) ?_))
             by_cases h17 : (owedN A.l (findP A.l A.p.of)) < A.p.amount
             ·rw [if_pos h17]
              refine wT .gtr 13 39 h17 ?_
              exact wZ (.int .i64 8) [1, 2, .agg [3, 4, 5, 6, 7, 8, 9, 10, 11, 12, 13]]
             ·rw [if_neg h17]
              refine wF .gtr 13 39 h17 ?_
              exact wZ (.int .i64 0) [1, 2, .agg [3, 4, 5, 6, 7, 8, 9, 10, 11, 12, 13]]
            ·rw [if_neg h15]
             refine wV 12 (J 0) h15 ?_
             exact wZ (.int .i64 0) [1, 2, .agg [3, 4, 5, 6, 7, 8, 9, 10, 11, 12, 13]]
           ·rw [if_neg h14]
            refine wV 11 (J 0) h14 ?_
            exact wZ (.int .i64 0) [1, 2, .agg [3, 4, 5, 6, 7, 8, 9, 10, 11, 12, 13]]
          ·rw [if_neg h13]
           refine wT .neq 33 8 h13 ?_
           exact wZ (.int .i64 5) [1, 2, .agg [3, 4, 5, 6, 7, 8, 9, 10, 11, 12, 13]]
         ·rw [if_neg h12]
          refine wC (⟨103, [.tup [.agg [28, 29, 30, 31, 32, 33, 34, 35, 36, 37, 38]], .tup []], (.bool false)⟩) (fun _ => q_cV (h := fun w hw => by have hb := decide_eq_false h12; rw [← hb]; exact pRCharge_n _ _)) ?_
          exact wZ (.int .i64 5) [1, 2, .agg [3, 4, 5, 6, 7, 8, 9, 10, 11, 12, 13]]
        ·rw [if_neg h11]
         refine wS (poV (findP A.l A.p.of) ++ []) (wC (⟨102, [.tup [2, .agg [9, 10]], .tup []], .tup [.agg [28, 29, 30, 31, 32, 33, 34, 35, 36, 37, 38], (.bool false)]⟩) (fun _ => q_cV (h := fun w hw => by have hb := h11; (try simp only [Bool.not_eq_true] at hb); rw [← hb]; exact pRFind_n (LstAt.old H_l hw) (by omega) (by omega) _)) ?_)
         exact wZ (.int .i64 5) [1, 2, .agg [3, 4, 5, 6, 7, 8, 9, 10, 11, 12, 13]]
       ·rw [if_neg h10]
        refine wT .neq 6 (.int .u8 4) h10 ?_
        by_cases h11 : A.p.kind = 5
        ·rw [if_pos h11]
         refine wF .neq 6 (.int .u8 5) (fun h => h h11) ?_
         by_cases h12 : findB A.l A.p.of = true
         ·rw [if_pos h12]
          refine wS (poV (findP A.l A.p.of) ++ []) (wC (⟨102, [.tup [2, .agg [9, 10]], .tup []], .tup [.agg [28, 29, 30, 31, 32, 33, 34, 35, 36, 37, 38], (.bool true)]⟩) (fun _ => q_cV (h := fun w hw => by have hb := h12; (try simp only [Bool.not_eq_true] at hb); rw [← hb]; exact pRFind_n (LstAt.old H_l hw) (by omega) (by omega) _)) ?_)
          by_cases h13 : (findP A.l A.p.of).kind = 1 ∨ (findP A.l A.p.of).kind = 2
          ·rw [if_pos h13]
           refine wC (⟨103, [.tup [.agg [28, 29, 30, 31, 32, 33, 34, 35, 36, 37, 38]], .tup []], (.bool true)⟩) (fun _ => q_cV (h := fun w hw => by have hb := decide_eq_true h13; rw [← hb]; exact pRCharge_n _ _)) ?_
           by_cases h14 : (findP A.l A.p.of).owner = A.p.owner
           ·rw [if_pos h14]
            refine wF .neq 33 8 (fun h => h h14) ?_
            by_cases h15 : A.p.by_.reeve = 0
            ·rw [if_pos h15]
             refine wU 11 (J 0) h15 ?_
             by_cases h16 : A.p.by_.number = 0
             ·rw [if_pos h16]
              have h17 : 0 ≤ owedN A.l (findP A.l A.p.of) := owedN_nn _ _
              refine wS (I (owedN A.l (findP A.l A.p.of)) :: []) (wU 12 (J 0) h16 (wC (⟨104, [.tup [2, .agg [28, 29, 30, 31, 32, 33, 34, 35, 36, 37, 38]], .tup []], 39⟩) (fun _ => q_cV (h := fun w hw => by exact pROwed_n (LstAt.old H_l hw) (by omega) (by omega) _)) ?_))
              by_cases h18 : (owedN A.l (findP A.l A.p.of)) < A.p.amount
              ·rw [if_pos h18]
               refine wT .gtr 13 39 h18 ?_
               exact wZ (.int .i64 8) [1, 2, .agg [3, 4, 5, 6, 7, 8, 9, 10, 11, 12, 13]]
              ·rw [if_neg h18]
               refine wF .gtr 13 39 h18 ?_
               exact wZ (.int .i64 0) [1, 2, .agg [3, 4, 5, 6, 7, 8, 9, 10, 11, 12, 13]]
             ·rw [if_neg h16]
              refine wV 12 (J 0) h16 ?_
              exact wZ (.int .i64 0) [1, 2, .agg [3, 4, 5, 6, 7, 8, 9, 10, 11, 12, 13]]
            ·rw [if_neg h15]
             refine wV 11 (J 0) h15 ?_
             exact wZ (.int .i64 0) [1, 2, .agg [3, 4, 5, 6, 7, 8, 9, 10, 11, 12, 13]]
           ·rw [if_neg h14]
            refine wT .neq 33 8 h14 ?_
            exact wZ (.int .i64 5) [1, 2, .agg [3, 4, 5, 6, 7, 8, 9, 10, 11, 12, 13]]
          ·rw [if_neg h13]
           refine wC (⟨103, [.tup [.agg [28, 29, 30, 31, 32, 33, 34, 35, 36, 37, 38]], .tup []], (.bool false)⟩) (fun _ => q_cV (h := fun w hw => by have hb := decide_eq_false h13; rw [← hb]; exact pRCharge_n _ _)) ?_
           exact wZ (.int .i64 5) [1, 2, .agg [3, 4, 5, 6, 7, 8, 9, 10, 11, 12, 13]]
         ·rw [if_neg h12]
          refine wS (poV (findP A.l A.p.of) ++ []) (wC (⟨102, [.tup [2, .agg [9, 10]], .tup []], .tup [.agg [28, 29, 30, 31, 32, 33, 34, 35, 36, 37, 38], (.bool false)]⟩) (fun _ => q_cV (h := fun w hw => by have hb := h12; (try simp only [Bool.not_eq_true] at hb); rw [← hb]; exact pRFind_n (LstAt.old H_l hw) (by omega) (by omega) _)) ?_)
          exact wZ (.int .i64 5) [1, 2, .agg [3, 4, 5, 6, 7, 8, 9, 10, 11, 12, 13]]
        ·rw [if_neg h11]
         refine wT .neq 6 (.int .u8 5) h11 ?_
         exact wZ (.int .i64 0) [1, 2, .agg [3, 4, 5, 6, 7, 8, 9, 10, 11, 12, 13]]
     ·rw [if_neg h7]
      refine wT .neq 4 (J 1) h7 ?_
      exact wZ (.int .i64 8) [1, 2, .agg [3, 4, 5, 6, 7, 8, 9, 10, 11, 12, 13]]
  ·rw [if_neg h4]
   refine wF .gtr 14 (J 0) h4 ?_
   by_cases h5 : A.p.reeve < (-1)
   ·rw [if_pos h5]
    refine wT .lss 3 (J (-1)) h5 ?_
    exact wZ (.int .i64 8) [1, 2, .agg [3, 4, 5, 6, 7, 8, 9, 10, 11, 12, 13]]
   ·rw [if_neg h5]
    refine wF .lss 3 (J (-1)) h5 ?_
    by_cases h6 : A.p.reeve = (-1)
    ·rw [if_pos h6]
     refine wT .eql 3 (J (-1)) h6 ?_
     by_cases h7 : A.p.number = 1
     ·rw [if_pos h7]
      refine wF .neq 4 (J 1) (fun h => h h7) (wF .gtr 3 (J (-1)) (show ¬ ((-1) < A.p.reeve) by omega) ?_)
      refine wK (K := ∀ (fu_ : Nat) (v20 : Int), (0 ≤ v20 ∧ v20 ≤ (A.l.length : Int)) → (((A.l.length : Int) - v20) : Int) < fu_ → ∃ o, pV_L2 A w fu_ v20 = some o ∧ RdsD Tryz.prog 8 101 9 w pV_L2_H (pV_L2_B A w [.int .i64 v20]) fu_ [(o.1 = 0 ∧ True, pV_L2_X0, pV_L2_B A w [], (.exit 0))]) (fun hq hc hm hp fu_ => ?_) (fun key8 => ?_)
      ·induction fu_ with
       | zero => intro v20 _ hz; exfalso; omega
       | succ fu_ ih =>
        intro v20 h8 hz
        rw [pV_L2]
        refine wB hq hc hm hp ?_
        refine wS (I v20 :: []) (wF .lss 15 14 (show ¬ (v20 < (A.l.length : Int)) by omega) ?_)
        exact wQ (fun hr => ⟨(0, ()), rfl, ⟨⟨rfl, trivial⟩, rndEnd xeE hr⟩⟩) 16 ⟨10, [], 0, [], 15, []⟩ [] trivial
      obtain ⟨⟨q8, _⟩, h8, hk8⟩ := key8 ((((A.l.length : Int) - 0) : Int).toNat + 1) 0 (by first | trivial | omega | (simp; omega)) (by first | omega | (simp; omega))
      rw [h8]
      rcases hk8 with ⟨⟨he8, h9⟩, hr8⟩
      ·have he8 : q8 = 0 := he8
       subst he8
       try dsimp only
       refine wLp (x := (.exit 0)) rfl hr8 pV_L2_R [] (fun _ => rfl) (by kernel_rfl) (fun _ => rfl) (fun _ => ⟨rfl, trivial⟩) (fun _ => rfl) ?_
       by_cases h10 : A.p.kind = 4
       ·rw [if_pos h10]
        refine wF .neq 6 (.int .u8 4) (fun h => h h10) ?_
        by_cases h11 : findB A.l A.p.of = true
        ·rw [if_pos h11]
         refine wS (poV (findP A.l A.p.of) ++ []) (wC (⟨102, [.tup [2, .agg [9, 10]], .tup []], .tup [.agg [15, 16, 17, 18, 19, 20, 21, 22, 23, 24, 25], (.bool true)]⟩) (fun _ => q_cV (h := fun w hw => by have hb := h11; (try simp only [Bool.not_eq_true] at hb); rw [← hb]; exact pRFind_n (LstAt.old H_l hw) (by omega) (by omega) _)) ?_)
         by_cases h12 : (findP A.l A.p.of).kind = 1 ∨ (findP A.l A.p.of).kind = 2
         ·rw [if_pos h12]
          refine wC (⟨103, [.tup [.agg [15, 16, 17, 18, 19, 20, 21, 22, 23, 24, 25]], .tup []], (.bool true)⟩) (fun _ => q_cV (h := fun w hw => by have hb := decide_eq_true h12; rw [← hb]; exact pRCharge_n _ _)) ?_
          by_cases h13 : (findP A.l A.p.of).owner = A.p.owner
          ·rw [if_pos h13]
           refine wF .neq 20 8 (fun h => h h13) ?_
           by_cases h14 : A.p.by_.reeve = 0
           ·rw [if_pos h14]
            refine wU 11 (J 0) h14 ?_
            by_cases h15 : A.p.by_.number = 0
            ·rw [if_pos h15]
             have h16 : 0 ≤ owedN A.l (findP A.l A.p.of) := owedN_nn _ _
             refine wS (I (owedN A.l (findP A.l A.p.of)) :: []) (wU 12 (J 0) h15 (wC (⟨104, [.tup [2, .agg [15, 16, 17, 18, 19, 20, 21, 22, 23, 24, 25]], .tup []], 26⟩) (fun _ => q_cV (h := fun w hw => by exact pROwed_n (LstAt.old H_l hw) (by omega) (by omega) _)) ?_))
             by_cases h17 : (owedN A.l (findP A.l A.p.of)) < A.p.amount
             ·rw [if_pos h17]
              refine wT .gtr 13 26 h17 ?_
              exact wZ (.int .i64 8) [1, 2, .agg [3, 4, 5, 6, 7, 8, 9, 10, 11, 12, 13]]
             ·rw [if_neg h17]
              refine wF .gtr 13 26 h17 ?_
              exact wZ (.int .i64 0) [1, 2, .agg [3, 4, 5, 6, 7, 8, 9, 10, 11, 12, 13]]
            ·rw [if_neg h15]
             refine wV 12 (J 0) h15 ?_
             exact wZ (.int .i64 0) [1, 2, .agg [3, 4, 5, 6, 7, 8, 9, 10, 11, 12, 13]]
           ·rw [if_neg h14]
            refine wV 11 (J 0) h14 ?_
            exact wZ (.int .i64 0) [1, 2, .agg [3, 4, 5, 6, 7, 8, 9, 10, 11, 12, 13]]
          ·rw [if_neg h13]
           refine wT .neq 20 8 h13 ?_
           exact wZ (.int .i64 5) [1, 2, .agg [3, 4, 5, 6, 7, 8, 9, 10, 11, 12, 13]]
         ·rw [if_neg h12]
          refine wC (⟨103, [.tup [.agg [15, 16, 17, 18, 19, 20, 21, 22, 23, 24, 25]], .tup []], (.bool false)⟩) (fun _ => q_cV (h := fun w hw => by have hb := decide_eq_false h12; rw [← hb]; exact pRCharge_n _ _)) ?_
          exact wZ (.int .i64 5) [1, 2, .agg [3, 4, 5, 6, 7, 8, 9, 10, 11, 12, 13]]
        ·rw [if_neg h11]
         refine wS (poV (findP A.l A.p.of) ++ []) (wC (⟨102, [.tup [2, .agg [9, 10]], .tup []], .tup [.agg [15, 16, 17, 18, 19, 20, 21, 22, 23, 24, 25], (.bool false)]⟩) (fun _ => q_cV (h := fun w hw => by have hb := h11; (try simp only [Bool.not_eq_true] at hb); rw [← hb]; exact pRFind_n (LstAt.old H_l hw) (by omega) (by omega) _)) ?_)
         exact wZ (.int .i64 5) [1, 2, .agg [3, 4, 5, 6, 7, 8, 9, 10, 11, 12, 13]]
       ·rw [if_neg h10]
        refine wT .neq 6 (.int .u8 4) h10 ?_
        by_cases h11 : A.p.kind = 5
        ·rw [if_pos h11]
         refine wF .neq 6 (.int .u8 5) (fun h => h h11) ?_
         by_cases h12 : findB A.l A.p.of = true
         ·rw [if_pos h12]
          refine wS (poV (findP A.l A.p.of) ++ []) (wC (⟨102, [.tup [2, .agg [9, 10]], .tup []], .tup [.agg [15, 16, 17, 18, 19, 20, 21, 22, 23, 24, 25], (.bool true)]⟩) (fun _ => q_cV (h := fun w hw => by have hb := h12; (try simp only [Bool.not_eq_true] at hb); rw [← hb]; exact pRFind_n (LstAt.old H_l hw) (by omega) (by omega) _)) ?_)
          by_cases h13 : (findP A.l A.p.of).kind = 1 ∨ (findP A.l A.p.of).kind = 2
          ·rw [if_pos h13]
           refine wC (⟨103, [.tup [.agg [15, 16, 17, 18, 19, 20, 21, 22, 23, 24, 25]], .tup []], (.bool true)⟩) (fun _ => q_cV (h := fun w hw => by have hb := decide_eq_true h13; rw [← hb]; exact pRCharge_n _ _)) ?_
           by_cases h14 : (findP A.l A.p.of).owner = A.p.owner
           ·rw [if_pos h14]
            refine wF .neq 20 8 (fun h => h h14) ?_
            by_cases h15 : A.p.by_.reeve = 0
            ·rw [if_pos h15]
             refine wU 11 (J 0) h15 ?_
             by_cases h16 : A.p.by_.number = 0
             ·rw [if_pos h16]
              have h17 : 0 ≤ owedN A.l (findP A.l A.p.of) := owedN_nn _ _
              refine wS (I (owedN A.l (findP A.l A.p.of)) :: []) (wU 12 (J 0) h16 (wC (⟨104, [.tup [2, .agg [15, 16, 17, 18, 19, 20, 21, 22, 23, 24, 25]], .tup []], 26⟩) (fun _ => q_cV (h := fun w hw => by exact pROwed_n (LstAt.old H_l hw) (by omega) (by omega) _)) ?_))
              by_cases h18 : (owedN A.l (findP A.l A.p.of)) < A.p.amount
              ·rw [if_pos h18]
               refine wT .gtr 13 26 h18 ?_
               exact wZ (.int .i64 8) [1, 2, .agg [3, 4, 5, 6, 7, 8, 9, 10, 11, 12, 13]]
              ·rw [if_neg h18]
               refine wF .gtr 13 26 h18 ?_
               exact wZ (.int .i64 0) [1, 2, .agg [3, 4, 5, 6, 7, 8, 9, 10, 11, 12, 13]]
             ·rw [if_neg h16]
              refine wV 12 (J 0) h16 ?_
              exact wZ (.int .i64 0) [1, 2, .agg [3, 4, 5, 6, 7, 8, 9, 10, 11, 12, 13]]
            ·rw [if_neg h15]
             refine wV 11 (J 0) h15 ?_
             exact wZ (.int .i64 0) [1, 2, .agg [3, 4, 5, 6, 7, 8, 9, 10, 11, 12, 13]]
           ·rw [if_neg h14]
            refine wT .neq 20 8 h14 ?_
            exact wZ (.int .i64 5) [1, 2, .agg [3, 4, 5, 6, 7, 8, 9, 10, 11, 12, 13]]
          ·rw [if_neg h13]
           refine wC (⟨103, [.tup [.agg [15, 16, 17, 18, 19, 20, 21, 22, 23, 24, 25]], .tup []], (.bool false)⟩) (fun _ => q_cV (h := fun w hw => by have hb := decide_eq_false h13; rw [← hb]; exact pRCharge_n _ _)) ?_
           exact wZ (.int .i64 5) [1, 2, .agg [3, 4, 5, 6, 7, 8, 9, 10, 11, 12, 13]]
         ·rw [if_neg h12]
          refine wS (poV (findP A.l A.p.of) ++ []) (wC (⟨102, [.tup [2, .agg [9, 10]], .tup []], .tup [.agg [15, 16, 17, 18, 19, 20, 21, 22, 23, 24, 25], (.bool false)]⟩) (fun _ => q_cV (h := fun w hw => by have hb := h12; (try simp only [Bool.not_eq_true] at hb); rw [← hb]; exact pRFind_n (LstAt.old H_l hw) (by omega) (by omega) _)) ?_)
          exact wZ (.int .i64 5) [1, 2, .agg [3, 4, 5, 6, 7, 8, 9, 10, 11, 12, 13]]
        ·rw [if_neg h11]
         refine wT .neq 6 (.int .u8 5) h11 ?_
         exact wZ (.int .i64 0) [1, 2, .agg [3, 4, 5, 6, 7, 8, 9, 10, 11, 12, 13]]
     ·rw [if_neg h7]
      refine wT .neq 4 (J 1) h7 ?_
      exact wZ (.int .i64 8) [1, 2, .agg [3, 4, 5, 6, 7, 8, 9, 10, 11, 12, 13]]
    ·rw [if_neg h6]
     refine wF .eql 3 (J (-1)) h6 (wT .gtr 3 (J (-1)) (show (-1) < A.p.reeve by omega) ?_)
     by_cases h7 : A.p.number = 1
     ·rw [if_pos h7]
      refine wF .neq 4 (J 1) (fun h => h h7) ?_
      refine wK (K := ∀ (fu_ : Nat) (v30 : Int), (0 ≤ v30 ∧ v30 ≤ (A.l.length : Int)) → (((A.l.length : Int) - v30) : Int) < fu_ → ∃ o, pV_L3 A w fu_ v30 = some o ∧ RdsD Tryz.prog 8 101 9 w pV_L3_H (pV_L3_B A w [.int .i64 v30]) fu_ [(o.1 = 0 ∧ True, pV_L3_X0, pV_L3_B A w [], (.exit 0))]) (fun hq hc hm hp fu_ => ?_) (fun key8 => ?_)
      ·induction fu_ with
       | zero => intro v30 _ hz; exfalso; omega
       | succ fu_ ih =>
        intro v30 h8 hz
        rw [pV_L3]
        refine wB hq hc hm hp ?_
        refine wS (I v30 :: []) (wF .lss 15 14 (show ¬ (v30 < (A.l.length : Int)) by omega) ?_)
        exact wQ (fun hr => ⟨(0, ()), rfl, ⟨⟨rfl, trivial⟩, rndEnd xeE hr⟩⟩) 16 ⟨10, [], 0, [], 15, []⟩ [] trivial
      obtain ⟨⟨q8, _⟩, h8, hk8⟩ := key8 ((((A.l.length : Int) - 0) : Int).toNat + 1) 0 (by first | trivial | omega | (simp; omega)) (by first | omega | (simp; omega))
      rw [h8]
      rcases hk8 with ⟨⟨he8, h9⟩, hr8⟩
      ·have he8 : q8 = 0 := he8
       subst he8
       try dsimp only
       refine wLp (x := (.exit 0)) rfl hr8 pV_L3_R [] (fun _ => rfl) (by kernel_rfl) (fun _ => rfl) (fun _ => ⟨rfl, trivial⟩) (fun _ => rfl) ?_
       by_cases h10 : A.p.kind = 4
       ·rw [if_pos h10]
        refine wF .neq 6 (.int .u8 4) (fun h => h h10) ?_
        by_cases h11 : findB A.l A.p.of = true
        ·rw [if_pos h11]
         refine wS (poV (findP A.l A.p.of) ++ []) (wC (⟨102, [.tup [2, .agg [9, 10]], .tup []], .tup [.agg [15, 16, 17, 18, 19, 20, 21, 22, 23, 24, 25], (.bool true)]⟩) (fun _ => q_cV (h := fun w hw => by have hb := h11; (try simp only [Bool.not_eq_true] at hb); rw [← hb]; exact pRFind_n (LstAt.old H_l hw) (by omega) (by omega) _)) ?_)
         by_cases h12 : (findP A.l A.p.of).kind = 1 ∨ (findP A.l A.p.of).kind = 2
         ·rw [if_pos h12]
          refine wC (⟨103, [.tup [.agg [15, 16, 17, 18, 19, 20, 21, 22, 23, 24, 25]], .tup []], (.bool true)⟩) (fun _ => q_cV (h := fun w hw => by have hb := decide_eq_true h12; rw [← hb]; exact pRCharge_n _ _)) ?_
          by_cases h13 : (findP A.l A.p.of).owner = A.p.owner
          ·rw [if_pos h13]
           refine wF .neq 20 8 (fun h => h h13) ?_
           by_cases h14 : A.p.by_.reeve = 0
           ·rw [if_pos h14]
            refine wU 11 (J 0) h14 ?_
            by_cases h15 : A.p.by_.number = 0
            ·rw [if_pos h15]
             have h16 : 0 ≤ owedN A.l (findP A.l A.p.of) := owedN_nn _ _
             refine wS (I (owedN A.l (findP A.l A.p.of)) :: []) (wU 12 (J 0) h15 (wC (⟨104, [.tup [2, .agg [15, 16, 17, 18, 19, 20, 21, 22, 23, 24, 25]], .tup []], 26⟩) (fun _ => q_cV (h := fun w hw => by exact pROwed_n (LstAt.old H_l hw) (by omega) (by omega) _)) ?_))
             by_cases h17 : (owedN A.l (findP A.l A.p.of)) < A.p.amount
             ·rw [if_pos h17]
              refine wT .gtr 13 26 h17 ?_
              exact wZ (.int .i64 8) [1, 2, .agg [3, 4, 5, 6, 7, 8, 9, 10, 11, 12, 13]]
             ·rw [if_neg h17]
              refine wF .gtr 13 26 h17 ?_
              exact wZ (.int .i64 0) [1, 2, .agg [3, 4, 5, 6, 7, 8, 9, 10, 11, 12, 13]]
            ·rw [if_neg h15]
             refine wV 12 (J 0) h15 ?_
             exact wZ (.int .i64 0) [1, 2, .agg [3, 4, 5, 6, 7, 8, 9, 10, 11, 12, 13]]
           ·rw [if_neg h14]
            refine wV 11 (J 0) h14 ?_
            exact wZ (.int .i64 0) [1, 2, .agg [3, 4, 5, 6, 7, 8, 9, 10, 11, 12, 13]]
          ·rw [if_neg h13]
           refine wT .neq 20 8 h13 ?_
           exact wZ (.int .i64 5) [1, 2, .agg [3, 4, 5, 6, 7, 8, 9, 10, 11, 12, 13]]
         ·rw [if_neg h12]
          refine wC (⟨103, [.tup [.agg [15, 16, 17, 18, 19, 20, 21, 22, 23, 24, 25]], .tup []], (.bool false)⟩) (fun _ => q_cV (h := fun w hw => by have hb := decide_eq_false h12; rw [← hb]; exact pRCharge_n _ _)) ?_
          exact wZ (.int .i64 5) [1, 2, .agg [3, 4, 5, 6, 7, 8, 9, 10, 11, 12, 13]]
        ·rw [if_neg h11]
         refine wS (poV (findP A.l A.p.of) ++ []) (wC (⟨102, [.tup [2, .agg [9, 10]], .tup []], .tup [.agg [15, 16, 17, 18, 19, 20, 21, 22, 23, 24, 25], (.bool false)]⟩) (fun _ => q_cV (h := fun w hw => by have hb := h11; (try simp only [Bool.not_eq_true] at hb); rw [← hb]; exact pRFind_n (LstAt.old H_l hw) (by omega) (by omega) _)) ?_)
         exact wZ (.int .i64 5) [1, 2, .agg [3, 4, 5, 6, 7, 8, 9, 10, 11, 12, 13]]
       ·rw [if_neg h10]
        refine wT .neq 6 (.int .u8 4) h10 ?_
        by_cases h11 : A.p.kind = 5
        ·rw [if_pos h11]
         refine wF .neq 6 (.int .u8 5) (fun h => h h11) ?_
         by_cases h12 : findB A.l A.p.of = true
         ·rw [if_pos h12]
          refine wS (poV (findP A.l A.p.of) ++ []) (wC (⟨102, [.tup [2, .agg [9, 10]], .tup []], .tup [.agg [15, 16, 17, 18, 19, 20, 21, 22, 23, 24, 25], (.bool true)]⟩) (fun _ => q_cV (h := fun w hw => by have hb := h12; (try simp only [Bool.not_eq_true] at hb); rw [← hb]; exact pRFind_n (LstAt.old H_l hw) (by omega) (by omega) _)) ?_)
          by_cases h13 : (findP A.l A.p.of).kind = 1 ∨ (findP A.l A.p.of).kind = 2
          ·rw [if_pos h13]
           refine wC (⟨103, [.tup [.agg [15, 16, 17, 18, 19, 20, 21, 22, 23, 24, 25]], .tup []], (.bool true)⟩) (fun _ => q_cV (h := fun w hw => by have hb := decide_eq_true h13; rw [← hb]; exact pRCharge_n _ _)) ?_
           by_cases h14 : (findP A.l A.p.of).owner = A.p.owner
           ·rw [if_pos h14]
            refine wF .neq 20 8 (fun h => h h14) ?_
            by_cases h15 : A.p.by_.reeve = 0
            ·rw [if_pos h15]
             refine wU 11 (J 0) h15 ?_
             by_cases h16 : A.p.by_.number = 0
             ·rw [if_pos h16]
              have h17 : 0 ≤ owedN A.l (findP A.l A.p.of) := owedN_nn _ _
              refine wS (I (owedN A.l (findP A.l A.p.of)) :: []) (wU 12 (J 0) h16 (wC (⟨104, [.tup [2, .agg [15, 16, 17, 18, 19, 20, 21, 22, 23, 24, 25]], .tup []], 26⟩) (fun _ => q_cV (h := fun w hw => by exact pROwed_n (LstAt.old H_l hw) (by omega) (by omega) _)) ?_))
              by_cases h18 : (owedN A.l (findP A.l A.p.of)) < A.p.amount
              ·rw [if_pos h18]
               refine wT .gtr 13 26 h18 ?_
               exact wZ (.int .i64 8) [1, 2, .agg [3, 4, 5, 6, 7, 8, 9, 10, 11, 12, 13]]
              ·rw [if_neg h18]
               refine wF .gtr 13 26 h18 ?_
               exact wZ (.int .i64 0) [1, 2, .agg [3, 4, 5, 6, 7, 8, 9, 10, 11, 12, 13]]
             ·rw [if_neg h16]
              refine wV 12 (J 0) h16 ?_
              exact wZ (.int .i64 0) [1, 2, .agg [3, 4, 5, 6, 7, 8, 9, 10, 11, 12, 13]]
            ·rw [if_neg h15]
             refine wV 11 (J 0) h15 ?_
             exact wZ (.int .i64 0) [1, 2, .agg [3, 4, 5, 6, 7, 8, 9, 10, 11, 12, 13]]
           ·rw [if_neg h14]
            refine wT .neq 20 8 h14 ?_
            exact wZ (.int .i64 5) [1, 2, .agg [3, 4, 5, 6, 7, 8, 9, 10, 11, 12, 13]]
          ·rw [if_neg h13]
           refine wC (⟨103, [.tup [.agg [15, 16, 17, 18, 19, 20, 21, 22, 23, 24, 25]], .tup []], (.bool false)⟩) (fun _ => q_cV (h := fun w hw => by have hb := decide_eq_false h13; rw [← hb]; exact pRCharge_n _ _)) ?_
           exact wZ (.int .i64 5) [1, 2, .agg [3, 4, 5, 6, 7, 8, 9, 10, 11, 12, 13]]
         ·rw [if_neg h12]
          refine wS (poV (findP A.l A.p.of) ++ []) (wC (⟨102, [.tup [2, .agg [9, 10]], .tup []], .tup [.agg [15, 16, 17, 18, 19, 20, 21, 22, 23, 24, 25], (.bool false)]⟩) (fun _ => q_cV (h := fun w hw => by have hb := h12; (try simp only [Bool.not_eq_true] at hb); rw [← hb]; exact pRFind_n (LstAt.old H_l hw) (by omega) (by omega) _)) ?_)
          exact wZ (.int .i64 5) [1, 2, .agg [3, 4, 5, 6, 7, 8, 9, 10, 11, 12, 13]]
        ·rw [if_neg h11]
         refine wT .neq 6 (.int .u8 5) h11 ?_
         exact wZ (.int .i64 0) [1, 2, .agg [3, 4, 5, 6, 7, 8, 9, 10, 11, 12, 13]]
     ·rw [if_neg h7]
      refine wT .neq 4 (J 1) h7 ?_
      exact wZ (.int .i64 8) [1, 2, .agg [3, 4, 5, 6, 7, 8, 9, 10, 11, 12, 13]]
 ·rw [if_neg h3]
  refine wC (⟨82, [.tup [1, .agg [3, 4, 5, 6, 7, 8, 9, 10, 11, 12, 13]], .tup []], (.bool false)⟩) (fun _ => q_cV (h := fun w hw => by have hb := decide_eq_false h3; rw [← hb]; exact rFormed_n _ _ _ (show A.n = 3 ∨ A.n = 5 by omega))) ?_
  exact wZ (.int .i64 1) [1, 2, .agg [3, 4, 5, 6, 7, 8, 9, 10, 11, 12, 13]]
theorem pV_L0_n (A : pV_A) (w : World) : ∀ (n : Nat) (i : Int), (0 ≤ i ∧ i ≤ (A.l.length : Int)) → (A.l.length : Int) - i < n → pV_L0 A w n i = if (A.l.drop i.toNat).any (twiceR A.p) = true then some (0, ()) else some (1, ()) := by
 intro n
 induction n with
 | zero => intros; omega
 | succ n ih =>
  intro i h0 hm
  rw [pV_L0]
  by_cases hi : i < (A.l.length : Int)
  ·rw [if_pos hi, drop_at ⟨h0.1, hi⟩, List.any_cons, ih (i + 1) (by omega) (by omega)]
   by_cases hp : twiceR A.p (at_ A.l i) = true
   ·rw [hp, Bool.true_or, if_pos rfl]
    simp only [twiceR, isCh, decide_eq_true_eq] at hp
    repeat' split
    all_goals first | rfl | (exfalso; omega) | (exfalso; simp_all; done)
   ·simp only [Bool.not_eq_true] at hp
    rw [hp, Bool.false_or]
    simp only [twiceR, isCh, decide_eq_false_iff_not] at hp
    by_cases ha : (A.l.drop (i + 1).toNat).any (twiceR A.p) = true
    ·simp only [if_pos ha]
     repeat' split
     all_goals first | rfl | (exfalso; omega) | (exfalso; simp_all; done)
    ·simp only [if_neg ha]
     repeat' split
     all_goals first | rfl | (exfalso; omega) | (exfalso; simp_all; done)
  ·rw [if_neg hi, drop_end hi]; rfl
theorem pV_L1_n (A : pV_A) (w : World) : ∀ (n : Nat) (i : Int), (0 ≤ i ∧ i ≤ (A.l.length : Int)) → (A.l.length : Int) - i < n → pV_L1 A w n i = if (A.l.drop i.toNat).any (twiceR A.p) = true then some (0, ()) else some (1, ()) := by
 intro n
 induction n with
 | zero => intros; omega
 | succ n ih =>
  intro i h0 hm
  rw [pV_L1]
  by_cases hi : i < (A.l.length : Int)
  ·rw [if_pos hi, drop_at ⟨h0.1, hi⟩, List.any_cons, ih (i + 1) (by omega) (by omega)]
   by_cases hp : twiceR A.p (at_ A.l i) = true
   ·rw [hp, Bool.true_or, if_pos rfl]
    simp only [twiceR, isCh, decide_eq_true_eq] at hp
    repeat' split
    all_goals first | rfl | (exfalso; omega) | (exfalso; simp_all; done)
   ·simp only [Bool.not_eq_true] at hp
    rw [hp, Bool.false_or]
    simp only [twiceR, isCh, decide_eq_false_iff_not] at hp
    by_cases ha : (A.l.drop (i + 1).toNat).any (twiceR A.p) = true
    ·simp only [if_pos ha]
     repeat' split
     all_goals first | rfl | (exfalso; omega) | (exfalso; simp_all; done)
    ·simp only [if_neg ha]
     repeat' split
     all_goals first | rfl | (exfalso; omega) | (exfalso; simp_all; done)
  ·rw [if_neg hi, drop_end hi]; rfl
theorem pV_r_n (A : pV_A) (w : World) : pV_r A w = rfollowsN A.n A.l A.p := by
 have e0 := pV_L0_n A w ((((A.l.length : Int) - 0) : Int).toNat + 1) 0 (by omega) (by omega)
 have e1 := pV_L1_n A w ((((A.l.length : Int) - 0) : Int).toNat + 1) 0 (by omega) (by omega)
 have e2 : ∀ k, pV_L2 A w (k + 1) 0 = some (0, ()) := fun k => rfl
 have e3 : ∀ k, pV_L3 A w (k + 1) 0 = some (0, ()) := fun k => rfl
 have hd : A.l.drop (0 : Int).toNat = A.l := rfl
 have hw : IntKind.wrap .i64 (0 + 1) = 1 := by decide
 rw [hd] at e0 e1
 unfold pV_r rfollowsN lastRf
 rw [e0, e1, e2, e3]
 by_cases hc : checkN A.n A.p = 0
 case neg => rw [if_neg hc, if_neg hc]
 rw [if_pos hc, if_pos hc]
 generalize hF : findP A.l A.p.of = F
 generalize hB : findB A.l A.p.of = B
 have tail : (if A.p.kind = 4 then (if B = true then (if F.kind = 1 ∨ F.kind = 2 then (if F.owner = A.p.owner then (if A.p.by_.reeve = 0 then (if A.p.by_.number = 0 then (if owedN A.l F < A.p.amount then (8 : Int) else 0) else 0) else 0) else 5) else 5) else 5) else (if A.p.kind = 5 then (if B = true then (if F.kind = 1 ∨ F.kind = 2 then (if F.owner = A.p.owner then (if A.p.by_.reeve = 0 then (if A.p.by_.number = 0 then (if owedN A.l F < A.p.amount then (8 : Int) else 0) else 0) else 0) else 5) else 5) else 5) else 0)) = (if A.p.kind ≠ 4 ∧ A.p.kind ≠ 5 then 0 else if B = false ∨ ¬ isCh F ∨ F.owner ≠ A.p.owner then 5 else if (A.p.by_.reeve = 0 ∧ A.p.by_.number = 0) ∧ owedN A.l F < A.p.amount then 8 else 0) := by
  unfold isCh
  by_cases k4 : A.p.kind = 4 <;> by_cases k5 : A.p.kind = 5 <;> cases B <;> by_cases kF : F.kind = 1 ∨ F.kind = 2 <;> by_cases ko : F.owner = A.p.owner <;> by_cases kr : A.p.by_.reeve = 0 <;> by_cases kn : A.p.by_.number = 0 <;> simp [k4, k5, kF, ko, kr, kn]
 generalize (if A.p.kind ≠ 4 ∧ A.p.kind ≠ 5 then (0 : Int) else if B = false ∨ ¬ isCh F ∨ F.owner ≠ A.p.owner then 5 else if (A.p.by_.reeve = 0 ∧ A.p.by_.number = 0) ∧ owedN A.l F < A.p.amount then 8 else 0) = T at tail ⊢
 by_cases hl : 0 < (A.l.length : Int)
 ·simp only [if_pos hl]
  by_cases ha : A.l.any (twiceR A.p) = true
  ·simp only [ha, if_true]
   repeat' split
   all_goals first | rfl | (exfalso; omega)
  ·simp only [ha, if_false, Bool.false_eq_true, tail]
   by_cases q1 : A.p.reeve < (at_ A.l ((A.l.length : Int) - 1)).reeve
   ·rw [if_pos q1, if_pos (Or.inl q1)]
   ·rw [if_neg q1]
    by_cases q2 : A.p.reeve = (at_ A.l ((A.l.length : Int) - 1)).reeve
    ·rw [if_pos q2]
     by_cases q3 : A.p.number = IntKind.wrap .i64 ((at_ A.l ((A.l.length : Int) - 1)).number + 1)
     ·rw [if_pos q3, if_neg (by rintro (h | h | h) <;> first | exact q1 h | exact h.2 q3 | exact h.2 q4 | exact q2 h.1 | omega)]
     ·rw [if_neg q3, if_pos (Or.inr (Or.inl ⟨q2, q3⟩))]
    ·rw [if_neg q2]
     by_cases q4 : A.p.number = 1
     ·rw [if_pos q4, if_neg (by rintro (h | h | h) <;> first | exact q1 h | exact h.2 q3 | exact h.2 q4 | exact q2 h.1 | omega)]
     ·rw [if_neg q4, if_pos (Or.inr (Or.inr ⟨by omega, q4⟩))]
 ·have hn : A.l = [] := by cases hA : A.l with | nil => rfl | cons x r => rw [hA] at hl; simp only [List.length_cons] at hl; omega
  have ha : A.l.any (twiceR A.p) = false := by rw [hn]; rfl
  simp only [if_neg hl, ha, if_false, Bool.false_eq_true, tail, hw]
  by_cases q1 : A.p.reeve < -1
  ·rw [if_pos q1, if_pos (Or.inl q1)]
  ·rw [if_neg q1]
   by_cases q2 : A.p.reeve = -1
   ·rw [if_pos q2]
    by_cases q4 : A.p.number = 1
    ·rw [if_pos q4, if_neg (by rintro (h | h | h) <;> first | exact q1 h | exact h.2 q3 | exact h.2 q4 | exact q2 h.1 | omega)]
    ·rw [if_neg q4, if_pos (Or.inr (Or.inl ⟨q2, q4⟩))]
   ·rw [if_neg q2]
    by_cases q4 : A.p.number = 1
    ·rw [if_pos q4, if_neg (by rintro (h | h | h) <;> first | exact q1 h | exact h.2 q3 | exact h.2 q4 | exact q2 h.1 | omega)]
    ·rw [if_neg q4, if_pos (Or.inr (Or.inr ⟨by omega, q4⟩))]
theorem pRFollows_n {n : Int} {a_l : Option Addr} {b_l o_l κ_l : Nat} {l : List Po} {w : World} (H : LstAt poC w a_l b_l o_l l) (h0 : l.length ≤ κ_l) (h1 : (l.length : Int) ≤ 1000) (h2 : n = 3 ∨ n = 5) (p : Po) : Calls Tryz.prog 101 #[.int .i64 n, .slice a_l l.length κ_l, p.val] w fun e w' => e = .returned (.int .i64 (rfollowsN n l p)) ∧ Chg (fun _ => False) w w' := by
 have := pV_any ⟨n, a_l, b_l, o_l, κ_l, l, p⟩ w H (by show (l.length : Int) ≤ (κ_l : Int); omega) h1 h2
 rw [pV_r_n] at this
 exact this
structure pM_A where
 n : Int
 a_l : Option Addr
 b_l : Nat
 o_l : Nat
 κ_l : Nat
 l : List Po
def pM_L0_H : Head := (⟨[(0, 1), (1, 2), (4, .int .i64 0), (5, .int .i64 0), (6, 3), (8, 1), (9, .bool true), (10, .bool false)], [], 8, 8, 0, 0, 3, 4⟩ : Head)
def pM_L0_R : Rn := ⟨8, [], 0, [], 3, [.int .i64 0]⟩
def pM_L0_B  (A : pM_A) (w : World) (R : List Value) : List Value := .agg #[] :: .int .i64 A.n :: .slice A.a_l A.l.length A.κ_l :: R
def pM_L0_X0 : Head := (⟨[(0, 1), (4, 3), (5, 4), (8, 1), (9, .bool true), (10, .bool false)], [], 8, 8, 0, 0, 3, 5⟩ : Head)
def pM_L0_X1 : Head := (⟨[(0, 1), (4, .int .i64 0), (5, .int .i64 0), (8, 1), (9, .bool true), (10, .bool false)], [], 8, 8, 0, 0, 3, 3⟩ : Head)
def pM_L0  (A : pM_A) (w : World) : Nat → Int → Option (Nat × Int × Int × Unit)
 | 0, _ => none
 | fu_ + 1, v00 => (if v00 < (A.l.length : Int) then (if (rfollowsN A.n ((A.l).take (v00 : Int).toNat) (at_ A.l v00)) = 0 then pM_L0 A w fu_ (v00 + 1) else some (0, v00, ((rfollowsN A.n ((A.l).take (v00 : Int).toNat) (at_ A.l v00))), ())) else some (1, default, default, ()))
def pM_r  (A : pM_A) (w : World) : Int × Int := (if A.n = 3 ∨ A.n = 5 then (match pM_L0 A w ((((A.l.length : Int) - 0) : Int).toNat + 1) 0 with | some (0, x0_00, x0_01, _) => (x0_00, x0_01) | some (1, x0_00, x0_01, _) => (0, 0) | _ => default) else (0, 1))
theorem pM_any  (A : pM_A) (w : World) (H_l : LstAt poC w A.a_l A.b_l A.o_l A.l) (h0 : (A.l.length : Int) ≤ (A.κ_l : Int)) (h1 : (A.l.length : Int) ≤ 1000) (h2 : -9223372036854775808 ≤ A.n ∧ A.n ≤ 9223372036854775807) : Calls Tryz.prog 32 #[.int .i64 A.n, .slice A.a_l A.l.length A.κ_l] w fun e w' => e = .returned (.tuple #[.int .i64 ((pM_r A w).1), .int .i64 ((pM_r A w).2)]) ∧ Chg (fun _ => False) w w' := by
 unfold pM_r
 refine wGo (E := E0) (n := 8) (w := w) (L := id) ?_
 refine wS (.agg #[] :: I A.n :: .slice A.a_l A.l.length A.κ_l :: []) ?_
 split <;> rename_i h3
 ·refine wC (⟨78, [.tup [1], .tup []], (.bool true)⟩) (fun _ => q_cV (h := fun w hw => by have hb := decide_eq_true h3; rw [← hb]; exact rMany_n _ _)) ?_
  refine wK (K := ∀ (fu_ : Nat) (v00 : Int), (0 ≤ v00 ∧ v00 ≤ (A.l.length : Int)) → (((A.l.length : Int) - v00) : Int) < fu_ → ∃ o, pM_L0 A w fu_ v00 = some o ∧ RdsD Tryz.prog 8 32 4 w pM_L0_H (pM_L0_B A w [.int .i64 v00]) fu_ [(o.1 = 0 ∧ (0 ≤ o.2.1 ∧ o.2.1 < (A.l.length : Int) ∧ o.2.1 ≤ (A.l.length : Int)), pM_L0_X0, pM_L0_B A w [.int .i64 o.2.1, .int .i64 o.2.2.1], .ret), (o.1 = 1 ∧ True, pM_L0_X1, pM_L0_B A w [], (.exit 0))]) (fun hq hc hm hp fu_ => ?_) (fun key4 => ?_)
  ·induction fu_ with
   | zero => intro v00 _ hz; exfalso; omega
   | succ fu_ ih =>
    intro v00 h4 hz
    rw [pM_L0]
    refine wB hq hc hm hp ?_
    refine wS (I v00 :: I (A.l.length : Int) :: []) (wN 38 2 4 ?_)
    split <;> rename_i h5
    ·refine wS (.slice A.a_l ((A.l).take (v00 : Int).toNat).length A.κ_l :: .pointer (some ⟨A.b_l, A.o_l + (v00 : Int).toNat * 11, none⟩) :: poV (at_ A.l v00) ++ I ((rfollowsN A.n ((A.l).take (v00 : Int).toNat) (at_ A.l v00))) :: []) (wT .lss 3 4 h5 (wE (⟨4200000000 + 38, [2, 3], 5⟩) (fun _ => q_slO1 (sz := 11) (.hi _) rfl rfl ⟨_, rfl⟩ rfl (by omega) (by omega) (by omega) (by rw [List.length_take]; have := (rfl : (A.l.length : Int) = _); omega) rfl (by kernel_rfl)) (wX 38 2 3 6 H_l 11 v00 (wR 25 6 [7, 8, 9, 10, 11, 12, 13, 14, 15, 16, 17] H_l v00 (wC (⟨101, [.tup [1, 5, .agg [7, 8, 9, 10, 11, 12, 13, 14, 15, 16, 17]], .tup []], 18⟩) (fun _ => q_cV (h := fun w hw => by exact pRFollows_n (LstAt.old (LstAt.sub H_l _) hw) (by first | omega | (simp only [List.length_take]; omega)) (show (((A.l).take (v00 : Int).toNat).length : Int) ≤ 1000 by simp only [List.length_nil, List.length_append, List.length_cons, List.length_take, List.length_set]; omega) h3 _)) ?_)))))
     split <;> rename_i h6
     ·refine wS (I (v00 + 1) :: []) (wF .neq 18 (J 0) (fun h => h h6) (wA 3 (J 1) 19 ?_))
      exact wQ (rnG (ih (v00 + 1) (by omega) (by omega))) 4 ⟨8, [], 0, [], 3, [19]⟩ [] ⟨rfl, trivial⟩
     ·refine wT .neq 18 (J 0) h6 ?_
      exact wQ (fun hr => ⟨(0, v00, ((rfollowsN A.n ((A.l).take (v00 : Int).toNat) (at_ A.l v00))), ()), rfl, Or.inl ⟨⟨rfl, (by first | trivial | omega | (simp only [List.length_append, List.length_cons, List.length_nil, List.length_set]; omega))⟩, rndEnd xeR hr⟩⟩) 4 ⟨8, [], 0, [], 3, [3, 18]⟩ [] ⟨rfl, rfl, trivial⟩
    ·refine wF .lss 3 4 h5 ?_
     exact wQ (fun hr => ⟨(1, default, default, ()), rfl, Or.inr (⟨⟨rfl, trivial⟩, rndEnd xeE hr⟩)⟩) 4 ⟨8, [], 0, [], 3, []⟩ [] trivial
  obtain ⟨⟨q4, x0_00, x0_01, _⟩, h4, hk4⟩ := key4 ((((A.l.length : Int) - 0) : Int).toNat + 1) 0 (by first | trivial | omega | (simp only [List.length_append, List.length_cons, List.length_nil, List.length_set]; omega)) (by first | omega | (simp only [List.length_append, List.length_cons, List.length_nil, List.length_set]; omega))
  rw [h4]
  rcases hk4 with ⟨⟨he4, h5⟩, hr4⟩ | ⟨⟨he4, h5⟩, hr4⟩
  ·have he4 : q4 = 0 := he4
   subst he4
   try simp only []
   have h5 : 0 ≤ x0_00 ∧ x0_00 < (A.l.length : Int) ∧ x0_00 ≤ (A.l.length : Int) := h5
   refine wS (I x0_00 :: I x0_01 :: []) ?_
   refine wLp (x := .ret) rfl hr4 pM_L0_R [] (fun _ => rfl) (by kernel_rfl) (fun _ => rfl) (fun _ => ⟨rfl, trivial⟩) (fun _ => rfl) ?_
   exact wZ (.tup [3, 4]) [1, 2]
  ·have he4 : q4 = 1 := he4
   subst he4
   try simp only []
   refine wLp (x := (.exit 0)) rfl hr4 pM_L0_R [] (fun _ => rfl) (by kernel_rfl) (fun _ => rfl) (fun _ => ⟨rfl, trivial⟩) (fun _ => rfl) ?_
   exact wZ (.tup [.int .i64 0, .int .i64 0]) [1, 2]
 ·refine wC (⟨78, [.tup [1], .tup []], (.bool false)⟩) (fun _ => q_cV (h := fun w hw => by have hb := decide_eq_false h3; rw [← hb]; exact rMany_n _ _)) ?_
  exact wZ (.tup [.int .i64 0, .int .i64 1]) [1, 2]
theorem pM_L0_n (A : pM_A) (w : World) : ∀ (fu : Nat) (i : Int), (0 ≤ i ∧ i ≤ (A.l.length : Int)) → (A.l.length : Int) - i < fu →
  (pM_L0 A w fu i = some (0, (rrollF A.n A.l ((A.l.length : Int) - i).toNat i).1, (rrollF A.n A.l ((A.l.length : Int) - i).toNat i).2, ()) ∨ (pM_L0 A w fu i = some (1, default, default, ()) ∧ rrollF A.n A.l ((A.l.length : Int) - i).toNat i = (0, 0))) := by
 intro fu
 induction fu with
 | zero => intros; omega
 | succ fu ih =>
  intro i h0 hm
  rw [pM_L0]
  by_cases hi : i < (A.l.length : Int)
  ·have hk : ((A.l.length : Int) - i).toNat = ((A.l.length : Int) - (i + 1)).toNat + 1 := by omega
   rw [if_pos hi, hk, rrollF]
   by_cases h : rfollowsN A.n (A.l.take i.toNat) (at_ A.l i) = 0
   ·rw [if_pos h, if_pos h]
    exact ih (i + 1) (by omega) (by omega)
   ·rw [if_neg h, if_neg h]
    exact .inl rfl
  ·have : i = (A.l.length : Int) := by omega
   subst this
   have hk : ((A.l.length : Int) - (A.l.length : Int)).toNat = 0 := by omega
   rw [if_neg hi, hk]
   exact .inr ⟨rfl, rfl⟩
theorem pM_r_n (A : pM_A) (w : World) : pM_r A w = rrollN A.n A.l := by
 have hk : ((A.l.length : Int) - 0).toNat = A.l.length := by omega
 unfold pM_r rrollN
 by_cases h : A.n = 3 ∨ A.n = 5
 case neg => rw [if_neg h, if_neg h]
 rw [if_pos h, if_pos h]
 have e := pM_L0_n A w ((((A.l.length : Int) - 0) : Int).toNat + 1) 0 (by omega) (by omega)
 rw [hk] at e
 rw [hk]
 rcases e with e | ⟨e, e2⟩
 ·rw [e]; rfl
 ·rw [e, e2]; rfl
theorem pRRoll_n {n : Int} {a_l : Option Addr} {b_l o_l κ_l : Nat} {l : List Po} {w : World} (H : LstAt poC w a_l b_l o_l l) (h0 : l.length ≤ κ_l) (h1 : (l.length : Int) ≤ 1000) (h2 : -9223372036854775808 ≤ n ∧ n ≤ 9223372036854775807) : Calls Tryz.prog 32 #[.int .i64 n, .slice a_l l.length κ_l] w fun e w' => e = .returned (.tuple #[.int .i64 (rrollN n l).1, .int .i64 (rrollN n l).2]) ∧ Chg (fun _ => False) w w' := by
 have := pM_any ⟨n, a_l, b_l, o_l, κ_l, l⟩ w H (by show (l.length : Int) ≤ (κ_l : Int); omega) h1 h2
 rw [pM_r_n] at this
 exact this
structure pA_A where
 n : Int
 a_l : Option Addr
 b_l : Nat
 o_l : Nat
 κ_l : Nat
 l : List Po
 x : Rf
def pA_r  (A : pA_A) (w : World) : Int × Int := (if (rrollN A.n A.l).2 = 0 then (if findB A.l (⟨(A.x.reeve), A.x.number⟩) = true then (if ((findP A.l (⟨(A.x.reeve), A.x.number⟩))).kind = 1 ∨ ((findP A.l (⟨(A.x.reeve), A.x.number⟩))).kind = 2 then ((owedN A.l ((findP A.l (⟨(A.x.reeve), A.x.number⟩)))), 0) else (0, 5)) else (0, 5)) else (0, (rrollN A.n A.l).2))
theorem pA_any  (A : pA_A) (w : World) (H_l : LstAt poC w A.a_l A.b_l A.o_l A.l) (h0 : (A.l.length : Int) ≤ (A.κ_l : Int)) (h1 : (A.l.length : Int) ≤ 1000) (h2 : -9223372036854775808 ≤ A.n ∧ A.n ≤ 9223372036854775807) : Calls Tryz.prog 33 #[.int .i64 A.n, .slice A.a_l A.l.length A.κ_l, A.x.val] w fun e w' => e = .returned (.tuple #[.int .i64 ((pA_r A w).1), .int .i64 ((pA_r A w).2)]) ∧ Chg (fun _ => False) w w' := by
 unfold pA_r
 refine wGo (E := E0) (n := 8) (w := w) (L := id) ?_
 refine wS (.agg #[] :: I A.n :: .slice A.a_l A.l.length A.κ_l :: I A.x.reeve :: I A.x.number :: I ((rrollN A.n A.l).1) :: I ((rrollN A.n A.l).2) :: []) (wC (⟨32, [.tup [1, 2], .tup []], .tup [5, 6]⟩) (fun _ => q_cV (h := fun w hw => by exact pRRoll_n (LstAt.old H_l hw) (by omega) (by omega) (show -9223372036854775808 ≤ A.n ∧ A.n ≤ 9223372036854775807 by omega))) ?_)
 split <;> rename_i h3
 ·refine wF .neq 6 (J 0) (fun h => h h3) ?_
  split <;> rename_i h4
  ·refine wS (poV ((findP A.l (⟨(A.x.reeve), A.x.number⟩))) ++ []) (wC (⟨102, [.tup [2, .agg [3, 4]], .tup []], .tup [.agg [7, 8, 9, 10, 11, 12, 13, 14, 15, 16, 17], (.bool true)]⟩) (fun _ => q_cV (h := fun w hw => by have hb := h4; (try simp only [Bool.not_eq_true] at hb); rw [← hb]; exact pRFind_n (LstAt.old H_l hw) (by omega) (by omega) _)) ?_)
   split <;> rename_i h5
   ·have h6 : 0 ≤ owedN A.l ((findP A.l (⟨(A.x.reeve), A.x.number⟩))) := owedN_nn _ _
    refine wS (I ((owedN A.l ((findP A.l (⟨(A.x.reeve), A.x.number⟩))))) :: []) (wC (⟨103, [.tup [.agg [7, 8, 9, 10, 11, 12, 13, 14, 15, 16, 17]], .tup []], (.bool true)⟩) (fun _ => q_cV (h := fun w hw => by have hb := decide_eq_true h5; rw [← hb]; exact pRCharge_n _ _)) (wC (⟨104, [.tup [2, .agg [7, 8, 9, 10, 11, 12, 13, 14, 15, 16, 17]], .tup []], 18⟩) (fun _ => q_cV (h := fun w hw => by exact pROwed_n (LstAt.old H_l hw) (by omega) (by omega) _)) ?_))
    exact wZ (.tup [18, .int .i64 0]) [1, 2, .agg [3, 4]]
   ·refine wC (⟨103, [.tup [.agg [7, 8, 9, 10, 11, 12, 13, 14, 15, 16, 17]], .tup []], (.bool false)⟩) (fun _ => q_cV (h := fun w hw => by have hb := decide_eq_false h5; rw [← hb]; exact pRCharge_n _ _)) ?_
    exact wZ (.tup [.int .i64 0, .int .i64 5]) [1, 2, .agg [3, 4]]
  ·refine wS (poV ((findP A.l (⟨(A.x.reeve), A.x.number⟩))) ++ []) (wC (⟨102, [.tup [2, .agg [3, 4]], .tup []], .tup [.agg [7, 8, 9, 10, 11, 12, 13, 14, 15, 16, 17], (.bool false)]⟩) (fun _ => q_cV (h := fun w hw => by have hb := h4; (try simp only [Bool.not_eq_true] at hb); rw [← hb]; exact pRFind_n (LstAt.old H_l hw) (by omega) (by omega) _)) ?_)
   exact wZ (.tup [.int .i64 0, .int .i64 5]) [1, 2, .agg [3, 4]]
 ·refine wT .neq 6 (J 0) h3 ?_
  exact wZ (.tup [.int .i64 0, 6]) [1, 2, .agg [3, 4]]
theorem pA_r_n (A : pA_A) (w : World) {n : Int} {l : List Po} {x : Rf} (hn : A.n = n) (hl : A.l = l) (hx : A.x = x) : pA_r A w = rowedTN n l x := by
 unfold pA_r rowedTN isCh
 rw [hn, hl, hx]
 by_cases h : (rrollN n l).2 = 0
 case neg => rw [if_neg h, if_neg h]
 rw [if_pos h, if_pos h]
 by_cases hb : findB l x = true <;> by_cases hc : (findP l x).kind = 1 ∨ (findP l x).kind = 2 <;> simp [hb, hc]
theorem pROwedT_n {n : Int} {a_l : Option Addr} {b_l o_l κ_l : Nat} {l : List Po} {w : World} (H : LstAt poC w a_l b_l o_l l) (h0 : l.length ≤ κ_l) (h1 : (l.length : Int) ≤ 1000) (h2 : -9223372036854775808 ≤ n ∧ n ≤ 9223372036854775807) (x : Rf) : Calls Tryz.prog 33 #[.int .i64 n, .slice a_l l.length κ_l, x.val] w fun e w' => e = .returned (.tuple #[.int .i64 (rowedTN n l x).1, .int .i64 (rowedTN n l x).2]) ∧ Chg (fun _ => False) w w' := by
 have := pA_any ⟨n, a_l, b_l, o_l, κ_l, l, x⟩ w H (by show (l.length : Int) ≤ (κ_l : Int); omega) h1 h2
 rw [pA_r_n _ w rfl rfl rfl] at this
 exact this
structure pD_A where
 p : Po
def pD_r  (A : pD_A) (w : World) : Int × Int × Int := (if A.p.kind = 1 then (A.p.owner, 0, A.p.amount) else (if A.p.kind = 2 then (A.p.owner, 0, A.p.amount) else (if A.p.kind = 3 then ((IntKind.wrap .i64 (100 + A.p.reeve)), 200, A.p.amount) else (if A.p.kind = 4 then (if A.p.by_.reeve = 0 then (if A.p.by_.number = 0 then ((IntKind.wrap .i64 (100 + A.p.reeve)), A.p.owner, A.p.amount) else (200, A.p.owner, A.p.amount)) else (200, A.p.owner, A.p.amount)) else (if A.p.kind = 5 then (0, A.p.owner, A.p.amount) else (0, 0, 0))))))
theorem pD_any  (A : pD_A) (w : World) (h0 : 0 ≤ A.p.kind ∧ A.p.kind ≤ 255) : Calls Tryz.prog 22 #[A.p.val] w fun e w' => e = .returned (.agg #[.int .i64 ((pD_r A w).1), .int .i64 ((pD_r A w).2.1), .int .i64 ((pD_r A w).2.2)]) ∧ Chg (fun _ => False) w w' := by
 unfold pD_r
 refine wGo (E := E0) (n := 8) (w := w) (L := id) ?_
 refine wS (.agg #[] :: poV A.p ++ []) ?_
 split <;> rename_i h1
 ·refine wT .eql 4 (.int .u8 1) h1 ?_
  exact wZ (.agg [6, .int .i64 0, 11]) [.agg [1, 2, 3, 4, 5, 6, 7, 8, 9, 10, 11]]
 ·refine wF .eql 4 (.int .u8 1) h1 ?_
  split <;> rename_i h2
  ·refine wT .eql 4 (.int .u8 2) h2 ?_
   exact wZ (.agg [6, .int .i64 0, 11]) [.agg [1, 2, 3, 4, 5, 6, 7, 8, 9, 10, 11]]
  ·refine wF .eql 4 (.int .u8 2) h2 ?_
   split <;> rename_i h3
   ·refine wS (I (IntKind.wrap .i64 (100 + A.p.reeve)) :: []) (wT .eql 4 (.int .u8 3) h3 (wE (⟨tagB .add, [J 100, 1], 12⟩) (fun _ => q_add rfl rfl rfl) ?_))
    exact wZ (.agg [12, .int .i64 200, 11]) [.agg [1, 2, 3, 4, 5, 6, 7, 8, 9, 10, 11]]
   ·refine wF .eql 4 (.int .u8 3) h3 ?_
    split <;> rename_i h4
    ·refine wT .eql 4 (.int .u8 4) h4 ?_
     split <;> rename_i h5
     ·refine wU 9 (J 0) h5 ?_
      split <;> rename_i h6
      ·refine wS (I (IntKind.wrap .i64 (100 + A.p.reeve)) :: []) (wU 10 (J 0) h6 (wE (⟨tagB .add, [J 100, 1], 12⟩) (fun _ => q_add rfl rfl rfl) ?_))
       exact wZ (.agg [12, 6, 11]) [.agg [1, 2, 3, 4, 5, 6, 7, 8, 9, 10, 11]]
      ·refine wV 10 (J 0) h6 ?_
       exact wZ (.agg [.int .i64 200, 6, 11]) [.agg [1, 2, 3, 4, 5, 6, 7, 8, 9, 10, 11]]
     ·refine wV 9 (J 0) h5 ?_
      exact wZ (.agg [.int .i64 200, 6, 11]) [.agg [1, 2, 3, 4, 5, 6, 7, 8, 9, 10, 11]]
    ·refine wF .eql 4 (.int .u8 4) h4 ?_
     split <;> rename_i h5
     ·refine wT .eql 4 (.int .u8 5) h5 ?_
      exact wZ (.agg [.int .i64 0, 6, 11]) [.agg [1, 2, 3, 4, 5, 6, 7, 8, 9, 10, 11]]
     ·refine wF .eql 4 (.int .u8 5) h5 ?_
      exact wZ (.agg [.int .i64 0, .int .i64 0, .int .i64 0]) [.agg [1, 2, 3, 4, 5, 6, 7, 8, 9, 10, 11]]
theorem pRTransfer_n (p : Po) (w : World) (h : 0 ≤ p.kind ∧ p.kind ≤ 255) : Calls Tryz.prog 22 #[p.val] w fun e w' => e = .returned (.agg #[.int .i64 (debitN p), .int .i64 (creditN p), .int .i64 (amountN p)]) ∧ Chg (fun _ => False) w w' := by
 have := pD_any ⟨p⟩ w h
 have e : pD_r ⟨p⟩ w = (debitN p, creditN p, amountN p) := by
  unfold pD_r debitN creditN amountN
  repeat' split
  all_goals first | rfl | (exfalso; omega) | (simp_all; done) | (simp_all; omega)
 rw [e] at this
 exact this
structure pZ_A where
 n : Int
 a_l : Option Addr
 b_l : Nat
 o_l : Nat
 κ_l : Nat
 l : List Po
 acc : Int
def pZ_L0_H : Head := (⟨[(0, 1), (1, 2), (2, 3), (6, .int .i64 0), (7, .int .i64 0), (8, 4), (9, 5), (10, 6), (11, 7), (13, .tup [4, 5]), (14, 1), (15, 2), (16, .tup [4, 5]), (17, 4), (18, 5), (19, 5), (20, .bool false)], [], 8, 8, 0, 0, 6, 8⟩ : Head)
def pZ_L0_R : Rn := ⟨8, [], 0, [], 6, [.int .i64 0, .int .i64 0]⟩
def pZ_L0_B  (A : pZ_A) (w : World) (R : List Value) : List Value := .agg #[] :: .int .i64 A.n :: .slice A.a_l A.l.length A.κ_l :: .int .i64 A.acc :: .int .i64 ((rrollN A.n A.l).1) :: .int .i64 ((rrollN A.n A.l).2) :: R
def pZ_L0_X0 : Head := (⟨[(0, 1), (1, 2), (6, .int .i64 0), (7, .int .i64 0), (9, 5), (10, 6), (13, .tup [4, 5]), (14, 1), (15, 2), (16, .tup [4, 5]), (17, 4), (18, 5), (19, 5), (20, .bool false)], [], 8, 8, 0, 0, 6, 7⟩ : Head)
def pZ_L0  (A : pZ_A) (w : World) : Nat → Int → Int → Option (Nat × Int × Unit)
 | 0, _, _ => none
 | fu_ + 1, v00, v01 => (if v01 < (A.l.length : Int) then (if (debitN (at_ A.l v01)) = A.acc then (if (creditN (at_ A.l v01)) = A.acc then pZ_L0 A w fu_ ((IntKind.wrap .i64 ((IntKind.wrap .i64 (v00 + (amountN (at_ A.l v01)))) - (amountN (at_ A.l v01))))) (v01 + 1) else pZ_L0 A w fu_ ((IntKind.wrap .i64 (v00 + (amountN (at_ A.l v01))))) (v01 + 1)) else (if (creditN (at_ A.l v01)) = A.acc then pZ_L0 A w fu_ ((IntKind.wrap .i64 (v00 - (amountN (at_ A.l v01))))) (v01 + 1) else pZ_L0 A w fu_ v00 (v01 + 1))) else some (0, v00, ()))
def pZ_r  (A : pZ_A) (w : World) : Int × Int := (if (rrollN A.n A.l).2 = 0 then (match pZ_L0 A w ((((A.l.length : Int) - 0) : Int).toNat + 1) 0 0 with | some (0, x0_00, _) => (x0_00, 0) | _ => default) else (0, (rrollN A.n A.l).2))
theorem pZ_any  (A : pZ_A) (w : World) (H_l : LstAt poC w A.a_l A.b_l A.o_l A.l) (h0 : (A.l.length : Int) ≤ (A.κ_l : Int)) (h1 : KindR A.l) (h2 : (A.l.length : Int) ≤ 1000) (h3 : -9223372036854775808 ≤ A.n ∧ A.n ≤ 9223372036854775807) : Calls Tryz.prog 36 #[.int .i64 A.n, .slice A.a_l A.l.length A.κ_l, .int .i64 A.acc] w fun e w' => e = .returned (.tuple #[.int .i64 ((pZ_r A w).1), .int .i64 ((pZ_r A w).2)]) ∧ Chg (fun _ => False) w w' := by
 unfold pZ_r
 refine wGo (E := E0) (n := 8) (w := w) (L := id) ?_
 refine wS (.agg #[] :: I A.n :: .slice A.a_l A.l.length A.κ_l :: I A.acc :: I ((rrollN A.n A.l).1) :: I ((rrollN A.n A.l).2) :: []) (wC (⟨32, [.tup [1, 2], .tup []], .tup [4, 5]⟩) (fun _ => q_cV (h := fun w hw => by exact pRRoll_n (LstAt.old H_l hw) (by omega) (by omega) (show -9223372036854775808 ≤ A.n ∧ A.n ≤ 9223372036854775807 by omega))) ?_)
 split <;> rename_i h4
 ·refine wF .neq 5 (J 0) (fun h => h h4) ?_
  refine wK (K := ∀ (fu_ : Nat) (v00 : Int) (v01 : Int), (0 ≤ v01 ∧ v01 ≤ (A.l.length : Int)) → (((A.l.length : Int) - v01) : Int) < fu_ → ∃ o, pZ_L0 A w fu_ v00 v01 = some o ∧ RdsD Tryz.prog 8 36 6 w pZ_L0_H (pZ_L0_B A w [.int .i64 v00, .int .i64 v01]) fu_ [(o.1 = 0 ∧ True, pZ_L0_X0, pZ_L0_B A w [.int .i64 o.2.1], (.exit 0))]) (fun hq hc hm hp fu_ => ?_) (fun key5 => ?_)
  ·induction fu_ with
   | zero => intro v00 v01 _ hz; exfalso; omega
   | succ fu_ ih =>
    intro v00 v01 h5 hz
    rw [pZ_L0]
    refine wB hq hc hm hp ?_
    refine wS (I v00 :: I v01 :: I (A.l.length : Int) :: []) (wN 38 2 8 ?_)
    split <;> rename_i h6
    ·have h7 : 0 ≤ (at_ A.l v01).kind ∧ (at_ A.l v01).kind ≤ 255 := h1 v01 ⟨by omega, by omega⟩
     refine wS (.pointer (some ⟨A.b_l, A.o_l + (v01 : Int).toNat * 11, none⟩) :: poV (at_ A.l v01) ++ I (debitN (at_ A.l v01)) :: I (creditN (at_ A.l v01)) :: I (amountN (at_ A.l v01)) :: []) (wT .lss 7 8 h6 (wX 38 2 7 9 H_l 11 v01 (wR 25 9 [10, 11, 12, 13, 14, 15, 16, 17, 18, 19, 20] H_l v01 (wC (⟨22, [.tup [.agg [10, 11, 12, 13, 14, 15, 16, 17, 18, 19, 20]], .tup []], .agg [21, 22, 23]⟩) (fun _ => q_cV (h := fun w hw => by exact pRTransfer_n _ _ (show 0 ≤ (at_ A.l v01).kind ∧ (at_ A.l v01).kind ≤ 255 by omega))) ?_))))
     split <;> rename_i h8
     ·refine wS (I ((IntKind.wrap .i64 (v00 + (amountN (at_ A.l v01))))) :: []) (wT .eql 21 3 h8 (wE (⟨tagB .add, [6, 23], 24⟩) (fun _ => q_add rfl rfl rfl) ?_))
      split <;> rename_i h9
      ·refine wS (I ((IntKind.wrap .i64 ((IntKind.wrap .i64 (v00 + (amountN (at_ A.l v01)))) - (amountN (at_ A.l v01))))) :: I (v01 + 1) :: []) (wT .eql 22 3 h9 (wE (⟨tagB .sub, [24, 23], 25⟩) (fun _ => q_sub rfl rfl rfl) (wA 7 (J 1) 26 ?_)))
       exact wQ (rnG (ih ((IntKind.wrap .i64 ((IntKind.wrap .i64 (v00 + (amountN (at_ A.l v01)))) - (amountN (at_ A.l v01))))) (v01 + 1) (by omega) (by omega))) 8 ⟨8, [], 0, [], 6, [25, 26]⟩ [] ⟨rfl, rfl, trivial⟩
      ·refine wS (I (v01 + 1) :: []) (wF .eql 22 3 h9 (wA 7 (J 1) 25 ?_))
       exact wQ (rnG (ih ((IntKind.wrap .i64 (v00 + (amountN (at_ A.l v01))))) (v01 + 1) (by omega) (by omega))) 8 ⟨8, [], 0, [], 6, [24, 25]⟩ [] ⟨rfl, rfl, trivial⟩
     ·refine wF .eql 21 3 h8 ?_
      split <;> rename_i h9
      ·refine wS (I ((IntKind.wrap .i64 (v00 - (amountN (at_ A.l v01))))) :: I (v01 + 1) :: []) (wT .eql 22 3 h9 (wE (⟨tagB .sub, [6, 23], 24⟩) (fun _ => q_sub rfl rfl rfl) (wA 7 (J 1) 25 ?_)))
       exact wQ (rnG (ih ((IntKind.wrap .i64 (v00 - (amountN (at_ A.l v01))))) (v01 + 1) (by omega) (by omega))) 8 ⟨8, [], 0, [], 6, [24, 25]⟩ [] ⟨rfl, rfl, trivial⟩
      ·refine wS (I (v01 + 1) :: []) (wF .eql 22 3 h9 (wA 7 (J 1) 24 ?_))
       exact wQ (rnG (ih v00 (v01 + 1) (by omega) (by omega))) 8 ⟨8, [], 0, [], 6, [6, 24]⟩ [] ⟨rfl, rfl, trivial⟩
    ·refine wF .lss 7 8 h6 ?_
     exact wQ (fun hr => ⟨(0, v00, ()), rfl, ⟨⟨rfl, trivial⟩, rndEnd xeE hr⟩⟩) 8 ⟨8, [], 0, [], 6, [6]⟩ [] ⟨rfl, trivial⟩
  obtain ⟨⟨q5, x0_00, _⟩, h5, hk5⟩ := key5 ((((A.l.length : Int) - 0) : Int).toNat + 1) 0 0 (by first | trivial | omega | (simp; omega)) (by first | omega | (simp; omega))
  rw [h5]
  rcases hk5 with ⟨⟨he5, h6⟩, hr5⟩
  ·have he5 : q5 = 0 := he5
   subst he5
   try simp only []
   refine wS (I x0_00 :: []) ?_
   refine wLp (x := (.exit 0)) rfl hr5 pZ_L0_R [] (fun _ => rfl) (by kernel_rfl) (fun _ => rfl) (fun _ => ⟨rfl, rfl, trivial⟩) (fun _ => rfl) ?_
   exact wZ (.tup [6, .int .i64 0]) [1, 2, 3]
 ·refine wT .neq 5 (J 0) h4 ?_
  exact wZ (.tup [.int .i64 0, 5]) [1, 2, 3]
theorem pZ_L0_n (A : pZ_A) (w : World) : ∀ (fu : Nat) (v i : Int), (0 ≤ i ∧ i ≤ (A.l.length : Int)) → (A.l.length : Int) - i < fu → pZ_L0 A w fu v i = some (0, (A.l.drop i.toNat).foldl (balF A.acc) v, ()) := by
 intro fu
 induction fu with
 | zero => intros; omega
 | succ fu ih =>
  intro v i h0 hm
  rw [pZ_L0]
  by_cases hi : i < (A.l.length : Int)
  ·have e := fun v => ih v (i + 1) (by omega) (by omega)
   rw [if_pos hi, drop_at ⟨h0.1, hi⟩, List.foldl_cons]
   by_cases h1 : debitN (at_ A.l i) = A.acc <;> by_cases h2 : creditN (at_ A.l i) = A.acc <;> simp only [h1, h2, if_true, if_false, e, balF]
  ·rw [if_neg hi, drop_end hi]; rfl
theorem pZ_r_n (A : pZ_A) (w : World) {acc n : Int} {l : List Po} (ha : A.acc = acc) (hn : A.n = n) (hl : A.l = l) : pZ_r A w = rbalanceN n l acc := by
 unfold pZ_r rbalanceN
 rw [pZ_L0_n _ _ _ _ _ (by omega) (by omega), ha, hn, hl]
 rfl
theorem pRBalance_n {n : Int} {a_l : Option Addr} {b_l o_l κ_l : Nat} {l : List Po} {acc : Int} {w : World} (H : LstAt poC w a_l b_l o_l l) (h0 : l.length ≤ κ_l) (hk : KindR l) (h1 : (l.length : Int) ≤ 1000) (h2 : -9223372036854775808 ≤ n ∧ n ≤ 9223372036854775807) : Calls Tryz.prog 36 #[.int .i64 n, .slice a_l l.length κ_l, .int .i64 acc] w fun e w' => e = .returned (.tuple #[.int .i64 (rbalanceN n l acc).1, .int .i64 (rbalanceN n l acc).2]) ∧ Chg (fun _ => False) w w' := by
 have := pZ_any ⟨n, a_l, b_l, o_l, κ_l, l, acc⟩ w H (by show (l.length : Int) ≤ (κ_l : Int); omega) hk h1 h2
 rw [pZ_r_n _ w rfl rfl rfl] at this
 exact this
structure pW_A where
 a_l : Option Addr
 b_l : Nat
 o_l : Nat
 κ_l : Nat
 l : List Po
 reeve : Int
def pW_L1_H : Head := (⟨[(0, 1), (1, 2), (4, .ns), (5, .sls 8 2 (.int .i64 0) 4 2), (6, 5), (7, .ptr 9 0), (8, .bool true), (9, 26), (10, 27), (11, 5), (12, 1), (13, 6), (14, .bool true), (17, 1), (18, 5), (19, 7), (20, 8), (21, 9), (22, .bool false), (23, .bool false), (24, 1), (25, 5), (26, 7), (27, 10), (28, 11), (29, 12), (30, 2), (31, .bool false), (32, .bool false), (33, .tup [.agg [15, 16, 17, 18, 19, 20, 21, 22, 23, 24, 25], .bool true]), (34, 1), (35, 1), (36, 5), (37, 7), (38, 10), (39, .agg [13, 14]), (40, .tup [.agg [15, 16, 17, 18, 19, 20, 21, 22, 23, 24, 25], .bool true]), (41, .agg [15, 16, 17, 18, 19, 20, 21, 22, 23, 24, 25]), (42, .bool true)], [(8, .lst 3 2 1), (9, .cells [15, 16, 17, 18, 19, 20, 21, 22, 23, 24, 25] 0 0)], 10, 10, 1, 1, 26, 28⟩ : Head)
def pW_L1_R : Rn := ⟨10, [], 1, [], 26, [.bool false, .int .i64 0]⟩
def pW_L1_B  (A : pW_A) (w : World) (l00 : List Rf) (v01 : Int) (R : List Value) : List Value := .agg #[] :: .slice A.a_l A.l.length A.κ_l :: .int .i64 A.reeve :: Codec.flat rfC l00 :: .int .i64 (l00.length : Int) :: .int .i64 v01 :: .int .i64 (A.l.length : Int) :: .pointer (some ⟨A.b_l, A.o_l + (v01 : Int).toNat * 11, none⟩) :: .pointer (some ⟨A.b_l, A.o_l + (v01 : Int).toNat * 11 + 3, none⟩) :: .int .u8 ((at_ A.l v01).kind) :: .pointer (some ⟨A.b_l, A.o_l + (v01 : Int).toNat * 11 + 6, none⟩) :: .pointer (some ⟨A.b_l, A.o_l + (v01 : Int).toNat * 11 + 6, none⟩) :: .int .i64 ((at_ A.l v01).of.reeve) :: .int .i64 ((at_ A.l v01).of.reeve) :: .int .i64 ((at_ A.l v01).of.number) :: .int .i64 (((findP A.l ((at_ A.l v01).of)).reeve)) :: .int .i64 (((findP A.l ((at_ A.l v01).of)).number)) :: .int .i64 (((findP A.l ((at_ A.l v01).of)).tick)) :: .int .u8 (((findP A.l ((at_ A.l v01).of)).kind)) :: .int .i64 (((findP A.l ((at_ A.l v01).of)).cse)) :: .int .i64 (((findP A.l ((at_ A.l v01).of)).owner)) :: .int .i64 (((findP A.l ((at_ A.l v01).of)).of.reeve)) :: .int .i64 (((findP A.l ((at_ A.l v01).of)).of.number)) :: .int .i64 (((findP A.l ((at_ A.l v01).of)).by_.reeve)) :: .int .i64 (((findP A.l ((at_ A.l v01).of)).by_.number)) :: .int .i64 (((findP A.l ((at_ A.l v01).of)).amount)) :: R
def pW_L1_X0 : Head := (⟨[(0, 1), (1, 2), (4, .ns), (5, .sls 8 2 (.int .i64 0) 4 2), (6, 5), (7, .ptr 9 0), (8, .bool true), (9, 26), (11, 5), (12, 1), (13, 6), (14, .bool true), (17, 1), (18, 5), (19, 7), (20, 8), (21, 9), (22, .bool false), (23, .bool false), (24, 1), (25, 5), (26, 7), (27, 10), (28, 11), (29, 12), (30, 2), (31, .bool false), (32, .bool false), (33, .tup [.agg [15, 16, 17, 18, 19, 20, 21, 22, 23, 24, 25], .bool true]), (34, 1), (35, 1), (36, 5), (37, 7), (38, 10), (39, .agg [13, 14]), (40, .tup [.agg [15, 16, 17, 18, 19, 20, 21, 22, 23, 24, 25], .bool true]), (41, .agg [15, 16, 17, 18, 19, 20, 21, 22, 23, 24, 25]), (42, .bool true)], [(8, .lst 3 2 1), (9, .cells [15, 16, 17, 18, 19, 20, 21, 22, 23, 24, 25] 0 0)], 10, 10, 1, 1, 26, 27⟩ : Head)
def pW_L1  (A : pW_A) (w : World) (l00 : List Rf) (v01 : Int) : Nat → Bool → Int → Option (Nat × Bool × Unit)
 | 0, _, _ => none
 | fu_ + 1, v10, v11 => (if v11 < (A.l.length : Int) then (if v10 = true then pW_L1 A w l00 v01 fu_ true (v11 + 1) else (if (at_ A.l v11).reeve = A.reeve then (if (at_ A.l v11).kind = 4 then (if (at_ A.l v11).by_.reeve = (at_ A.l v01).reeve then (if (at_ A.l v11).by_.number = (at_ A.l v01).number then pW_L1 A w l00 v01 fu_ true (v11 + 1) else pW_L1 A w l00 v01 fu_ false (v11 + 1)) else pW_L1 A w l00 v01 fu_ false (v11 + 1)) else pW_L1 A w l00 v01 fu_ false (v11 + 1)) else pW_L1 A w l00 v01 fu_ false (v11 + 1))) else some (0, v10, ()))
def pW_L2_H : Head := (⟨[(0, 1), (1, 2), (4, .ns), (5, .sls 8 2 (.int .i64 0) 4 2), (6, 5), (7, .ptr 9 0), (8, .bool false), (9, 26), (10, 27), (11, 5), (12, 1), (13, 6), (14, .bool true), (17, 1), (18, 5), (19, 7), (20, 8), (21, 9), (22, .bool false), (23, .bool false), (24, 1), (25, 5), (26, 7), (27, 10), (28, 11), (29, 12), (30, 2), (31, .bool false), (32, .bool false), (33, .tup [.agg [15, 16, 17, 18, 19, 20, 21, 22, 23, 24, 25], .bool false]), (34, 1), (35, 1), (36, 5), (37, 7), (38, 10), (39, .agg [13, 14]), (40, .tup [.agg [15, 16, 17, 18, 19, 20, 21, 22, 23, 24, 25], .bool false]), (41, .agg [15, 16, 17, 18, 19, 20, 21, 22, 23, 24, 25]), (42, .bool false)], [(8, .lst 3 2 1), (9, .cells [15, 16, 17, 18, 19, 20, 21, 22, 23, 24, 25] 0 0)], 10, 10, 1, 1, 26, 28⟩ : Head)
def pW_L2_R : Rn := ⟨10, [], 1, [], 26, [.bool false, .int .i64 0]⟩
def pW_L2_B  (A : pW_A) (w : World) (l00 : List Rf) (v01 : Int) (R : List Value) : List Value := .agg #[] :: .slice A.a_l A.l.length A.κ_l :: .int .i64 A.reeve :: Codec.flat rfC l00 :: .int .i64 (l00.length : Int) :: .int .i64 v01 :: .int .i64 (A.l.length : Int) :: .pointer (some ⟨A.b_l, A.o_l + (v01 : Int).toNat * 11, none⟩) :: .pointer (some ⟨A.b_l, A.o_l + (v01 : Int).toNat * 11 + 3, none⟩) :: .int .u8 ((at_ A.l v01).kind) :: .pointer (some ⟨A.b_l, A.o_l + (v01 : Int).toNat * 11 + 6, none⟩) :: .pointer (some ⟨A.b_l, A.o_l + (v01 : Int).toNat * 11 + 6, none⟩) :: .int .i64 ((at_ A.l v01).of.reeve) :: .int .i64 ((at_ A.l v01).of.reeve) :: .int .i64 ((at_ A.l v01).of.number) :: .int .i64 (((findP A.l ((at_ A.l v01).of)).reeve)) :: .int .i64 (((findP A.l ((at_ A.l v01).of)).number)) :: .int .i64 (((findP A.l ((at_ A.l v01).of)).tick)) :: .int .u8 (((findP A.l ((at_ A.l v01).of)).kind)) :: .int .i64 (((findP A.l ((at_ A.l v01).of)).cse)) :: .int .i64 (((findP A.l ((at_ A.l v01).of)).owner)) :: .int .i64 (((findP A.l ((at_ A.l v01).of)).of.reeve)) :: .int .i64 (((findP A.l ((at_ A.l v01).of)).of.number)) :: .int .i64 (((findP A.l ((at_ A.l v01).of)).by_.reeve)) :: .int .i64 (((findP A.l ((at_ A.l v01).of)).by_.number)) :: .int .i64 (((findP A.l ((at_ A.l v01).of)).amount)) :: R
def pW_L2_X0 : Head := (⟨[(0, 1), (1, 2), (4, .ns), (5, .sls 8 2 (.int .i64 0) 4 2), (6, 5), (7, .ptr 9 0), (8, .bool false), (9, 26), (11, 5), (12, 1), (13, 6), (14, .bool true), (17, 1), (18, 5), (19, 7), (20, 8), (21, 9), (22, .bool false), (23, .bool false), (24, 1), (25, 5), (26, 7), (27, 10), (28, 11), (29, 12), (30, 2), (31, .bool false), (32, .bool false), (33, .tup [.agg [15, 16, 17, 18, 19, 20, 21, 22, 23, 24, 25], .bool false]), (34, 1), (35, 1), (36, 5), (37, 7), (38, 10), (39, .agg [13, 14]), (40, .tup [.agg [15, 16, 17, 18, 19, 20, 21, 22, 23, 24, 25], .bool false]), (41, .agg [15, 16, 17, 18, 19, 20, 21, 22, 23, 24, 25]), (42, .bool false)], [(8, .lst 3 2 1), (9, .cells [15, 16, 17, 18, 19, 20, 21, 22, 23, 24, 25] 0 0)], 10, 10, 1, 1, 26, 27⟩ : Head)
def pW_L2  (A : pW_A) (w : World) (l00 : List Rf) (v01 : Int) : Nat → Bool → Int → Option (Nat × Bool × Unit)
 | 0, _, _ => none
 | fu_ + 1, v20, v21 => (if v21 < (A.l.length : Int) then (if v20 = true then pW_L2 A w l00 v01 fu_ true (v21 + 1) else (if (at_ A.l v21).reeve = A.reeve then (if (at_ A.l v21).kind = 4 then (if (at_ A.l v21).by_.reeve = (at_ A.l v01).reeve then (if (at_ A.l v21).by_.number = (at_ A.l v01).number then pW_L2 A w l00 v01 fu_ true (v21 + 1) else pW_L2 A w l00 v01 fu_ false (v21 + 1)) else pW_L2 A w l00 v01 fu_ false (v21 + 1)) else pW_L2 A w l00 v01 fu_ false (v21 + 1)) else pW_L2 A w l00 v01 fu_ false (v21 + 1))) else some (0, v20, ()))
def pW_L0_H : Head := (⟨[(0, 1), (1, 2), (4, .ns), (5, .sls 8 2 (.int .i64 0) 4 2), (6, 5)], [(8, .lst 3 2 1)], 8, 9, 0, 1, 3, 6⟩ : Head)
def pW_L0_R : Rn := ⟨8, [8], 0, [0], 3, [0, .int .i64 0, .int .i64 0]⟩
def pW_L0_B  (A : pW_A) (w : World) (R : List Value) : List Value := .agg #[] :: .slice A.a_l A.l.length A.κ_l :: .int .i64 A.reeve :: R
def pW_L0_X0 : Head := (⟨[(4, .ns), (5, .sls 8 2 (.int .i64 0) 4 2)], [(8, .lst 3 2 1)], 8, 9, 0, 1, 3, 5⟩ : Head)
def pW_L0  (A : pW_A) (w : World) : Nat → List Rf → Int → Option (Nat × List Rf × Unit)
 | 0, _, _ => none
 | fu_ + 1, l00, v01 => (if v01 < (A.l.length : Int) then (if (at_ A.l v01).kind = 3 then (if (at_ A.l v01).of.reeve = A.reeve then (if findB A.l ((at_ A.l v01).of) = true then (match pW_L1 A w l00 v01 ((((A.l.length : Int) - 0) : Int).toNat + 1) false 0 with | some (0, x1_00, _) => (if ((findP A.l ((at_ A.l v01).of))).kind = 1 ∨ ((findP A.l ((at_ A.l v01).of))).kind = 2 then (if ((findP A.l ((at_ A.l v01).of)).owner) = (at_ A.l v01).owner then (if x1_00 = true then pW_L0 A w fu_ l00 (v01 + 1) else pW_L0 A w fu_ ((l00 ++ [(⟨((at_ A.l v01).reeve), ((at_ A.l v01).number)⟩ : Rf)])) (v01 + 1)) else pW_L0 A w fu_ l00 (v01 + 1)) else pW_L0 A w fu_ l00 (v01 + 1)) | _ => none) else (match pW_L2 A w l00 v01 ((((A.l.length : Int) - 0) : Int).toNat + 1) false 0 with | some (0, x2_00, _) => pW_L0 A w fu_ l00 (v01 + 1) | _ => none)) else pW_L0 A w fu_ l00 (v01 + 1)) else pW_L0 A w fu_ l00 (v01 + 1)) else some (0, l00, ()))
def pW_r  (A : pW_A) (w : World) : List Rf := (match pW_L0 A w ((((A.l.length : Int) - 0) : Int).toNat + 1) ([]) 0 with | some (0, y0_00, _) => y0_00 | _ => default)
theorem pW_any  (A : pW_A) (w : World) (H_l : LstAt poC w A.a_l A.b_l A.o_l A.l) (h0 : (A.l.length : Int) ≤ (A.κ_l : Int)) (h1 : (A.l.length : Int) ≤ 1000) : Calls Tryz.prog 107 #[.slice A.a_l A.l.length A.κ_l, .int .i64 A.reeve] w fun e w' => ∃ zs : List Value, e = .returned (zs.getD 0 undef) ∧ FrAll w.heap.size w' [⟨(pW_r A w : List Rf).flatMap rfC.f, 2, (pW_r A w : List Rf).length⟩] zs [] ∧ Chg (fun _ => False) w w' := by
 unfold pW_r
 refine wGo (E := E0) (n := 8) (w := w) (L := id) ?_
 refine wS (.agg #[] :: .slice A.a_l A.l.length A.κ_l :: I A.reeve :: []) ?_
 refine wK (K := ∀ (fu_ : Nat) (l00 : List Rf) (v01 : Int), (0 ≤ v01 ∧ v01 ≤ (A.l.length : Int) ∧ (l00.length : Int) ≤ (A.l.length : Int) ∧ (l00.length : Int) ≤ v01) → (((A.l.length : Int) - v01) : Int) < fu_ → ∃ o, pW_L0 A w fu_ l00 v01 = some o ∧ RdsD Tryz.prog 8 107 3 w pW_L0_H (pW_L0_B A w [Codec.flat rfC l00, .int .i64 (l00.length : Int), .int .i64 v01]) fu_ [(o.1 = 0 ∧ ((o.2.1.length : Int) ≤ (A.l.length : Int)), pW_L0_X0, pW_L0_B A w [Codec.flat rfC o.2.1, .int .i64 (o.2.1.length : Int)], (.exit 0))]) (fun hq hc hm hp fu_ => ?_) (fun key2 => ?_)
 ·induction fu_ with
  | zero => intro l00 v01 _ hz; exfalso; omega
  | succ fu_ ih =>
   intro l00 v01 h2 hz
   rw [pW_L0]
   refine wB hq hc hm hp ?_
   refine wS (Codec.flat rfC l00 :: I (l00.length : Int) :: I v01 :: I (A.l.length : Int) :: []) (wN 38 1 6 ?_)
   split <;> rename_i h3
   ·refine wS (.pointer (some ⟨A.b_l, A.o_l + (v01 : Int).toNat * 11, none⟩) :: .pointer (some ⟨A.b_l, A.o_l + (v01 : Int).toNat * 11 + 3, none⟩) :: .int .u8 ((at_ A.l v01).kind) :: []) (wT .lss 5 6 h3 (wX 38 1 5 7 H_l 11 v01 (wO 25 3 3 7 8 (wP 5 8 9 H_l v01 3 ?_))))
    split <;> rename_i h4
    ·refine wS (.pointer (some ⟨A.b_l, A.o_l + (v01 : Int).toNat * 11 + 6, none⟩) :: .pointer (some ⟨A.b_l, A.o_l + (v01 : Int).toNat * 11 + 6, none⟩) :: I ((at_ A.l v01).of.reeve) :: []) (wF .neq 9 (.int .u8 3) (fun h => h h4) (wO 25 6 6 7 10 (wO 23 0 0 10 11 (wP 3 11 12 H_l v01 6 ?_))))
     split <;> rename_i h5
     ·refine wS (I ((at_ A.l v01).of.reeve) :: I ((at_ A.l v01).of.number) :: []) (wF .neq 12 2 (fun h => h h5) (wE (⟨8000000000 + 23, [10], .agg [13, 14]⟩) (fun _ => q_subO (C := poC) H_l (i := v01) (j := 6) (n := 2) ⟨by omega, by omega⟩ rfl rfl rfl rfl rfl rfl (by kernel_rfl)) ?_))
      split <;> rename_i h6
      ·refine wS (I (((findP A.l ((at_ A.l v01).of)).reeve)) :: I (((findP A.l ((at_ A.l v01).of)).number)) :: I (((findP A.l ((at_ A.l v01).of)).tick)) :: .int .u8 (((findP A.l ((at_ A.l v01).of)).kind)) :: I (((findP A.l ((at_ A.l v01).of)).cse)) :: I (((findP A.l ((at_ A.l v01).of)).owner)) :: I (((findP A.l ((at_ A.l v01).of)).of.reeve)) :: I (((findP A.l ((at_ A.l v01).of)).of.number)) :: I (((findP A.l ((at_ A.l v01).of)).by_.reeve)) :: I (((findP A.l ((at_ A.l v01).of)).by_.number)) :: I (((findP A.l ((at_ A.l v01).of)).amount)) :: []) (wC (⟨102, [.tup [1, .agg [13, 14]], .tup []], .tup [.agg [15, 16, 17, 18, 19, 20, 21, 22, 23, 24, 25], (.bool true)]⟩) (fun _ => q_cV (h := fun w hw => by have hb := h6; (try simp only [Bool.not_eq_true] at hb); rw [← hb]; exact pRFind_n (LstAt.old H_l hw) (by first | omega | (simp only [List.length_take]; omega)) (by omega) _)) ?_)
       refine wK (K := ∀ (fu_ : Nat) (v10 : Bool) (v11 : Int), (0 ≤ v11 ∧ v11 ≤ (A.l.length : Int)) → (((A.l.length : Int) - v11) : Int) < fu_ → ∃ o, pW_L1 A w l00 v01 fu_ v10 v11 = some o ∧ RdsD Tryz.prog 8 107 9 w pW_L1_H (pW_L1_B A w l00 v01 [.bool v10, .int .i64 v11]) fu_ [(o.1 = 0 ∧ True, pW_L1_X0, pW_L1_B A w l00 v01 [.bool o.2.1], (.exit 2))]) (fun hq hc hm hp fu_ => ?_) (fun key7 => ?_)
       ·induction fu_ with
        | zero => intro v10 v11 _ hz; exfalso; omega
        | succ fu_ ih =>
         intro v10 v11 h7 hz
         rw [pW_L1]
         refine wB hq hc hm hp ?_
         refine wS (.bool v10 :: I v11 :: []) ?_
         split <;> rename_i h8
         ·refine wT .lss 27 6 h8 ?_
          split <;> rename_i h9
          ·refine wS (I (v11 + 1) :: []) (wE (⟨102, [26], .bool false⟩) (fun _ => q_not (x := v10) rfl h9) (wA 27 (J 1) 28 ?_))
           exact wQ (rnG (ih true (v11 + 1) (by omega) (by omega))) 28 ⟨10, [], 1, [], 26, [.bool true, 28]⟩ [] ⟨rfl, rfl, trivial⟩
          ·refine wS (.pointer (some ⟨A.b_l, A.o_l + (v11 : Int).toNat * 11, none⟩) :: .pointer (some ⟨A.b_l, A.o_l + (v11 : Int).toNat * 11 + 0, none⟩) :: I ((at_ A.l v11).reeve) :: []) (wE (⟨102, [26], .bool true⟩) (fun _ => q_not (x := v10) rfl (by have g := h9; revert g; cases v10 <;> simp)) (wX 38 1 27 28 H_l 11 v11 (wO 25 0 0 28 29 (wP 3 29 30 H_l v11 0 ?_))))
           split <;> rename_i h10
           ·refine wS (.pointer (some ⟨A.b_l, A.o_l + (v11 : Int).toNat * 11 + 3, none⟩) :: .int .u8 ((at_ A.l v11).kind) :: []) (wT .eql 30 2 h10 (wO 25 3 3 28 31 (wP 5 31 32 H_l v11 3 ?_)))
            split <;> rename_i h11
            ·refine wS (.pointer (some ⟨A.b_l, A.o_l + (v11 : Int).toNat * 11 + 8, none⟩) :: I ((at_ A.l v11).by_.reeve) :: I ((at_ A.l v11).by_.number) :: poV (at_ A.l v01) ++ []) (wT .eql 32 (.int .u8 4) h11 (wO 25 7 8 28 33 (wE (⟨8000000000 + 23, [33], .agg [34, 35]⟩) (fun _ => q_subO (C := poC) H_l (i := v11) (j := 8) (n := 2) ⟨by omega, by omega⟩ rfl rfl rfl rfl rfl rfl (by kernel_rfl)) (wR 25 7 [36, 37, 38, 39, 40, 41, 42, 43, 44, 45, 46] H_l v01 ?_))))
             split <;> rename_i h12
             ·refine wU 34 36 h12 ?_
              split <;> rename_i h13
              ·refine wS (I (v11 + 1) :: []) (wU 35 37 h13 (wA 27 (J 1) 47 ?_))
               exact wQ (rnG (ih true (v11 + 1) (by omega) (by omega))) 28 ⟨10, [], 1, [], 26, [.bool true, 47]⟩ [] ⟨rfl, rfl, trivial⟩
              ·refine wS (I (v11 + 1) :: []) (wV 35 37 h13 (wA 27 (J 1) 47 ?_))
               exact wQ (rnG (ih false (v11 + 1) (by omega) (by omega))) 28 ⟨10, [], 1, [], 26, [.bool false, 47]⟩ [] ⟨rfl, rfl, trivial⟩
             ·refine wS (I (v11 + 1) :: []) (wV 34 36 h12 (wA 27 (J 1) 47 ?_))
              exact wQ (rnG (ih false (v11 + 1) (by omega) (by omega))) 28 ⟨10, [], 1, [], 26, [.bool false, 47]⟩ [] ⟨rfl, rfl, trivial⟩
            ·refine wS (I (v11 + 1) :: []) (wF .eql 32 (.int .u8 4) h11 (wA 27 (J 1) 33 ?_))
             exact wQ (rnG (ih false (v11 + 1) (by omega) (by omega))) 28 ⟨10, [], 1, [], 26, [.bool false, 33]⟩ [] ⟨rfl, rfl, trivial⟩
           ·refine wS (I (v11 + 1) :: []) (wF .eql 30 2 h10 (wA 27 (J 1) 31 ?_))
            exact wQ (rnG (ih false (v11 + 1) (by omega) (by omega))) 28 ⟨10, [], 1, [], 26, [.bool false, 31]⟩ [] ⟨rfl, rfl, trivial⟩
         ·refine wF .lss 27 6 h8 ?_
          exact wQ (fun hr => ⟨(0, v10, ()), rfl, ⟨⟨rfl, trivial⟩, rndEnd xeE hr⟩⟩) 28 ⟨10, [], 1, [], 26, [26]⟩ [] ⟨rfl, trivial⟩
       obtain ⟨⟨q7, x1_00, _⟩, h7, hk7⟩ := key7 ((((A.l.length : Int) - 0) : Int).toNat + 1) false 0 (by first | trivial | omega | (simp only [List.length_append, List.length_cons, List.length_nil, List.length_set]; omega)) (by first | omega | (simp only [List.length_append, List.length_cons, List.length_nil, List.length_set]; omega))
       rw [h7]
       rcases hk7 with ⟨⟨he7, h8⟩, hr7⟩
       ·have he7 : q7 = 0 := he7
        subst he7
        try simp only []
        refine wS (.bool x1_00 :: []) ?_
        refine wLp (x := (.exit 2)) rfl hr7 pW_L1_R [] (fun _ => rfl) (by kernel_rfl) (fun _ => rfl) (fun _ => ⟨rfl, rfl, trivial⟩) (fun _ => rfl) ?_
        split <;> rename_i h9
        ·refine wS (.pointer (some ⟨A.b_l, A.o_l + (v01 : Int).toNat * 11 + 5, none⟩) :: I ((at_ A.l v01).owner) :: []) (wO 25 5 5 7 27 (wP 3 27 28 H_l v01 5 (wC (⟨103, [.tup [.agg [15, 16, 17, 18, 19, 20, 21, 22, 23, 24, 25]], .tup []], (.bool true)⟩) (fun _ => q_cV (h := fun w hw => by have hb := decide_eq_true h9; rw [← hb]; exact pRCharge_n _ _)) ?_)))
         split <;> rename_i h10
         ·refine wT .eql 20 28 h10 ?_
          split <;> rename_i h11
          ·refine wS (I (v01 + 1) :: []) (wE (⟨102, [26], .bool false⟩) (fun _ => q_not (x := x1_00) rfl h11) (wA 5 (J 1) 29 ?_))
           exact wQ (rnG (ih l00 (v01 + 1) (by omega) (by omega))) 6 ⟨8, [8], 0, [0], 3, [3, 4, 29]⟩ [] ⟨rfl, rfl, rfl, trivial⟩
          ·refine wS (poV (at_ A.l v01) ++ Codec.flat rfC ((l00 ++ [(⟨((at_ A.l v01).reeve), ((at_ A.l v01).number)⟩ : Rf)])) :: I ((l00.length : Int) + 1) :: I (v01 + 1) :: []) (wE (⟨102, [26], .bool true⟩) (fun _ => q_not (x := x1_00) rfl (by have g := h11; revert g; cases x1_00 <;> simp)) (wR 25 7 [29, 30, 31, 32, 33, 34, 35, 36, 37, 38, 39] H_l v01 (wE (⟨8000000000 + 200000002, [.tup [3, J 0, 4], .tup [.agg [29, 30]]], .tup [40, 41]⟩) (fun _ => q_app1 (sz := 2) (C := rfC) (X := l00) (e := (⟨((at_ A.l v01).reeve), ((at_ A.l v01).number)⟩ : Rf)) rfl rfl rfl rfl (by show some (l00.length : Int) = some (((l00).length : Int)); simp) rfl rfl (by show some ((l00.length : Int) + 1) = some (((l00).length : Int) + 1); simp) (by first | omega | (simp only [List.length_append, List.length_cons, List.length_nil]; omega))) (wA 5 (J 1) 42 ?_))))
           exact wQ (rnG (ih ((l00 ++ [(⟨((at_ A.l v01).reeve), ((at_ A.l v01).number)⟩ : Rf)])) (v01 + 1) (by simp only [List.length_append, List.length_cons, List.length_nil, List.length_set]; omega) (by omega))) 6 ⟨8, [32], 0, [1], 3, [40, 41, 42]⟩ [] ⟨rfl, (show some (Value.int .i64 ((l00.length : Int) + 1)) = some (Value.int .i64 (((l00 ++ [(⟨((at_ A.l v01).reeve), ((at_ A.l v01).number)⟩ : Rf)])).length : Int)) from congrArg some (congrArg (Value.int .i64) (by simp))), rfl, trivial⟩
         ·refine wS (I (v01 + 1) :: []) (wF .eql 20 28 h10 (wA 5 (J 1) 29 ?_))
          exact wQ (rnG (ih l00 (v01 + 1) (by omega) (by omega))) 6 ⟨8, [8], 0, [0], 3, [3, 4, 29]⟩ [] ⟨rfl, rfl, rfl, trivial⟩
        ·refine wS (I (v01 + 1) :: []) (wA 5 (J 1) 27 (wC (⟨103, [.tup [.agg [15, 16, 17, 18, 19, 20, 21, 22, 23, 24, 25]], .tup []], (.bool false)⟩) (fun _ => q_cV (h := fun w hw => by have hb := decide_eq_false h9; rw [← hb]; exact pRCharge_n _ _)) ?_))
         exact wQ (rnG (ih l00 (v01 + 1) (by omega) (by omega))) 6 ⟨8, [8], 0, [0], 3, [3, 4, 27]⟩ [] ⟨rfl, rfl, rfl, trivial⟩
      ·refine wS (I (((findP A.l ((at_ A.l v01).of)).reeve)) :: I (((findP A.l ((at_ A.l v01).of)).number)) :: I (((findP A.l ((at_ A.l v01).of)).tick)) :: .int .u8 (((findP A.l ((at_ A.l v01).of)).kind)) :: I (((findP A.l ((at_ A.l v01).of)).cse)) :: I (((findP A.l ((at_ A.l v01).of)).owner)) :: I (((findP A.l ((at_ A.l v01).of)).of.reeve)) :: I (((findP A.l ((at_ A.l v01).of)).of.number)) :: I (((findP A.l ((at_ A.l v01).of)).by_.reeve)) :: I (((findP A.l ((at_ A.l v01).of)).by_.number)) :: I (((findP A.l ((at_ A.l v01).of)).amount)) :: []) (wC (⟨102, [.tup [1, .agg [13, 14]], .tup []], .tup [.agg [15, 16, 17, 18, 19, 20, 21, 22, 23, 24, 25], (.bool false)]⟩) (fun _ => q_cV (h := fun w hw => by have hb := h6; (try simp only [Bool.not_eq_true] at hb); rw [← hb]; exact pRFind_n (LstAt.old H_l hw) (by first | omega | (simp only [List.length_take]; omega)) (by omega) _)) ?_)
       refine wK (K := ∀ (fu_ : Nat) (v20 : Bool) (v21 : Int), (0 ≤ v21 ∧ v21 ≤ (A.l.length : Int)) → (((A.l.length : Int) - v21) : Int) < fu_ → ∃ o, pW_L2 A w l00 v01 fu_ v20 v21 = some o ∧ RdsD Tryz.prog 8 107 9 w pW_L2_H (pW_L2_B A w l00 v01 [.bool v20, .int .i64 v21]) fu_ [(o.1 = 0 ∧ True, pW_L2_X0, pW_L2_B A w l00 v01 [.bool o.2.1], (.exit 2))]) (fun hq hc hm hp fu_ => ?_) (fun key7 => ?_)
       ·induction fu_ with
        | zero => intro v20 v21 _ hz; exfalso; omega
        | succ fu_ ih =>
         intro v20 v21 h7 hz
         rw [pW_L2]
         refine wB hq hc hm hp ?_
         refine wS (.bool v20 :: I v21 :: []) ?_
         split <;> rename_i h8
         ·refine wT .lss 27 6 h8 ?_
          split <;> rename_i h9
          ·refine wS (I (v21 + 1) :: []) (wE (⟨102, [26], .bool false⟩) (fun _ => q_not (x := v20) rfl h9) (wA 27 (J 1) 28 ?_))
           exact wQ (rnG (ih true (v21 + 1) (by omega) (by omega))) 28 ⟨10, [], 1, [], 26, [.bool true, 28]⟩ [] ⟨rfl, rfl, trivial⟩
          ·refine wS (.pointer (some ⟨A.b_l, A.o_l + (v21 : Int).toNat * 11, none⟩) :: .pointer (some ⟨A.b_l, A.o_l + (v21 : Int).toNat * 11 + 0, none⟩) :: I ((at_ A.l v21).reeve) :: []) (wE (⟨102, [26], .bool true⟩) (fun _ => q_not (x := v20) rfl (by have g := h9; revert g; cases v20 <;> simp)) (wX 38 1 27 28 H_l 11 v21 (wO 25 0 0 28 29 (wP 3 29 30 H_l v21 0 ?_))))
           split <;> rename_i h10
           ·refine wS (.pointer (some ⟨A.b_l, A.o_l + (v21 : Int).toNat * 11 + 3, none⟩) :: .int .u8 ((at_ A.l v21).kind) :: []) (wT .eql 30 2 h10 (wO 25 3 3 28 31 (wP 5 31 32 H_l v21 3 ?_)))
            split <;> rename_i h11
            ·refine wS (.pointer (some ⟨A.b_l, A.o_l + (v21 : Int).toNat * 11 + 8, none⟩) :: I ((at_ A.l v21).by_.reeve) :: I ((at_ A.l v21).by_.number) :: poV (at_ A.l v01) ++ []) (wT .eql 32 (.int .u8 4) h11 (wO 25 7 8 28 33 (wE (⟨8000000000 + 23, [33], .agg [34, 35]⟩) (fun _ => q_subO (C := poC) H_l (i := v21) (j := 8) (n := 2) ⟨by omega, by omega⟩ rfl rfl rfl rfl rfl rfl (by kernel_rfl)) (wR 25 7 [36, 37, 38, 39, 40, 41, 42, 43, 44, 45, 46] H_l v01 ?_))))
             split <;> rename_i h12
             ·refine wU 34 36 h12 ?_
              split <;> rename_i h13
              ·refine wS (I (v21 + 1) :: []) (wU 35 37 h13 (wA 27 (J 1) 47 ?_))
               exact wQ (rnG (ih true (v21 + 1) (by omega) (by omega))) 28 ⟨10, [], 1, [], 26, [.bool true, 47]⟩ [] ⟨rfl, rfl, trivial⟩
              ·refine wS (I (v21 + 1) :: []) (wV 35 37 h13 (wA 27 (J 1) 47 ?_))
               exact wQ (rnG (ih false (v21 + 1) (by omega) (by omega))) 28 ⟨10, [], 1, [], 26, [.bool false, 47]⟩ [] ⟨rfl, rfl, trivial⟩
             ·refine wS (I (v21 + 1) :: []) (wV 34 36 h12 (wA 27 (J 1) 47 ?_))
              exact wQ (rnG (ih false (v21 + 1) (by omega) (by omega))) 28 ⟨10, [], 1, [], 26, [.bool false, 47]⟩ [] ⟨rfl, rfl, trivial⟩
            ·refine wS (I (v21 + 1) :: []) (wF .eql 32 (.int .u8 4) h11 (wA 27 (J 1) 33 ?_))
             exact wQ (rnG (ih false (v21 + 1) (by omega) (by omega))) 28 ⟨10, [], 1, [], 26, [.bool false, 33]⟩ [] ⟨rfl, rfl, trivial⟩
           ·refine wS (I (v21 + 1) :: []) (wF .eql 30 2 h10 (wA 27 (J 1) 31 ?_))
            exact wQ (rnG (ih false (v21 + 1) (by omega) (by omega))) 28 ⟨10, [], 1, [], 26, [.bool false, 31]⟩ [] ⟨rfl, rfl, trivial⟩
         ·refine wF .lss 27 6 h8 ?_
          exact wQ (fun hr => ⟨(0, v20, ()), rfl, ⟨⟨rfl, trivial⟩, rndEnd xeE hr⟩⟩) 28 ⟨10, [], 1, [], 26, [26]⟩ [] ⟨rfl, trivial⟩
       obtain ⟨⟨q7, x2_00, _⟩, h7, hk7⟩ := key7 ((((A.l.length : Int) - 0) : Int).toNat + 1) false 0 (by first | trivial | omega | (simp only [List.length_append, List.length_cons, List.length_nil, List.length_set]; omega)) (by first | omega | (simp only [List.length_append, List.length_cons, List.length_nil, List.length_set]; omega))
       rw [h7]
       rcases hk7 with ⟨⟨he7, h8⟩, hr7⟩
       ·have he7 : q7 = 0 := he7
        subst he7
        try simp only []
        refine wS (.bool x2_00 :: []) ?_
        refine wLp (x := (.exit 2)) rfl hr7 pW_L2_R [] (fun _ => rfl) (by kernel_rfl) (fun _ => rfl) (fun _ => ⟨rfl, rfl, trivial⟩) (fun _ => rfl) ?_
        refine wS (I (v01 + 1) :: []) (wA 5 (J 1) 27 ?_)
        exact wQ (rnG (ih l00 (v01 + 1) (by omega) (by omega))) 6 ⟨8, [8], 0, [0], 3, [3, 4, 27]⟩ [] ⟨rfl, rfl, rfl, trivial⟩
     ·refine wS (I (v01 + 1) :: []) (wT .neq 12 2 h5 (wA 5 (J 1) 13 ?_))
      exact wQ (rnG (ih l00 (v01 + 1) (by omega) (by omega))) 6 ⟨8, [8], 0, [0], 3, [3, 4, 13]⟩ [] ⟨rfl, rfl, rfl, trivial⟩
    ·refine wS (I (v01 + 1) :: []) (wT .neq 9 (.int .u8 3) h4 (wA 5 (J 1) 10 ?_))
     exact wQ (rnG (ih l00 (v01 + 1) (by omega) (by omega))) 6 ⟨8, [8], 0, [0], 3, [3, 4, 10]⟩ [] ⟨rfl, rfl, rfl, trivial⟩
   ·refine wF .lss 5 6 h3 ?_
    exact wQ (fun hr => ⟨(0, l00, ()), rfl, ⟨⟨rfl, (by first | trivial | omega | (simp only [List.length_append, List.length_cons, List.length_nil, List.length_set]; omega))⟩, rndEnd xeE hr⟩⟩) 6 ⟨8, [8], 0, [0], 3, [3, 4]⟩ [] ⟨rfl, rfl, trivial⟩
 obtain ⟨⟨q2, y0_00, _⟩, h2, hk2⟩ := key2 ((((A.l.length : Int) - 0) : Int).toNat + 1) ([]) 0 (by first | trivial | omega | (simp only [List.length_append, List.length_cons, List.length_nil, List.length_set]; omega)) (by first | omega | (simp only [List.length_append, List.length_cons, List.length_nil, List.length_set]; omega))
 rw [h2]
 rcases hk2 with ⟨⟨he2, h3⟩, hr2⟩
 ·have he2 : q2 = 0 := he2
  subst he2
  try simp only []
  have h3 : (y0_00.length : Int) ≤ (A.l.length : Int) := h3
  refine wS (Codec.flat rfC y0_00 :: I (y0_00.length : Int) :: []) ?_
  refine wLp (x := (.exit 0)) rfl hr2 pW_L0_R [2] (fun _ => rfl) (by kernel_rfl) (fun _ => rfl) (fun _ => ⟨rfl, (show some (Value.int .i64 0) = some (Value.int .i64 (([]).length : Int)) from congrArg some (congrArg (Value.int .i64) (by simp))), rfl, trivial⟩) (fun _ => rfl) ?_
  exact wRetL (v := .sls 8 2 (.int .i64 0) 4 2) (rs := [⟨(y0_00 : List Rf).flatMap rfC.f, 2, (y0_00 : List Rf).length⟩]) ok0 60 60 [1, 2] [(8, .lst 3 2 1)] rfl rfl rfl (by kernel_rfl) ⟨⟨rfl, by decide, ⟨3, 1, rfl, rfl, .inr ⟨rfl, by decide⟩⟩, rfl, (by show some ((y0_00.length : Int) : Int) = some ((y0_00).length : Int); simp), rfl, flat_length _ _⟩, trivial⟩ (fun zs hz => match zs, hz with | [_], _ => rfl)
theorem pW_L1_n (A : pW_A) (w : World) (q : List Rf) (v : Int) : ∀ (n : Nat) (b : Bool) (i : Int), (0 ≤ i ∧ i ≤ (A.l.length : Int)) → (A.l.length : Int) - i < n → pW_L1 A w q v n b i = some (0, (b || (A.l.drop i.toNat).any (fun y => decide (y.reeve = A.reeve) && paysB (at_ A.l v) y)), ()) := by
 intro n
 induction n with
 | zero => intros; omega
 | succ n ih =>
  intro b i h0 hm
  rw [pW_L1]
  by_cases hi : i < (A.l.length : Int)
  ·have e := fun b => ih b (i + 1) (by omega) (by omega)
   rw [if_pos hi, drop_at ⟨h0.1, hi⟩, List.any_cons]
   simp only [e]
   cases b
   ·simp only [paysB]
    by_cases k1 : (at_ A.l i).reeve = A.reeve <;> by_cases k2 : (at_ A.l i).kind = 4 <;> by_cases k3 : (at_ A.l i).by_.reeve = (at_ A.l v).reeve <;> by_cases k4 : (at_ A.l i).by_.number = (at_ A.l v).number <;> simp [k1, k2, k3, k4]
   ·simp
  ·rw [if_neg hi, drop_end hi]; simp
theorem pW_L2_n (A : pW_A) (w : World) (q : List Rf) (v : Int) : ∀ (n : Nat) (b : Bool) (i : Int), (0 ≤ i ∧ i ≤ (A.l.length : Int)) → (A.l.length : Int) - i < n → pW_L2 A w q v n b i = some (0, (b || (A.l.drop i.toNat).any (fun y => decide (y.reeve = A.reeve) && paysB (at_ A.l v) y)), ()) := by
 intro n
 induction n with
 | zero => intros; omega
 | succ n ih =>
  intro b i h0 hm
  rw [pW_L2]
  by_cases hi : i < (A.l.length : Int)
  ·have e := fun b => ih b (i + 1) (by omega) (by omega)
   rw [if_pos hi, drop_at ⟨h0.1, hi⟩, List.any_cons]
   simp only [e]
   cases b
   ·simp only [paysB]
    by_cases k1 : (at_ A.l i).reeve = A.reeve <;> by_cases k2 : (at_ A.l i).kind = 4 <;> by_cases k3 : (at_ A.l i).by_.reeve = (at_ A.l v).reeve <;> by_cases k4 : (at_ A.l i).by_.number = (at_ A.l v).number <;> simp [k1, k2, k3, k4]
   ·simp
  ·rw [if_neg hi, drop_end hi]; simp
theorem pW_L0_n (A : pW_A) (w : World) : ∀ (n : Nat) (q : List Rf) (i : Int), (0 ≤ i ∧ i ≤ (A.l.length : Int)) → (A.l.length : Int) - i < n → pW_L0 A w n q i = some (0, q ++ refsN ((A.l.drop i.toNat).filter (openR A.l A.reeve)), ()) := by
 intro n
 induction n with
 | zero => intros; omega
 | succ n ih =>
  intro q i h0 hm
  rw [pW_L0]
  by_cases hi : i < (A.l.length : Int)
  ·have e := fun q => ih q (i + 1) (by omega) (by omega)
   have e1 := pW_L1_n A w q i ((((A.l.length : Int) - 0) : Int).toNat + 1) false 0 (by omega) (by omega)
   have e2 := pW_L2_n A w q i ((((A.l.length : Int) - 0) : Int).toNat + 1) false 0 (by omega) (by omega)
   have hd : A.l.drop (0 : Int).toNat = A.l := rfl
   rw [hd, Bool.false_or] at e1 e2
   rw [if_pos hi, drop_at ⟨h0.1, hi⟩, List.filter_cons, e1, e2]
   simp only [e]
   generalize at_ A.l i = x
   by_cases ho : openR A.l A.reeve x = true
   ·rw [if_pos ho]
    simp only [openR, Bool.and_eq_true, decide_eq_true_eq, Bool.not_eq_true'] at ho
    obtain ⟨⟨a1, a2, a3, a4, a5⟩, a6⟩ := ho
    rw [if_pos a1, if_pos a2, if_pos a3, if_pos (show (findP A.l x.of).kind = 1 ∨ (findP A.l x.of).kind = 2 from a4), if_pos a5, a6, if_neg (by decide)]
    simp [refsN]
   ·rw [if_neg ho]
    by_cases a1 : x.kind = 3
    ·by_cases a2 : x.of.reeve = A.reeve
     ·by_cases a3 : findB A.l x.of = true
      ·rw [if_pos a1, if_pos a2, if_pos a3]
       by_cases a4 : (findP A.l x.of).kind = 1 ∨ (findP A.l x.of).kind = 2
       ·by_cases a5 : (findP A.l x.of).owner = x.owner
        ·by_cases a6 : (A.l.any fun y => decide (y.reeve = A.reeve) && paysB x y) = true
         ·rw [if_pos a4, if_pos a5, if_pos a6]
         ·exfalso
          apply ho
          simp only [Bool.not_eq_true] at a6
          simp only [openR, Bool.and_eq_true, decide_eq_true_eq, Bool.not_eq_true', a6]
          exact ⟨⟨a1, a2, a3, a4, a5⟩, trivial⟩
        ·rw [if_pos a4, if_neg a5]
       ·rw [if_neg a4]
      ·rw [if_pos a1, if_pos a2, if_neg a3]
     ·rw [if_pos a1, if_neg a2]
    ·rw [if_neg a1]
  ·rw [if_neg hi, drop_end hi]; simp [refsN]
theorem pW_r_n (A : pW_A) (w : World) {l : List Po} {r : Int} (hl : A.l = l) (hr : A.reeve = r) : pW_r A w = refsN (l.filter (openR l r)) := by
 unfold pW_r
 rw [pW_L0_n _ _ _ _ _ (by omega) (by omega), hl, hr]
 rfl
theorem pRUnset_n {a_l : Option Addr} {b_l o_l κ_l : Nat} {l : List Po} {w : World} (H : LstAt poC w a_l b_l o_l l) (h0 : l.length ≤ κ_l) (h1 : (l.length : Int) ≤ 1000) (r : Int) : Calls Tryz.prog 107 #[.slice a_l l.length κ_l, .int .i64 r] w fun e w' => ∃ zs : List Value, e = .returned (zs.getD 0 undef) ∧ FrAll w.heap.size w' [⟨(refsN (l.filter (openR l r)) : List Rf).flatMap rfC.f, 2, (refsN (l.filter (openR l r)) : List Rf).length⟩] zs [] ∧ Chg (fun _ => False) w w' := by
 have := pW_any ⟨a_l, b_l, o_l, κ_l, l, r⟩ w H (by show (l.length : Int) ≤ (κ_l : Int); omega) h1
 rw [pW_r_n _ w rfl rfl] at this
 exact this
structure pH_A where
 n : Int
 a_l : Option Addr
 b_l : Nat
 o_l : Nat
 κ_l : Nat
 l : List Po
 reeve : Int
def pH_r  (A : pH_A) (w : World) : List Rf × Int := (if (rrollN A.n A.l).2 = 0 then ((refsN ((A.l).filter (openR A.l A.reeve))), 0) else ([], (rrollN A.n A.l).2))
theorem pH_any  (A : pH_A) (w : World) (H_l : LstAt poC w A.a_l A.b_l A.o_l A.l) (h0 : (A.l.length : Int) ≤ (A.κ_l : Int)) (h1 : (A.l.length : Int) ≤ 1000) (h2 : -9223372036854775808 ≤ A.n ∧ A.n ≤ 9223372036854775807) : Calls Tryz.prog 35 #[.int .i64 A.n, .slice A.a_l A.l.length A.κ_l, .int .i64 A.reeve] w fun e w' => ∃ zs : List Value, e = .returned (.tuple #[(zs.getD 0 undef), .int .i64 ((pH_r A w).2)]) ∧ FrAll w.heap.size w' [⟨((pH_r A w).1 : List Rf).flatMap rfC.f, 2, ((pH_r A w).1 : List Rf).length⟩] zs [] ∧ Chg (fun _ => False) w w' := by
 unfold pH_r
 refine wGo (E := E0) (n := 8) (w := w) (L := id) ?_
 refine wS (.agg #[] :: I A.n :: .slice A.a_l A.l.length A.κ_l :: I A.reeve :: I ((rrollN A.n A.l).1) :: I ((rrollN A.n A.l).2) :: []) (wC (⟨32, [.tup [1, 2], .tup []], .tup [4, 5]⟩) (fun _ => q_cV (h := fun w hw => by exact pRRoll_n (LstAt.old H_l hw) (by omega) (by omega) (show -9223372036854775808 ≤ A.n ∧ A.n ≤ 9223372036854775807 by omega))) ?_)
 split <;> rename_i h3
 ·refine wS (Codec.flat rfC ((refsN ((A.l).filter (openR A.l A.reeve)))) :: I (((refsN ((A.l).filter (openR A.l A.reeve))).length : Int)) :: []) (wF .neq 5 (J 0) (fun h => h h3) (wM (⟨107, [2, 3], [], 8, 0, (.sls 8 2 (J 0) 7 2), [(6, 2, 7)]⟩) (fun _ => q_callN (F := fun zs => (zs.getD 0 undef)) (rs := [⟨(refsN ((A.l).filter (openR A.l A.reeve))).flatMap rfC.f, 2, (refsN ((A.l).filter (openR A.l A.reeve))).length⟩]) (.val _ _ _ _ _ rfl (.val _ _ _ _ _ rfl .nil)) rfl rfl ⟨rfl, rfl, flat_length _ _, flat_one _ _, rfl, trivial⟩ rfl (fun zs h => match zs, h with | [_], _ => rfl) (fun w xs hw hq => by obtain ⟨_, rfl, _, rfl, rfl⟩ := hq; exact pRUnset_n (LstAt.old H_l hw) (by omega) (by omega) _)) ?_))
  exact wRetL (v := .tup [.sls 8 2 (.int .i64 0) 7 2, .int .i64 0]) (rs := [⟨((refsN ((A.l).filter (openR A.l A.reeve))) : List Rf).flatMap rfC.f, 2, ((refsN ((A.l).filter (openR A.l A.reeve))) : List Rf).length⟩]) ok0 60 60 [1, 2, 3] [(8, .lst 6 2 1)] rfl rfl rfl (by kernel_rfl) ⟨⟨rfl, by decide, ⟨6, 1, rfl, rfl, .inr ⟨rfl, by decide⟩⟩, rfl, (by show some (((refsN ((A.l).filter (openR A.l A.reeve))).length : Int) : Int) = some (((refsN ((A.l).filter (openR A.l A.reeve)))).length : Int); first | (simp; done) | (refine congrArg some ?_; simp only [List.length_append, List.length_cons, List.length_nil]; omega)), rfl, flat_length _ _⟩, trivial⟩ (fun zs hz => match zs, hz with | [_], _ => rfl)
 ·refine wT .neq 5 (J 0) h3 ?_
  exact wRetL (v := .tup [.ns, 5]) (rs := [⟨([] : List Rf).flatMap rfC.f, 2, ([] : List Rf).length⟩]) ok0 60 60 [1, 2, 3] [] rfl rfl rfl (by kernel_rfl) ⟨rfl, trivial⟩ (fun zs hz => match zs, hz with | [_], _ => rfl)
theorem pH_r_n (A : pH_A) (w : World) {n r : Int} {l : List Po} (hn : A.n = n) (hl : A.l = l) (hr : A.reeve = r) : pH_r A w = (runsetTN n l r, (rollN n l).2) := by
 unfold pH_r runsetTN
 rw [hn, hl, hr, rroll_same]
 by_cases h : (rollN n l).2 = 0
 ·simp only [h, if_true]
 ·simp only [if_neg h]
theorem pRUnsetT_n {n : Int} {a_l : Option Addr} {b_l o_l κ_l : Nat} {l : List Po} {w : World} (H : LstAt poC w a_l b_l o_l l) (h0 : l.length ≤ κ_l) (h1 : (l.length : Int) ≤ 1000) (h2 : -9223372036854775808 ≤ n ∧ n ≤ 9223372036854775807) (r : Int) : Calls Tryz.prog 35 #[.int .i64 n, .slice a_l l.length κ_l, .int .i64 r] w fun e w' => ∃ zs : List Value, e = .returned (.tuple #[(zs.getD 0 undef), .int .i64 ((rollN n l).2)]) ∧ FrAll w.heap.size w' [⟨(runsetTN n l r : List Rf).flatMap rfC.f, 2, (runsetTN n l r : List Rf).length⟩] zs [] ∧ Chg (fun _ => False) w w' := by
 have := pH_any ⟨n, a_l, b_l, o_l, κ_l, l, r⟩ w H (by show (l.length : Int) ≤ (κ_l : Int); omega) h1 h2
 rw [pH_r_n _ w rfl rfl rfl] at this
 exact this
structure pN_A where
 a_x : Option Addr
 b_x : Nat
 o_x : Nat
 κ_x : Nat
 x : List Rf
 a_y : Option Addr
 b_y : Nat
 o_y : Nat
 κ_y : Nat
 y : List Rf
def pN_L0_H : Head := (⟨[(0, 1), (1, 2), (4, .bool false), (5, 5), (6, 1), (7, 3), (8, 2), (9, 4), (10, .bool false)], [], 8, 8, 0, 0, 5, 6⟩ : Head)
def pN_L0_R : Rn := ⟨8, [], 0, [], 5, [.int .i64 0]⟩
def pN_L0_B  (A : pN_A) (w : World) (R : List Value) : List Value := .agg #[] :: .slice A.a_x A.x.length A.κ_x :: .slice A.a_y A.y.length A.κ_y :: .int .i64 (A.x.length : Int) :: .int .i64 (A.y.length : Int) :: R
def pN_L0_X0 : Head := (⟨[(0, 1), (1, 2), (4, .bool false), (6, 1), (7, 3), (8, 2), (9, 4), (10, .bool false)], [], 8, 8, 0, 0, 5, 5⟩ : Head)
def pN_L0_X1 : Head := (⟨[(0, 1), (1, 2), (4, .bool false), (6, 1), (7, 3), (8, 2), (9, 4), (10, .bool false)], [], 8, 8, 0, 0, 5, 5⟩ : Head)
def pN_L0  (A : pN_A) (w : World) : Nat → Int → Option (Nat × Unit)
 | 0, _ => none
 | fu_ + 1, v00 => (if v00 < (A.x.length : Int) then (if (at_ A.x v00).reeve = (at_ A.y v00).reeve then (if (at_ A.x v00).number = (at_ A.y v00).number then pN_L0 A w fu_ (v00 + 1) else some (0, ())) else some (0, ())) else some (1, ()))
def pN_r  (A : pN_A) (w : World) : Bool := (if (A.x.length : Int) = (A.y.length : Int) then (match pN_L0 A w ((((A.x.length : Int) - 0) : Int).toNat + 1) 0 with | some (0, _) => false | some (1, _) => true | _ => default) else false)
theorem pN_any  (A : pN_A) (w : World) (H_x : LstAt rfC w A.a_x A.b_x A.o_x A.x) (H_y : LstAt rfC w A.a_y A.b_y A.o_y A.y) (h0 : (A.x.length : Int) ≤ (A.κ_x : Int)) (h1 : (A.y.length : Int) ≤ (A.κ_y : Int)) (h2 : (A.x.length : Int) ≤ 1000) (h3 : (A.y.length : Int) ≤ 1000) : Calls Tryz.prog 37 #[.slice A.a_x A.x.length A.κ_x, .slice A.a_y A.y.length A.κ_y] w fun e w' => e = .returned (.bool (pN_r A w)) ∧ Chg (fun _ => False) w w' := by
 unfold pN_r
 refine wGo (E := E0) (n := 8) (w := w) (L := id) ?_
 refine wS (.agg #[] :: .slice A.a_x A.x.length A.κ_x :: .slice A.a_y A.y.length A.κ_y :: I (A.x.length : Int) :: I (A.y.length : Int) :: []) (wN 65 1 3 (wN 65 2 4 ?_))
 split <;> rename_i h4
 ·refine wF .neq 3 4 (fun h => h h4) ?_
  refine wK (K := ∀ (fu_ : Nat) (v00 : Int), (0 ≤ v00 ∧ v00 ≤ (A.x.length : Int) ∧ v00 ≤ (A.y.length : Int)) → (((A.x.length : Int) - v00) : Int) < fu_ → ∃ o, pN_L0 A w fu_ v00 = some o ∧ RdsD Tryz.prog 8 37 4 w pN_L0_H (pN_L0_B A w [.int .i64 v00]) fu_ [(o.1 = 0 ∧ True, pN_L0_X0, pN_L0_B A w [], .ret), (o.1 = 1 ∧ True, pN_L0_X1, pN_L0_B A w [], (.exit 0))]) (fun hq hc hm hp fu_ => ?_) (fun key5 => ?_)
  ·induction fu_ with
   | zero => intro v00 _ hz; exfalso; omega
   | succ fu_ ih =>
    intro v00 h5 hz
    rw [pN_L0]
    refine wB hq hc hm hp ?_
    refine wS (I v00 :: []) ?_
    split <;> rename_i h6
    ·refine wS (.pointer (some ⟨A.b_x, A.o_x + (v00 : Int).toNat * 2, none⟩) :: I ((at_ A.x v00).reeve) :: I ((at_ A.x v00).number) :: .pointer (some ⟨A.b_y, A.o_y + (v00 : Int).toNat * 2, none⟩) :: I ((at_ A.y v00).reeve) :: I ((at_ A.y v00).number) :: []) (wT .lss 5 3 h6 (wX 65 1 5 6 H_x 2 v00 (wR 23 6 [7, 8] H_x v00 (wX 65 2 5 9 H_y 2 v00 (wR 23 9 [10, 11] H_y v00 ?_)))))
     split <;> rename_i h7
     ·refine wU 7 10 h7 ?_
      split <;> rename_i h8
      ·refine wS (I (v00 + 1) :: []) (wU 8 11 h8 (wA 5 (J 1) 12 ?_))
       exact wQ (rnG (ih (v00 + 1) (by omega) (by omega))) 6 ⟨8, [], 0, [], 5, [12]⟩ [] ⟨rfl, trivial⟩
      ·refine wV 8 11 h8 ?_
       exact wQ (fun hr => ⟨(0, ()), rfl, Or.inl ⟨⟨rfl, trivial⟩, rndEnd xeR hr⟩⟩) 6 ⟨8, [], 0, [], 5, []⟩ [] trivial
     ·refine wV 7 10 h7 ?_
      exact wQ (fun hr => ⟨(0, ()), rfl, Or.inl ⟨⟨rfl, trivial⟩, rndEnd xeR hr⟩⟩) 6 ⟨8, [], 0, [], 5, []⟩ [] trivial
    ·refine wF .lss 5 3 h6 ?_
     exact wQ (fun hr => ⟨(1, ()), rfl, Or.inr (⟨⟨rfl, trivial⟩, rndEnd xeE hr⟩)⟩) 6 ⟨8, [], 0, [], 5, []⟩ [] trivial
  obtain ⟨⟨q5, _⟩, h5, hk5⟩ := key5 ((((A.x.length : Int) - 0) : Int).toNat + 1) 0 (by first | trivial | omega | (simp; omega)) (by first | omega | (simp; omega))
  rw [h5]
  rcases hk5 with ⟨⟨he5, h6⟩, hr5⟩ | ⟨⟨he5, h6⟩, hr5⟩
  ·have he5 : q5 = 0 := he5
   subst he5
   try simp only []
   refine wLp (x := .ret) rfl hr5 pN_L0_R [] (fun _ => rfl) (by kernel_rfl) (fun _ => rfl) (fun _ => ⟨rfl, trivial⟩) (fun _ => rfl) ?_
   exact wZ (.bool false) [1, 2]
  ·have he5 : q5 = 1 := he5
   subst he5
   try simp only []
   refine wLp (x := (.exit 0)) rfl hr5 pN_L0_R [] (fun _ => rfl) (by kernel_rfl) (fun _ => rfl) (fun _ => ⟨rfl, trivial⟩) (fun _ => rfl) ?_
   exact wZ (.bool true) [1, 2]
 ·refine wT .neq 3 4 h4 ?_
  exact wZ (.bool false) [1, 2]
theorem pN_L0_n (A : pN_A) (w : World) (hl : A.x.length = A.y.length) : ∀ (n : Nat) (i : Int), (0 ≤ i ∧ i ≤ (A.x.length : Int)) → (A.x.length : Int) - i < n → pN_L0 A w n i = if A.x.drop i.toNat = A.y.drop i.toNat then some (1, ()) else some (0, ()) := by
 intro n
 induction n with
 | zero => intros; omega
 | succ n ih =>
  intro i h0 hm
  rw [pN_L0]
  by_cases hi : i < (A.x.length : Int)
  ·rw [if_pos hi, drop_at ⟨h0.1, hi⟩, drop_at (l := A.y) ⟨h0.1, by omega⟩, ih (i + 1) (by omega) (by omega)]
   by_cases h1 : (at_ A.x i).reeve = (at_ A.y i).reeve
   ·by_cases h2 : (at_ A.x i).number = (at_ A.y i).number
    ·have e : at_ A.x i = at_ A.y i := by
      cases hx : at_ A.x i; cases hy : at_ A.y i
      rw [hx, hy] at h1 h2
      simp only at h1 h2
      rw [h1, h2]
     rw [if_pos h1, if_pos h2, e]
     simp only [List.cons.injEq, true_and]
    ·rw [if_pos h1, if_neg h2, if_neg (by intro h; injection h with h _; exact h2 (by rw [h]))]
   ·rw [if_neg h1, if_neg (by intro h; injection h with h _; exact h1 (by rw [h]))]
  ·rw [if_neg hi, drop_end hi, drop_end (l := A.y) (by omega)]; rfl
theorem pN_r_n (A : pN_A) (w : World) : pN_r A w = decide (A.x = A.y) := by
 unfold pN_r
 by_cases h : (A.x.length : Int) = (A.y.length : Int)
 ·rw [if_pos h, pN_L0_n A w (by omega) _ _ (by omega) (by omega)]
  show (match (if A.x = A.y then some (1, ()) else some (0, ())) with | some (0, _) => false | some (1, _) => true | _ => default) = _
  by_cases e : A.x = A.y <;> simp [e]
 ·rw [if_neg h]
  symm
  exact decide_eq_false (by intro e; rw [e] at h; exact h rfl)
theorem pSameRefs_n {a_x a_y : Option Addr} {b_x o_x κ_x b_y o_y κ_y : Nat} {x y : List Rf} {w : World} (H : LstAt rfC w a_x b_x o_x x) (H2 : LstAt rfC w a_y b_y o_y y) (h0 : x.length ≤ κ_x) (g0 : y.length ≤ κ_y) (h1 : (x.length : Int) ≤ 1000) (h2 : (y.length : Int) ≤ 1000) : Calls Tryz.prog 37 #[.slice a_x x.length κ_x, .slice a_y y.length κ_y] w fun e w' => e = .returned (.bool (decide (x = y))) ∧ Chg (fun _ => False) w w' := by
 have := pN_any ⟨a_x, b_x, o_x, κ_x, x, a_y, b_y, o_y, κ_y, y⟩ w H H2 (by show (x.length : Int) ≤ (κ_x : Int); omega) (by show (y.length : Int) ≤ (κ_y : Int); omega) h1 h2
 rw [pN_r_n] at this
 exact this
end Go.Proofs.YtocabeobfbhajaaGreatDoor.Sx
end
