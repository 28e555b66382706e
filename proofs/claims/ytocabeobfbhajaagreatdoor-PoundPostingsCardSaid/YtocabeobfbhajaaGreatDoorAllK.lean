/- Parts of the proof. -/
import Derived.Test.YtocabeobfbhajaaGreatDoorAllE
import Derived.Test.YtocabeobfbhajaaGreatDoorAllG
import Derived.Test.YtocabeobfbhajaaGreatDoorQpRead
import Derived.Test.YtocabeobfbhajaaGreatDoorAllI
import Derived.Test.YtocabeobfbhajaaGreatDoorImp
import Derived.Test.YtocabeobfbhajaaGreatDoorRows
import Derived.Lib.LaidTab
import Derived.Lib.LaidU8
import Derived.LaidSub
import Derived.MakeChecks
import Derived.Shelf.Vars
import Derived.HandedShaped
import Derived.ProofKit
set_option linter.unusedVariables false
set_option linter.unusedSimpArgs false
set_option linter.unusedSectionVars false
section
set_option maxRecDepth 100000
set_option maxHeartbeats 0
namespace Go.Proofs.YtocabeobfbhajaaGreatDoor.Sx
open Go Go.Proofs Go.Proofs.YtocabeobfbhajaaGreatDoor Go.Proofs.YtocabeobfbhajaaGreatDoor.Sx
structure pPostings_A where
 n : Int
 p : Po
 s : ByteArray
noncomputable def pPostings_r  (A : pPostings_A) (w : World) : Bool := (if 300 < ((A.s).size : Int) then true else (if (writeN A.n A.p).1 = (writeN A.n A.p).1 then (if (writeN A.n A.p).2 = 0 then (if ((readN A.n ((writeN A.n A.p).1)).2) = 0 then (if ((readN A.n ((writeN A.n A.p).1)).1.reeve) = A.p.reeve then (if ((readN A.n ((writeN A.n A.p).1)).1.number) = A.p.number then (if ((readN A.n ((writeN A.n A.p).1)).1.tick) = A.p.tick then (if ((readN A.n ((writeN A.n A.p).1)).1.kind) = A.p.kind then (if ((readN A.n ((writeN A.n A.p).1)).1.cse) = A.p.cse then (if ((readN A.n ((writeN A.n A.p).1)).1.owner) = A.p.owner then (if ((readN A.n ((writeN A.n A.p).1)).1.of.reeve) = A.p.of.reeve then (if ((readN A.n ((writeN A.n A.p).1)).1.of.number) = A.p.of.number then (if ((readN A.n ((writeN A.n A.p).1)).1.by_.reeve) = A.p.by_.reeve then (if ((readN A.n ((writeN A.n A.p).1)).1.by_.number) = A.p.by_.number then (if ((readN A.n ((writeN A.n A.p).1)).1.amount) = A.p.amount then (if (readN A.n A.s).2 = 0 then (if ((writeN A.n ((readN A.n A.s).1)).2) = 0 then (if ((writeN A.n ((readN A.n A.s).1)).1) = A.s then true else false) else false) else true) else false) else false) else false) else false) else false) else false) else false) else false) else false) else false) else false) else false) else (if (readN A.n A.s).2 = 0 then (if ((writeN A.n ((readN A.n A.s).1)).2) = 0 then (if ((writeN A.n ((readN A.n A.s).1)).1) = A.s then true else false) else false) else true)) else false))
theorem pPostings_any  (A : pPostings_A) (w : World) (HS : StrW w) (h0 : -9223372036854775808 ≤ A.n ∧ A.n ≤ 9223372036854775807) (h1 : 0 ≤ A.p.kind ∧ A.p.kind ≤ 255) : Calls Tryz.prog 3 #[.int .i64 A.n, A.p.val, .string A.s] w fun e w' => e = .returned (.bool (pPostings_r A w)) ∧ Chg (fun _ => False) w w' := by
 unfold pPostings_r
 refine wGo (E := E0) (n := 8) (w := w) (L := id) ?_
 refine wS (.agg #[] :: I A.n :: poV A.p ++ .string A.s :: I (((A.s).size : Int)) :: []) (wE (⟨6000000000 + 9, [13], 14⟩) (fun _ => q_lenStr rfl rfl rfl (by kernel_rfl)) ?_)
 by_cases h2 : 300 < ((A.s).size : Int)
 ·rw [if_pos h2]
  refine wT .gtr 14 (J 300) h2 (wC (⟨14, [.tup [], .tup []], .bool true⟩) (fun _ => q_cV (h := fun w hw => by exact impounded_any w)) ?_)
  exact wZ (.bool true) [1, .agg [2, 3, 4, 5, 6, 7, 8, 9, 10, 11, 12], 13]
 ·rw [if_neg h2]
  have h3 : (((writeN A.n A.p).1).size : Int) ≤ 100 := writeN_size _ _
  have h4 : (((writeN A.n A.p).1).size : Int) ≤ 100 := writeN_size _ _
  refine wS (.string ((writeN A.n A.p).1) :: I ((writeN A.n A.p).2) :: .string ((writeN A.n A.p).1) :: I ((writeN A.n A.p).2) :: poV ((readN A.n A.s).1) ++ I ((readN A.n A.s).2) :: poV ((readN A.n A.s).1) ++ I ((readN A.n A.s).2) :: []) (wF .gtr 14 (J 300) h2 (wC (⟨15, [.tup [1, .agg [2, 3, 4, 5, 6, 7, 8, 9, 10, 11, 12]], .tup []], .tup [15, 16]⟩) (fun _ => q_cV (h := fun w hw => by exact pWrite_n (HS.old hw) _ _)) (wC (⟨16, [.tup [1, .agg [2, 3, 4, 5, 6, 7, 8, 9, 10, 11, 12]], .tup []], .tup [17, 18]⟩) (fun _ => q_cV (h := fun w hw => by exact pRWrite_n _ _ _)) (wC (⟨17, [.tup [1, 13], .tup []], .tup [.agg [19, 20, 21, 22, 23, 24, 25, 26, 27, 28, 29], 30]⟩) (fun _ => q_cV (h := fun w hw => by exact pRead_n (HS.old hw) _ _ (show ((A.s).size : Int) ≤ 300 by omega))) (wC (⟨18, [.tup [1, 13], .tup []], .tup [.agg [31, 32, 33, 34, 35, 36, 37, 38, 39, 40, 41], 42]⟩) (fun _ => q_cV (h := fun w hw => by exact pRRead_n _ _ (show ((A.s).size : Int) ≤ 300 by omega))) ?_)))))
  by_cases h5 : (writeN A.n A.p).1 = (writeN A.n A.p).1
  ·rw [if_pos h5]
   refine wS (I (checkN A.n A.p) :: I (checkN A.n A.p) :: I (debitN A.p) :: I (creditN A.p) :: I (amountN A.p) :: I (debitN A.p) :: I (creditN A.p) :: I (amountN A.p) :: []) (wE (⟨tagB .neq, [15, 17], .bool false⟩) (fun _ => q_sne_f rfl rfl h5) (wF .neq 16 18 (fun h => h (show (writeN A.n A.p).2 = (writeN A.n A.p).2 by omega)) (wU 19 31 (show (readN A.n A.s).1.reeve = (readN A.n A.s).1.reeve by omega) (wU 20 32 (show (readN A.n A.s).1.number = (readN A.n A.s).1.number by omega) (wU 21 33 (show (readN A.n A.s).1.tick = (readN A.n A.s).1.tick by omega) (wU 22 34 (show (readN A.n A.s).1.kind = (readN A.n A.s).1.kind by omega) (wU 23 35 (show (readN A.n A.s).1.cse = (readN A.n A.s).1.cse by omega) (wU 24 36 (show (readN A.n A.s).1.owner = (readN A.n A.s).1.owner by omega) (wU 25 37 (show (readN A.n A.s).1.of.reeve = (readN A.n A.s).1.of.reeve by omega) (wU 26 38 (show (readN A.n A.s).1.of.number = (readN A.n A.s).1.of.number by omega) (wU 27 39 (show (readN A.n A.s).1.by_.reeve = (readN A.n A.s).1.by_.reeve by omega) (wU 28 40 (show (readN A.n A.s).1.by_.number = (readN A.n A.s).1.by_.number by omega) (wU 29 41 (show (readN A.n A.s).1.amount = (readN A.n A.s).1.amount by omega) (wF .neq 30 42 (fun h => h (show (readN A.n A.s).2 = (readN A.n A.s).2 by omega)) (wF .neq 43 44 (fun h => h (show (checkN A.n A.p) = (checkN A.n A.p) by omega)) (wU 45 48 (show (debitN A.p) = (debitN A.p) by omega) (wU 46 49 (show (creditN A.p) = (creditN A.p) by omega) (wU 47 50 (show (amountN A.p) = (amountN A.p) by omega) (wC (⟨19, [.tup [1, .agg [2, 3, 4, 5, 6, 7, 8, 9, 10, 11, 12]], .tup []], 43⟩) (fun _ => q_cV (h := fun w hw => by exact pCheck_n _ _ _)) (wC (⟨20, [.tup [1, .agg [2, 3, 4, 5, 6, 7, 8, 9, 10, 11, 12]], .tup []], 44⟩) (fun _ => q_cV (h := fun w hw => by exact rCheck_n _ _ _)) (wC (⟨21, [.tup [.agg [2, 3, 4, 5, 6, 7, 8, 9, 10, 11, 12]], .tup []], .agg [45, 46, 47]⟩) (fun _ => q_cV (h := fun w hw => by exact pTransfer_n _ _ (show 0 ≤ (A.p).kind ∧ (A.p).kind ≤ 255 by omega))) (wC (⟨22, [.tup [.agg [2, 3, 4, 5, 6, 7, 8, 9, 10, 11, 12]], .tup []], .agg [48, 49, 50]⟩) (fun _ => q_cV (h := fun w hw => by exact pRTransfer_n _ _ (show 0 ≤ (A.p).kind ∧ (A.p).kind ≤ 255 by omega))) ?_))))))))))))))))))))))
   by_cases h6 : (writeN A.n A.p).2 = 0
   ·rw [if_pos h6]
    refine wS (I (((readN A.n ((writeN A.n A.p).1)).1.reeve)) :: I (((readN A.n ((writeN A.n A.p).1)).1.number)) :: I (((readN A.n ((writeN A.n A.p).1)).1.tick)) :: .int .u8 (((readN A.n ((writeN A.n A.p).1)).1.kind)) :: I (((readN A.n ((writeN A.n A.p).1)).1.cse)) :: I (((readN A.n ((writeN A.n A.p).1)).1.owner)) :: I (((readN A.n ((writeN A.n A.p).1)).1.of.reeve)) :: I (((readN A.n ((writeN A.n A.p).1)).1.of.number)) :: I (((readN A.n ((writeN A.n A.p).1)).1.by_.reeve)) :: I (((readN A.n ((writeN A.n A.p).1)).1.by_.number)) :: I (((readN A.n ((writeN A.n A.p).1)).1.amount)) :: I (((readN A.n ((writeN A.n A.p).1)).2)) :: []) (wT .eql 16 (J 0) h6 (wC (⟨17, [.tup [1, 15], .tup []], .tup [.agg [51, 52, 53, 54, 55, 56, 57, 58, 59, 60, 61], 62]⟩) (fun _ => q_cV (h := fun w hw => by exact pRead_n (HS.old hw) _ _ (show ((((writeN A.n A.p).1)).size : Int) ≤ 300 by omega))) ?_))
    by_cases h7 : ((readN A.n ((writeN A.n A.p).1)).2) = 0
    ·rw [if_pos h7]
     refine wF .neq 62 (J 0) (fun h => h h7) ?_
     by_cases h8 : ((readN A.n ((writeN A.n A.p).1)).1.reeve) = A.p.reeve
     ·rw [if_pos h8]
      refine wU 51 2 h8 ?_
      by_cases h9 : ((readN A.n ((writeN A.n A.p).1)).1.number) = A.p.number
      ·rw [if_pos h9]
       refine wU 52 3 h9 ?_
       by_cases h10 : ((readN A.n ((writeN A.n A.p).1)).1.tick) = A.p.tick
       ·rw [if_pos h10]
        refine wU 53 4 h10 ?_
        by_cases h11 : ((readN A.n ((writeN A.n A.p).1)).1.kind) = A.p.kind
        ·rw [if_pos h11]
         refine wU 54 5 h11 ?_
         by_cases h12 : ((readN A.n ((writeN A.n A.p).1)).1.cse) = A.p.cse
         ·rw [if_pos h12]
          refine wU 55 6 h12 ?_
          by_cases h13 : ((readN A.n ((writeN A.n A.p).1)).1.owner) = A.p.owner
          ·rw [if_pos h13]
           refine wU 56 7 h13 ?_
           by_cases h14 : ((readN A.n ((writeN A.n A.p).1)).1.of.reeve) = A.p.of.reeve
           ·rw [if_pos h14]
            refine wU 57 8 h14 ?_
            by_cases h15 : ((readN A.n ((writeN A.n A.p).1)).1.of.number) = A.p.of.number
            ·rw [if_pos h15]
             refine wU 58 9 h15 ?_
             by_cases h16 : ((readN A.n ((writeN A.n A.p).1)).1.by_.reeve) = A.p.by_.reeve
             ·rw [if_pos h16]
              refine wU 59 10 h16 ?_
              by_cases h17 : ((readN A.n ((writeN A.n A.p).1)).1.by_.number) = A.p.by_.number
              ·rw [if_pos h17]
               refine wU 60 11 h17 ?_
               by_cases h18 : ((readN A.n ((writeN A.n A.p).1)).1.amount) = A.p.amount
               ·rw [if_pos h18]
                refine wU 61 12 h18 ?_
                by_cases h19 : (readN A.n A.s).2 = 0
                ·rw [if_pos h19]
                 have h20 : (((writeN A.n ((readN A.n A.s).1)).1).size : Int) ≤ 100 := writeN_size _ _
                 refine wS (.string (((writeN A.n ((readN A.n A.s).1)).1)) :: I (((writeN A.n ((readN A.n A.s).1)).2)) :: []) (wT .eql 30 (J 0) h19 (wC (⟨15, [.tup [1, .agg [19, 20, 21, 22, 23, 24, 25, 26, 27, 28, 29]], .tup []], .tup [63, 64]⟩) (fun _ => q_cV (h := fun w hw => by exact pWrite_n (HS.old hw) _ _)) ?_))
                 by_cases h21 : ((writeN A.n ((readN A.n A.s).1)).2) = 0
                 ·rw [if_pos h21]
                  refine wF .neq 64 (J 0) (fun h => h h21) ?_
                  by_cases h22 : ((writeN A.n ((readN A.n A.s).1)).1) = A.s
                  ·rw [if_pos h22]
                   refine wE (⟨tagB .neq, [63, 13], .bool false⟩) (fun _ => q_sne_f rfl rfl h22) (wC (⟨14, [.tup [], .tup []], .bool true⟩) (fun _ => q_cV (h := fun w hw => by exact impounded_any w)) ?_)
                   exact wZ (.bool true) [1, .agg [2, 3, 4, 5, 6, 7, 8, 9, 10, 11, 12], 13]
                  ·rw [if_neg h22]
                   refine wE (⟨tagB .neq, [63, 13], .bool true⟩) (fun _ => q_sne_t rfl rfl h22) ?_
                   exact wZ (.bool false) [1, .agg [2, 3, 4, 5, 6, 7, 8, 9, 10, 11, 12], 13]
                 ·rw [if_neg h21]
                  refine wT .neq 64 (J 0) h21 ?_
                  exact wZ (.bool false) [1, .agg [2, 3, 4, 5, 6, 7, 8, 9, 10, 11, 12], 13]
                ·rw [if_neg h19]
                 refine wF .eql 30 (J 0) h19 (wC (⟨14, [.tup [], .tup []], .bool true⟩) (fun _ => q_cV (h := fun w hw => by exact impounded_any w)) ?_)
                 exact wZ (.bool true) [1, .agg [2, 3, 4, 5, 6, 7, 8, 9, 10, 11, 12], 13]
               ·rw [if_neg h18]
                refine wV 61 12 h18 ?_
                exact wZ (.bool false) [1, .agg [2, 3, 4, 5, 6, 7, 8, 9, 10, 11, 12], 13]
              ·rw [if_neg h17]
               refine wV 60 11 h17 ?_
               exact wZ (.bool false) [1, .agg [2, 3, 4, 5, 6, 7, 8, 9, 10, 11, 12], 13]
             ·rw [if_neg h16]
              refine wV 59 10 h16 ?_
              exact wZ (.bool false) [1, .agg [2, 3, 4, 5, 6, 7, 8, 9, 10, 11, 12], 13]
            ·rw [if_neg h15]
             refine wV 58 9 h15 ?_
             exact wZ (.bool false) [1, .agg [2, 3, 4, 5, 6, 7, 8, 9, 10, 11, 12], 13]
           ·rw [if_neg h14]
            refine wV 57 8 h14 ?_
            exact wZ (.bool false) [1, .agg [2, 3, 4, 5, 6, 7, 8, 9, 10, 11, 12], 13]
          ·rw [if_neg h13]
           refine wV 56 7 h13 ?_
           exact wZ (.bool false) [1, .agg [2, 3, 4, 5, 6, 7, 8, 9, 10, 11, 12], 13]
         ·rw [if_neg h12]
          refine wV 55 6 h12 ?_
          exact wZ (.bool false) [1, .agg [2, 3, 4, 5, 6, 7, 8, 9, 10, 11, 12], 13]
        ·rw [if_neg h11]
         refine wV 54 5 h11 ?_
         exact wZ (.bool false) [1, .agg [2, 3, 4, 5, 6, 7, 8, 9, 10, 11, 12], 13]
       ·rw [if_neg h10]
        refine wV 53 4 h10 ?_
        exact wZ (.bool false) [1, .agg [2, 3, 4, 5, 6, 7, 8, 9, 10, 11, 12], 13]
      ·rw [if_neg h9]
       refine wV 52 3 h9 ?_
       exact wZ (.bool false) [1, .agg [2, 3, 4, 5, 6, 7, 8, 9, 10, 11, 12], 13]
     ·rw [if_neg h8]
      refine wV 51 2 h8 ?_
      exact wZ (.bool false) [1, .agg [2, 3, 4, 5, 6, 7, 8, 9, 10, 11, 12], 13]
    ·rw [if_neg h7]
     refine wT .neq 62 (J 0) h7 ?_
     exact wZ (.bool false) [1, .agg [2, 3, 4, 5, 6, 7, 8, 9, 10, 11, 12], 13]
   ·rw [if_neg h6]
    refine wF .eql 16 (J 0) h6 ?_
    by_cases h7 : (readN A.n A.s).2 = 0
    ·rw [if_pos h7]
     have h8 : (((writeN A.n ((readN A.n A.s).1)).1).size : Int) ≤ 100 := writeN_size _ _
     refine wS (.string (((writeN A.n ((readN A.n A.s).1)).1)) :: I (((writeN A.n ((readN A.n A.s).1)).2)) :: []) (wT .eql 30 (J 0) h7 (wC (⟨15, [.tup [1, .agg [19, 20, 21, 22, 23, 24, 25, 26, 27, 28, 29]], .tup []], .tup [51, 52]⟩) (fun _ => q_cV (h := fun w hw => by exact pWrite_n (HS.old hw) _ _)) ?_))
     by_cases h9 : ((writeN A.n ((readN A.n A.s).1)).2) = 0
     ·rw [if_pos h9]
      refine wF .neq 52 (J 0) (fun h => h h9) ?_
      by_cases h10 : ((writeN A.n ((readN A.n A.s).1)).1) = A.s
      ·rw [if_pos h10]
       refine wE (⟨tagB .neq, [51, 13], .bool false⟩) (fun _ => q_sne_f rfl rfl h10) (wC (⟨14, [.tup [], .tup []], .bool true⟩) (fun _ => q_cV (h := fun w hw => by exact impounded_any w)) ?_)
       exact wZ (.bool true) [1, .agg [2, 3, 4, 5, 6, 7, 8, 9, 10, 11, 12], 13]
      ·rw [if_neg h10]
       refine wE (⟨tagB .neq, [51, 13], .bool true⟩) (fun _ => q_sne_t rfl rfl h10) ?_
       exact wZ (.bool false) [1, .agg [2, 3, 4, 5, 6, 7, 8, 9, 10, 11, 12], 13]
     ·rw [if_neg h9]
      refine wT .neq 52 (J 0) h9 ?_
      exact wZ (.bool false) [1, .agg [2, 3, 4, 5, 6, 7, 8, 9, 10, 11, 12], 13]
    ·rw [if_neg h7]
     refine wF .eql 30 (J 0) h7 (wC (⟨14, [.tup [], .tup []], .bool true⟩) (fun _ => q_cV (h := fun w hw => by exact impounded_any w)) ?_)
     exact wZ (.bool true) [1, .agg [2, 3, 4, 5, 6, 7, 8, 9, 10, 11, 12], 13]
  ·rw [if_neg h5]
   refine wE (⟨tagB .neq, [15, 17], .bool true⟩) (fun _ => q_sne_t rfl rfl h5) ?_
   exact wZ (.bool false) [1, .agg [2, 3, 4, 5, 6, 7, 8, 9, 10, 11, 12], 13]
theorem pPostings_r_n (A : pPostings_A) (w : World) : pPostings_r A w = true := by
 have k1 : (writeN A.n A.p).2 = 0 → readN A.n (writeN A.n A.p).1 = (A.p, 0) := fun h => by
  rw [(write_ok h).2]
  exact readN_line (write_ok h).1 w
 have k2 : (readN A.n A.s).2 = 0 → writeN A.n (readN A.n A.s).1 = (A.s, 0) := fun h => by
  rw [writeN_ok (readN_ok h).1, (readN_ok h).2]
 unfold pPostings_r
 by_cases hs : 300 < ((A.s).size : Int)
 ·rw [if_pos hs]
 rw [if_neg hs, if_pos rfl]
 by_cases hw : (writeN A.n A.p).2 = 0
 ·rw [if_pos hw]
  simp only [k1 hw, if_true]
  by_cases hr : (readN A.n A.s).2 = 0
  ·simp only [hr, k2 hr, if_true]
  ·rw [if_neg hr]
 ·rw [if_neg hw]
  by_cases hr : (readN A.n A.s).2 = 0
  ·simp only [hr, k2 hr, if_true]
  ·rw [if_neg hr]
theorem postings_walk {w : World} (H : StrW w) (n : Int) (p : Po) (s : ByteArray) (hn : -9223372036854775808 ≤ n ∧ n ≤ 9223372036854775807) (hk : 0 ≤ p.kind ∧ p.kind ≤ 255) : Calls Tryz.prog 3 #[.int .i64 n, p.val, .string s] w fun e w' => e = .returned (.bool true) ∧ Chg (fun _ => False) w w' := by
 have := pPostings_any ⟨n, p, s⟩ w H hn hk
 rw [pPostings_r_n] at this
 exact this
end Go.Proofs.YtocabeobfbhajaaGreatDoor.Sx
end
section
namespace Go.Proofs.YtocabeobfbhajaaGreatDoor.Sx
open Go
def isIf : Option TypeDesc → Bool
 | some (.interface _) => true
 | _ => false
theorem iface_of {P : Program} {w : World} {n nm : String} {g g' : Nat} {t t' : TypeId} {cs : Array Value} {fuel : Nat} {d : DataW Unit} {p : List MemPlace} (hg : P.globalNamed n = some g) (ht : (P.globals[g]?).map (·.type) = some t) (hu : isIf (P.underlying t) = true)
  (h1 : P.globalNamed n = some g') (h2 : (P.globals[g']?).map (·.type) = some t') (h3 : w.var? P n = some cs) (h4 : DataW.trod (fun _ => ()) P w 0 (fun _ => true) false fuel t' cs.toList = some (.iface nm d, p)) : ∃ t v, w.cell? ⟨g, 0, none⟩ = some (.iface t v) := by
 obtain rfl := Option.some.inj (hg.symm.trans h1)
 obtain rfl := Option.some.inj (ht.symm.trans h2)
 obtain ⟨ms, hu⟩ : ∃ ms, P.underlying t = some (.interface ms) := by
  cases h : P.underlying t with
  | none => rw [h] at hu; cases hu
  | some d => rw [h] at hu; cases d <;> first | exact ⟨_, rfl⟩ | cases hu
 cases fuel with
 | zero => cases h4
 | succ fuel =>
  have key : ∃ u v, cs.toList = [.iface u v] := by
   unfold DataW.trod at h4
   rcases hc : cs.toList with _ | ⟨v, _ | ⟨x, r⟩⟩
   ·rw [hc] at h4; simp [hu] at h4
   ·rw [hc] at h4
    cases v <;> first | exact ⟨_, _, rfl⟩ | (simp [hu] at h4)
   ·rw [hc] at h4
    cases v <;> simp [hu] at h4
  obtain ⟨u, v, hc⟩ := key
  refine ⟨u, v, ?_⟩
  rw [World.var?_cell hg h3 0, ← Array.getElem?_toList, hc]
  rfl
variable {H : Type} {enc : TypeId × Value → H}
theorem handed_and_shaped {a : Assume} {C : Checked} {os : Os} {f : FuncId} {fn : Func} {s : ChangeSpec} {conds : List PathCond} {apart fresh handsOn again : Bool} {X : World → Array Value → Prop}
  (hX : ∀ (w w' : World) (args : Array Value), w.heap = w'.heap → X w args → X w' args)
  (own : ownKnob C.prog.godebug = none) (started : os.Started) (noInit : C.prog.inits.idxOf? f = none) (hfn : C.prog.funcs[f]? = some fn)
  (witness : ∃ (w : World) (tape : Tape) (i : Input), w.os = os ∧ (w.forCall tape i).Shaped C.prog ∧ i.vars = [] ∧ Input.okWide C.prog (w.forCall tape i) .any w.heap.size f i ∧
   ((s.pre enc C.prog fn conds apart (w.forCall tape i).memory i.args ∧ X (w.forCall tape i).memory i.args) ∧ sizedMet enc C.prog fn (OpenSpec.ofChange s) apart (w.forCall tape i).memory i.args) ∧ a.holds C.prog (lone (Frame.enter C.prog f i.args .normal) [] (w.forCall tape i)))
  (contract : ∀ (W : World) (base : Nat) (args : Array Value) (ds gs : List (DataW H)) (before : List MemPlace),
   (∀ (j : Nat) t v, fn.params[j]? = some t → args[j]? = some v → Value.okWide C.prog W .any base t v) →
   DataW.Whole enc C.prog fn.params.toList s.vars apart W args.toList ds gs before → X W args → W.ShapedOpen C.prog →
   Calls C.prog f args W fun e W' => ∃ v, e = .returned v ∧ s.post enc C.prog fn apart fresh handsOn again W args v W') :
  ReturnsInHanded a C os f .any (fun w args => (s.pre enc C.prog fn conds apart w args ∧ X w args) ∧ sizedMet enc C.prog fn (OpenSpec.ofChange s) apart w args) (s.post enc C.prog fn apart fresh handsOn again) := by
 refine returnsInHanded_of_calls own started noInit witness ?_
 intro w tape i _ hsh _ hok hpre hholds
 obtain ⟨_, _, _, fn', hfn', _, _, _, _, hval⟩ := hok
 have e : fn' = fn := Option.some.inj (hfn'.symm.trans hfn)
 subst e
 obtain ⟨⟨⟨ds, gs, before, hw, hc⟩, hx⟩, hz⟩ := hpre
 have hw' := DataW.Whole.of_heap (w' := w.forCall tape i) (by rfl) hw
 refine (contract (w.forCall tape i) w.heap.size i.args ds gs before hval hw' (hX _ _ _ (by rfl) hx) hsh).mono fun e W' ⟨v, he, hp⟩ => ?_
 subst he
 exact ChangeSpec.post_blind hp
end Go.Proofs.YtocabeobfbhajaaGreatDoor.Sx
end
