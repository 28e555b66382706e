/- Parts of the proof. -/
import Derived.Test.YtocabeobfbhajaaGreatDoorAllE
import Derived.Test.YtocabeobfbhajaaGreatDoorAllG
import Derived.Test.YtocabeobfbhajaaGreatDoorQpRead
set_option linter.unusedVariables false
set_option linter.unusedSimpArgs false
set_option linter.unusedSectionVars false
section
set_option maxRecDepth 100000
set_option maxHeartbeats 0
namespace Go.Proofs.YtocabeobfbhajaaGreatDoor.Sx
open Go Go.Proofs Go.Proofs.YtocabeobfbhajaaGreatDoor Go.Proofs.YtocabeobfbhajaaGreatDoor.Sx
structure pCut_A where
 s : ByteArray
 c : Int
def pCut_L0_H : Head := (⟨[(0, 1), (1, 2), (4, .ns), (5, .sls 8 1 (.int .i64 0) 4 2), (6, 5), (7, 6)], [(8, .lst 3 1 1)], 8, 9, 0, 1, 3, 7⟩ : Head)
def pCut_L0_R : Rn := ⟨8, [8], 0, [0], 3, [0, .int .i64 0, .int .i64 0, .int .i64 0]⟩
def pCut_L0_B  (A : pCut_A) (w : World) (R : List Value) : List Value := .agg #[] :: .string A.s :: .int .u8 A.c :: R
def pCut_L0_X0 : Head := (⟨[(0, 1), (4, .ns), (5, .sls 8 1 (.int .i64 0) 4 2), (6, 5)], [(8, .lst 3 1 1)], 8, 9, 0, 1, 3, 6⟩ : Head)
def pCut_L0  (A : pCut_A) (w : World) : Nat → List ByteArray → Int → Int → Option (Nat × List ByteArray × Int × Unit)
 | 0, _, _, _ => none
 | fu_ + 1, l00, v01, v02 => (if v02 < ((A.s).size : Int) then (if (byteAt A.s v02) = A.c then pCut_L0 A w fu_ ((l00 ++ [((subB A.s v01 v02) : ByteArray)])) (v02 + 1) (v02 + 1) else pCut_L0 A w fu_ l00 v01 (v02 + 1)) else some (0, l00, v01, ()))
def pCut_r  (A : pCut_A) (w : World) : List ByteArray := (match pCut_L0 A w ((((A.s.size : Int) - 0) : Int).toNat + 1) ([]) 0 0 with | some (0, y0_00, x0_01, _) => ((y0_00 ++ [((subB A.s x0_01 ((A.s).size : Int)) : ByteArray)])) | _ => default)
theorem pCut_any  (A : pCut_A) (w : World) (h0 : 0 ≤ A.c ∧ A.c ≤ 255) (h1 : (A.s.size : Int) ≤ 300) : Calls Tryz.prog 79 #[.string A.s, .int .u8 A.c] w fun e w' => ∃ zs : List Value, e = .returned (zs.getD 0 undef) ∧ FrAll w.heap.size w' [⟨(pCut_r A w : List ByteArray).flatMap strC.f, 1, (pCut_r A w : List ByteArray).length⟩] zs [] ∧ Chg (fun _ => False) w w' := by
 unfold pCut_r
 refine wGo (E := E0) (n := 8) (w := w) (L := id) ?_
 refine wS (.agg #[] :: .string A.s :: .int .u8 A.c :: []) ?_
 refine wK (K := ∀ (fu_ : Nat) (l00 : List ByteArray) (v01 : Int) (v02 : Int), (0 ≤ v01 ∧ 0 ≤ v02 ∧ (l00.length : Int) ≤ v01 ∧ (l00.length : Int) ≤ v02 ∧ v01 ≤ v02 ∧ v01 ≤ (A.s.size : Int) ∧ v02 ≤ (A.s.size : Int)) → (((A.s.size : Int) - v02) : Int) < fu_ → ∃ o, pCut_L0 A w fu_ l00 v01 v02 = some o ∧ RdsD Tryz.prog 8 79 4 w pCut_L0_H (pCut_L0_B A w [Codec.flat strC l00, .int .i64 (l00.length : Int), .int .i64 v01, .int .i64 v02]) fu_ [(o.1 = 0 ∧ (0 ≤ o.2.2.1 ∧ o.2.2.1 ≤ ((A.s).size : Int) ∧ (o.2.1.length : Int) ≤ ((A.s).size : Int)), pCut_L0_X0, pCut_L0_B A w [Codec.flat strC o.2.1, .int .i64 (o.2.1.length : Int), .int .i64 o.2.2.1], (.exit 0))]) (fun hq hc hm hp fu_ => ?_) (fun key2 => ?_)
 ·induction fu_ with
  | zero => intro l00 v01 v02 _ hz; exfalso; omega
  | succ fu_ ih =>
   intro l00 v01 v02 h2 hz
   rw [pCut_L0]
   refine wB hq hc hm hp ?_
   refine wS (Codec.flat strC l00 :: I (l00.length : Int) :: I v01 :: I v02 :: I (((A.s).size : Int)) :: []) (wE (⟨6000000000 + 9, [1], 7⟩) (fun _ => q_lenStr rfl rfl rfl (by kernel_rfl)) ?_)
   by_cases h3 : v02 < ((A.s).size : Int)
   ·rw [if_pos h3]
    refine wS (.int .u8 (byteAt A.s v02) :: []) (wT .lss 6 7 h3 (wE (⟨3000000000 + 9, [1, 6], 8⟩) (fun _ => q_idxStr (m := v02) rfl rfl rfl (by omega) rfl (by kernel_rfl)) ?_))
    by_cases h4 : (byteAt A.s v02) = A.c
    ·rw [if_pos h4]
     have h5 : ((subB A.s v01 v02).size : Int) = v02 - v01 := subB_size (by omega)
     refine wS (.string (subB A.s v01 v02) :: Codec.flat strC ((l00 ++ [((subB A.s v01 v02) : ByteArray)])) :: I ((l00.length : Int) + 1) :: I (v02 + 1) :: []) (wT .eql 8 2 h4 (wE (⟨4300000009, [1, 5, 6], 9⟩) (fun _ => q_strSl3 (t := 9) (m := v01) (n := v02) rfl rfl rfl rfl (by omega) rfl (by kernel_rfl)) (wE (⟨8000000000 + 200000001, [.tup [3, J 0, 4], .tup [.agg [9]]], .tup [10, 11]⟩) (fun _ => q_app1 (sz := 1) (C := strC) (X := l00) (e := ((subB A.s v01 v02) : ByteArray)) rfl rfl rfl rfl (by show some (l00.length : Int) = some (((l00).length : Int)); simp) rfl rfl (by show some ((l00.length : Int) + 1) = some (((l00).length : Int) + 1); simp) (by first | omega | (simp only [List.length_append, List.length_cons, List.length_nil]; omega))) (wA 6 (J 1) 12 ?_))))
     exact wQ (rnG (ih ((l00 ++ [((subB A.s v01 v02) : ByteArray)])) (v02 + 1) (v02 + 1) (by simp only [List.length_append, List.length_cons, List.length_nil, List.length_set]; omega) (by omega))) 7 ⟨8, [10], 0, [1], 3, [10, 11, 12, 12]⟩ [] ⟨rfl, (show some (Value.int .i64 ((l00.length : Int) + 1)) = some (Value.int .i64 (((l00 ++ [((subB A.s v01 v02) : ByteArray)])).length : Int)) from congrArg some (congrArg (Value.int .i64) (by simp))), rfl, rfl, trivial⟩
    ·rw [if_neg h4]
     refine wS (I (v02 + 1) :: []) (wF .eql 8 2 h4 (wA 6 (J 1) 9 ?_))
     exact wQ (rnG (ih l00 v01 (v02 + 1) (by omega) (by omega))) 7 ⟨8, [8], 0, [0], 3, [3, 4, 5, 9]⟩ [] ⟨rfl, rfl, rfl, rfl, trivial⟩
   ·rw [if_neg h3]
    refine wF .lss 6 7 h3 ?_
    exact wQ (fun hr => ⟨(0, l00, v01, ()), rfl, ⟨⟨rfl, (by first | trivial | omega | (simp only [List.length_append, List.length_cons, List.length_nil, List.length_set]; omega))⟩, rndEnd xeE hr⟩⟩) 7 ⟨8, [8], 0, [0], 3, [3, 4, 5]⟩ [] ⟨rfl, rfl, rfl, trivial⟩
 obtain ⟨⟨q2, y0_00, x0_01, _⟩, h2, hk2⟩ := key2 ((((A.s.size : Int) - 0) : Int).toNat + 1) ([]) 0 0 (by first | trivial | omega | (simp only [List.length_append, List.length_cons, List.length_nil, List.length_set]; omega)) (by first | omega | (simp only [List.length_append, List.length_cons, List.length_nil, List.length_set]; omega))
 rw [h2]
 rcases hk2 with ⟨⟨he2, h3⟩, hr2⟩
 ·have he2 : q2 = 0 := he2
  subst he2
  try simp only []
  have h3 : 0 ≤ x0_01 ∧ x0_01 ≤ ((A.s).size : Int) ∧ (y0_00.length : Int) ≤ ((A.s).size : Int) := h3
  refine wS (Codec.flat strC y0_00 :: I (y0_00.length : Int) :: I x0_01 :: []) ?_
  refine wLp (x := (.exit 0)) rfl hr2 pCut_L0_R [1] (fun _ => rfl) (by kernel_rfl) (fun _ => rfl) (fun _ => ⟨rfl, (show some (Value.int .i64 0) = some (Value.int .i64 (([]).length : Int)) from congrArg some (congrArg (Value.int .i64) (by simp))), rfl, rfl, trivial⟩) (fun _ => rfl) ?_
  have h4 : (((subB A.s x0_01 ((A.s).size : Int))).size : Int) = ((A.s).size : Int) - x0_01 := subB_size (by omega)
  refine wS (.string ((subB A.s x0_01 ((A.s).size : Int))) :: Codec.flat strC ((y0_00 ++ [((subB A.s x0_01 ((A.s).size : Int)) : ByteArray)])) :: I ((y0_00.length : Int) + 1) :: []) (wE (⟨4100000009, [1, 5], 6⟩) (fun _ => q_strSl1 (t := 9) (m := x0_01) rfl rfl rfl (by omega) rfl (by kernel_rfl)) (wE (⟨8000000000 + 200000001, [.tup [3, J 0, 4], .tup [.agg [6]]], .tup [7, 8]⟩) (fun _ => q_app1 (sz := 1) (C := strC) (X := y0_00) (e := ((subB A.s x0_01 ((A.s).size : Int)) : ByteArray)) rfl rfl rfl rfl (by show some (y0_00.length : Int) = some (((y0_00).length : Int)); simp) rfl rfl (by show some ((y0_00.length : Int) + 1) = some (((y0_00).length : Int) + 1); simp) (by first | omega | (simp only [List.length_append, List.length_cons, List.length_nil]; omega))) ?_))
  exact wRetL (v := .sls 10 1 (.int .i64 0) 8 3) (rs := [⟨((y0_00 ++ [((subB A.s x0_01 ((A.s).size : Int)) : ByteArray)]) : List ByteArray).flatMap strC.f, 1, ((y0_00 ++ [((subB A.s x0_01 ((A.s).size : Int)) : ByteArray)]) : List ByteArray).length⟩]) ok0 60 60 [1, 2] [(10, .lst 7 1 2)] rfl rfl rfl (by kernel_rfl) ⟨⟨rfl, by decide, ⟨7, 2, rfl, rfl, .inr ⟨rfl, by decide⟩⟩, rfl, (by show some (((y0_00.length : Int) + 1) : Int) = some (((y0_00 ++ [((subB A.s x0_01 ((A.s).size : Int)) : ByteArray)])).length : Int); first | (simp; done) | (refine congrArg some ?_; simp only [List.length_append, List.length_cons, List.length_nil]; omega)), rfl, flat_length _ _⟩, trivial⟩ (fun zs hz => match zs, hz with | [_], _ => rfl)
theorem pCut_L0_n (A : pCut_A) (w : World) (hc : A.c = 32) : ∀ (fu : Nat) (l : List ByteArray) (x i : Int), 0 ≤ x ∧ x ≤ i ∧ i ≤ (A.s.size : Int) → (A.s.size : Int) - i < fu → ∃ l' x', pCut_L0 A w fu l x i = some (0, l', x', ()) ∧ l' ++ [subB A.s x' (A.s.size : Int)] = l ++ wordsB ((A.s.data.toList.drop x.toNat).take (i - x).toNat) (A.s.data.toList.drop i.toNat) := by
 intro fu
 induction fu with
 | zero => intro l x i h hz; omega
 | succ fu ih =>
  intro l x i h hz
  rw [pCut_L0]
  by_cases hi : i < (A.s.size : Int)
  ·rw [if_pos hi, hc]
   obtain ⟨b, e1, e2, e3⟩ := byte_drop (s := A.s) (i := i) ⟨by omega, hi⟩
   rw [e1, wordsB]
   by_cases hb : byteAt A.s i = 32
   ·have hb' : b = 32 := by
     apply UInt8.toNat_inj.1
     rw [hb] at e2
     show b.toNat = 32
     omega
    rw [if_pos hb, if_pos hb']
    obtain ⟨l', x', g1, g2⟩ := ih (l ++ [subB A.s x i]) (i + 1) (i + 1) (by omega) (by omega)
    refine ⟨l', x', g1, ?_⟩
    rw [g2, subB_list (by omega), show ((i + 1) - (i + 1)).toNat = 0 by omega, List.take_zero, List.append_assoc]
    rfl
   ·have hb' : ¬ b = 32 := by
     rintro rfl
     exact hb (by rw [← e2]; rfl)
    rw [if_neg hb, if_neg hb']
    obtain ⟨l', x', g1, g2⟩ := ih l x (i + 1) (by omega) (by omega)
    refine ⟨l', x', g1, ?_⟩
    rw [g2]
    congr 2
    rw [show (i + 1 - x).toNat = (i - x).toNat + 1 by omega, List.take_add_one, List.getElem?_drop, show x.toNat + (i - x).toNat = i.toNat by omega, e3]
    rfl
  ·rw [if_neg hi]
   refine ⟨l, x, rfl, ?_⟩
   have hie : (A.s.size : Int) = i := by omega
   have hn : A.s.data.toList.drop i.toNat = [] := List.drop_eq_nil_of_le (by
    rw [Array.length_toList]; show A.s.size ≤ _; omega)
   rw [subB_list (by omega), hn, hie]
   rfl
theorem pCut_r_n (s : ByteArray) (w : World) : pCut_r ⟨s, 32⟩ w = wordsN s := by
 obtain ⟨l', x', g1, g2⟩ := pCut_L0_n ⟨s, 32⟩ w rfl (((s.size : Int) - 0).toNat + 1) [] 0 0 ⟨by omega, by omega, by show (0 : Int) ≤ (s.size : Int); omega⟩ (by show (s.size : Int) - 0 < _; omega)
 unfold pCut_r
 rw [g1]
 exact g2
theorem pCut_n {s : ByteArray} (h : (s.size : Int) ≤ 300) (w : World) : Calls Tryz.prog 79 #[.string s, .int .u8 32] w fun e w' => ∃ zs : List Value, e = .returned (zs.getD 0 undef) ∧ FrAll w.heap.size w' [⟨(wordsN s).flatMap strC.f, 1, (wordsN s).length⟩] zs [] ∧ Chg (fun _ => False) w w' := by
 have := pCut_any ⟨s, 32⟩ w (by show (0 : Int) ≤ 32 ∧ (32 : Int) ≤ 255; omega) h
 rw [pCut_r_n] at this
 exact this
structure pValue_A where
 s : ByteArray
def pValue_L0_H : Head := (⟨[(0, 1), (2, .int .i64 0), (3, 3), (4, 4), (5, 1), (6, 2), (7, .bool false), (8, .bool false), (9, 1), (10, 2), (11, .bool false), (12, .bool false)], [], 8, 8, 0, 0, 3, 5⟩ : Head)
def pValue_L0_R : Rn := ⟨8, [], 0, [], 3, [.int .i64 0, .int .i64 0]⟩
def pValue_L0_B  (A : pValue_A) (w : World) (R : List Value) : List Value := .agg #[] :: .string A.s :: .int .i64 (((A.s).size : Int)) :: R
def pValue_L0_X0 : Head := (⟨[(0, 1), (2, .int .i64 (-1)), (3, 3), (5, 1), (6, 2), (7, .bool false), (8, .bool false), (9, 1), (10, 2), (11, .bool false), (12, .bool false)], [], 8, 8, 0, 0, 3, 4⟩ : Head)
def pValue_L0_X1 : Head := (⟨[(0, 1), (2, .int .i64 0), (3, 3), (5, 1), (6, 2), (7, .bool false), (8, .bool false), (9, 1), (10, 2), (11, .bool false), (12, .bool false)], [], 8, 8, 0, 0, 3, 4⟩ : Head)
def pValue_L0  (A : pValue_A) (w : World) : Nat → Int → Int → Option (Nat × Int × Int × Unit)
 | 0, _, _ => none
 | fu_ + 1, v00, v01 => (if v01 < ((A.s).size : Int) then (if (byteAt A.s v01) < 48 then some (0, v00, default, ()) else (if 57 < (byteAt A.s v01) then some (0, v00, default, ()) else pValue_L0 A w fu_ ((IntKind.wrap .i64 ((IntKind.wrap .i64 ((IntKind.wrap .i64 (10 * v00)) + (byteAt A.s v01))) - 48))) (v01 + 1))) else some (1, default, v00, ()))
def pValue_r  (A : pValue_A) (w : World) : Int := (if ((A.s).size : Int) < 1 then (-1) else (if 9 < ((A.s).size : Int) then (-1) else (match pValue_L0 A w (((((A.s).size : Int) - 0) : Int).toNat + 1) 0 0 with | some (0, x0_00, x0_10, _) => (-1) | some (1, x0_00, x0_10, _) => x0_10 | _ => default)))
theorem pValue_any  (A : pValue_A) (w : World) : Calls Tryz.prog 80 #[.string A.s] w fun e w' => e = .returned (.int .i64 (pValue_r A w)) ∧ Chg (fun _ => False) w w' := by
 unfold pValue_r
 refine wGo (E := E0) (n := 8) (w := w) (L := id) ?_
 refine wS (.agg #[] :: .string A.s :: I (((A.s).size : Int)) :: []) (wE (⟨6000000000 + 9, [1], 2⟩) (fun _ => q_lenStr rfl rfl rfl (by kernel_rfl)) ?_)
 split <;> rename_i h0
 ·refine wT .lss 2 (J 1) h0 ?_
  exact wZ (.int .i64 (-1)) [1]
 ·refine wF .lss 2 (J 1) h0 ?_
  split <;> rename_i h1
  ·refine wT .gtr 2 (J 9) h1 ?_
   exact wZ (.int .i64 (-1)) [1]
  ·refine wF .gtr 2 (J 9) h1 ?_
   refine wK (K := ∀ (fu_ : Nat) (v00 : Int) (v01 : Int), (0 ≤ v01 ∧ v01 ≤ (A.s.size : Int)) → ((((A.s).size : Int) - v01) : Int) < fu_ → ∃ o, pValue_L0 A w fu_ v00 v01 = some o ∧ RdsD Tryz.prog 8 80 5 w pValue_L0_H (pValue_L0_B A w [.int .i64 v00, .int .i64 v01]) fu_ [(o.1 = 0 ∧ True, pValue_L0_X0, pValue_L0_B A w [.int .i64 o.2.1], .ret), (o.1 = 1 ∧ True, pValue_L0_X1, pValue_L0_B A w [.int .i64 o.2.2.1], (.exit 0))]) (fun hq hc hm hp fu_ => ?_) (fun key2 => ?_)
   ·induction fu_ with
    | zero => intro v00 v01 _ hz; exfalso; omega
    | succ fu_ ih =>
     intro v00 v01 h2 hz
     rw [pValue_L0]
     refine wB hq hc hm hp ?_
     refine wS (I v00 :: I v01 :: []) ?_
     split <;> rename_i h3
     ·refine wS (.int .u8 (byteAt A.s v01) :: []) (wT .lss 4 2 h3 (wE (⟨3000000000 + 9, [1, 4], 5⟩) (fun _ => q_idxStr (m := v01) rfl rfl rfl (by omega) rfl (by kernel_rfl)) ?_))
      split <;> rename_i h4
      ·refine wT .lss 5 (.int .u8 48) h4 ?_
       exact wQ (fun hr => ⟨(0, v00, default, ()), rfl, Or.inl ⟨⟨rfl, trivial⟩, rndEnd xeR hr⟩⟩) 5 ⟨8, [], 0, [], 3, [3]⟩ [] ⟨rfl, trivial⟩
      ·refine wF .lss 5 (.int .u8 48) h4 ?_
       split <;> rename_i h5
       ·refine wT .gtr 5 (.int .u8 57) h5 ?_
        exact wQ (fun hr => ⟨(0, v00, default, ()), rfl, Or.inl ⟨⟨rfl, trivial⟩, rndEnd xeR hr⟩⟩) 5 ⟨8, [], 0, [], 3, [3]⟩ [] ⟨rfl, trivial⟩
       ·refine wS (I (IntKind.wrap .i64 (10 * v00)) :: I (byteAt A.s v01) :: I ((IntKind.wrap .i64 ((IntKind.wrap .i64 (10 * v00)) + (byteAt A.s v01)))) :: I ((IntKind.wrap .i64 ((IntKind.wrap .i64 ((IntKind.wrap .i64 (10 * v00)) + (byteAt A.s v01))) - 48))) :: I (v01 + 1) :: []) (wF .gtr 5 (.int .u8 57) h5 (wE (⟨tagB .mul, [J 10, 3], 6⟩) (fun _ => q_mul rfl rfl rfl) (wE (⟨1000000000 + (5 * 10000 + 3), [5], 7⟩) (fun _ => q_convI (ks := .u8) (kd := .i64) (by kernel_rfl) (by kernel_rfl) rfl (show -9223372036854775808 ≤ (byteAt A.s v01) ∧ (byteAt A.s v01) ≤ 9223372036854775807 by omega) rfl rfl rfl) (wE (⟨tagB .add, [6, 7], 8⟩) (fun _ => q_add rfl rfl rfl) (wE (⟨tagB .sub, [8, J 48], 9⟩) (fun _ => q_sub rfl rfl rfl) (wA 4 (J 1) 10 ?_))))))
        exact wQ (rnG (ih ((IntKind.wrap .i64 ((IntKind.wrap .i64 ((IntKind.wrap .i64 (10 * v00)) + (byteAt A.s v01))) - 48))) (v01 + 1) (by omega) (by omega))) 5 ⟨8, [], 0, [], 3, [9, 10]⟩ [] ⟨rfl, rfl, trivial⟩
     ·refine wF .lss 4 2 h3 ?_
      exact wQ (fun hr => ⟨(1, default, v00, ()), rfl, Or.inr (⟨⟨rfl, trivial⟩, rndEnd xeE hr⟩)⟩) 5 ⟨8, [], 0, [], 3, [3]⟩ [] ⟨rfl, trivial⟩
   obtain ⟨⟨q2, x0_00, x0_10, _⟩, h2, hk2⟩ := key2 (((((A.s).size : Int) - 0) : Int).toNat + 1) 0 0 (by first | trivial | omega | (simp; omega)) (by first | omega | (simp; omega))
   rw [h2]
   rcases hk2 with ⟨⟨he2, h3⟩, hr2⟩ | ⟨⟨he2, h3⟩, hr2⟩
   ·have he2 : q2 = 0 := he2
    subst he2
    try simp only []
    refine wS (I x0_00 :: []) ?_
    refine wLp (x := .ret) rfl hr2 pValue_L0_R [] (fun _ => rfl) (by kernel_rfl) (fun _ => rfl) (fun _ => ⟨rfl, rfl, trivial⟩) (fun _ => rfl) ?_
    exact wZ (.int .i64 (-1)) [1]
   ·have he2 : q2 = 1 := he2
    subst he2
    try simp only []
    refine wS (I x0_10 :: []) ?_
    refine wLp (x := (.exit 0)) rfl hr2 pValue_L0_R [] (fun _ => rfl) (by kernel_rfl) (fun _ => rfl) (fun _ => ⟨rfl, rfl, trivial⟩) (fun _ => rfl) ?_
    exact wZ 3 [1]
theorem pValue_L0_n (A : pValue_A) (w : World) : ∀ (fu : Nat) (v i : Int), 0 ≤ i ∧ i ≤ (A.s.size : Int) → (A.s.size : Int) - i < fu → (match pValue_L0 A w fu v i with | some (0, _, _, _) => (-1 : Int) | some (1, _, x, _) => x | _ => default) = valB v (A.s.data.toList.drop i.toNat) := by
 intro fu
 induction fu with
 | zero => intro v i h hz; omega
 | succ fu ih =>
  intro v i h hz
  rw [pValue_L0]
  by_cases hi : i < (A.s.size : Int)
  ·obtain ⟨b, e1, e2, e3⟩ := byte_drop (s := A.s) (i := i) ⟨by omega, hi⟩
   rw [if_pos hi, e1, valB, e2]
   by_cases h1 : byteAt A.s i < 48
   ·rw [if_pos h1, if_pos h1]
    rfl
   ·rw [if_neg h1, if_neg h1]
    by_cases h2 : 57 < byteAt A.s i
    ·rw [if_pos h2, if_pos h2]
     rfl
    ·rw [if_neg h2, if_neg h2]
     exact ih _ (i + 1) (by omega) (by omega)
  ·rw [if_neg hi]
   have hn : A.s.data.toList.drop i.toNat = [] := List.drop_eq_nil_of_le (by
    rw [Array.length_toList]; show A.s.size ≤ _; omega)
   rw [hn]
   rfl
theorem pValue_r_n (s : ByteArray) (w : World) : pValue_r ⟨s⟩ w = valueN s := by
 have := pValue_L0_n ⟨s⟩ w (((s.size : Int) - 0).toNat + 1) 0 0 ⟨by omega, by show (0 : Int) ≤ _; omega⟩ (by show (s.size : Int) - 0 < _; omega)
 unfold pValue_r valueN
 rw [this]
 rfl
theorem pValue_n (s : ByteArray) (w : World) : Calls Tryz.prog 80 #[.string s] w fun e w' => e = .returned (.int .i64 (valueN s)) ∧ Chg (fun _ => False) w w' := by
 have := pValue_any ⟨s⟩ w
 rw [pValue_r_n] at this
 exact this
structure pRRead_A where
 n : Int
 s : ByteArray
def pRRead_L0_H : Head := (⟨[(0, 1), (1, 2), (4, .ptr 8 0), (5, .int .i64 0), (6, .sls 10 1 (.int .i64 0) 6 3), (11, 1), (12, .bool true), (13, .bool false), (15, 2), (16, .sls 9 1 (.int .i64 0) 4 2)], [(8, .cells [.int .i64 0, .int .i64 0, .int .i64 0, .bs 1 0, .int .i64 0, .int .i64 0, .int .i64 0, .int .i64 0, .int .i64 0, .int .i64 0, .int .i64 0] 0 0), (10, .lst 5 1 2)], 10, 11, 1, 2, 5, 7⟩ : Head)
def pRRead_L0_R : Rn := ⟨10, [9], 1, [0], 5, [3, 4]⟩
def pRRead_L0_B  (A : pRRead_A) (w : World) (R : List Value) : List Value := .agg #[] :: .int .i64 A.n :: .string A.s :: Codec.flat strC (wordsN A.s) :: .int .i64 (((wordsN A.s).length : Int)) :: R
def pRRead_L0_X0 : Head := (⟨[(0, 1), (1, 2), (4, .ptr 8 0), (5, .int .i64 0), (6, .sls 10 1 (.int .i64 0) 6 3), (11, 1), (12, .bool true), (13, .bool false), (15, 2), (16, .sls 9 1 (.int .i64 0) 4 2)], [(8, .cells [.int .i64 0, .int .i64 0, .int .i64 0, .bs 1 0, .int .i64 0, .int .i64 0, .int .i64 0, .int .i64 0, .int .i64 0, .int .i64 0, .int .i64 0] 0 0), (10, .lst 5 1 2)], 10, 11, 1, 2, 5, 7⟩ : Head)
def pRRead_L0  (A : pRRead_A) (w : World) : Nat → List ByteArray → Option (Nat × List ByteArray × Unit)
 | 0, _ => none
 | fu_ + 1, l00 => (if (l00.length : Int) < 10 then pRRead_L0 A w fu_ ((l00 ++ [((bstr 0 0) : ByteArray)])) else some (0, l00, ()))
def pRRead_r  (A : pRRead_A) (w : World) : Int × Int × Int × Int × Int × Int × Int × Int × Int × Int × Int × Int := (if A.n = 3 ∨ A.n = 5 then (match pRRead_L0 A w ((((10 - ((wordsN A.s).length : Int)).toNat : Int) : Int).toNat + 1) (wordsN A.s) with | some (0, y0_00, _) => (if (at_ y0_00 3) = (bstr 4 1701734758) then (if (at_ y0_00 3) = (bstr 3 6645094) then (if (writeN A.n ((⟨(valueN (at_ y0_00 0)), (valueN (at_ y0_00 1)), (valueN (at_ y0_00 2)), 2, (valueN (at_ y0_00 4)), (valueN (at_ y0_00 5)), ⟨(0), 0⟩, ⟨(0), 0⟩, (valueN (at_ y0_00 6))⟩ : Po))).2 = 0 then (if (writeN A.n ((⟨(valueN (at_ y0_00 0)), (valueN (at_ y0_00 1)), (valueN (at_ y0_00 2)), 2, (valueN (at_ y0_00 4)), (valueN (at_ y0_00 5)), ⟨(0), 0⟩, ⟨(0), 0⟩, (valueN (at_ y0_00 6))⟩ : Po))).1 = A.s then ((valueN (at_ y0_00 0)), (valueN (at_ y0_00 1)), (valueN (at_ y0_00 2)), 2, (valueN (at_ y0_00 4)), (valueN (at_ y0_00 5)), 0, 0, 0, 0, (valueN (at_ y0_00 6)), 0) else (0, 0, 0, 0, 0, 0, 0, 0, 0, 0, 0, 4)) else (0, 0, 0, 0, 0, 0, 0, 0, 0, 0, 0, 4)) else (if (writeN A.n ((⟨(valueN (at_ y0_00 0)), (valueN (at_ y0_00 1)), (valueN (at_ y0_00 2)), 1, (valueN (at_ y0_00 4)), (valueN (at_ y0_00 5)), ⟨(0), 0⟩, ⟨(0), 0⟩, (valueN (at_ y0_00 6))⟩ : Po))).2 = 0 then (if (writeN A.n ((⟨(valueN (at_ y0_00 0)), (valueN (at_ y0_00 1)), (valueN (at_ y0_00 2)), 1, (valueN (at_ y0_00 4)), (valueN (at_ y0_00 5)), ⟨(0), 0⟩, ⟨(0), 0⟩, (valueN (at_ y0_00 6))⟩ : Po))).1 = A.s then ((valueN (at_ y0_00 0)), (valueN (at_ y0_00 1)), (valueN (at_ y0_00 2)), 1, (valueN (at_ y0_00 4)), (valueN (at_ y0_00 5)), 0, 0, 0, 0, (valueN (at_ y0_00 6)), 0) else (0, 0, 0, 0, 0, 0, 0, 0, 0, 0, 0, 4)) else (0, 0, 0, 0, 0, 0, 0, 0, 0, 0, 0, 4))) else (if (at_ y0_00 3) = (bstr 3 6645094) then (if (writeN A.n ((⟨(valueN (at_ y0_00 0)), (valueN (at_ y0_00 1)), (valueN (at_ y0_00 2)), 2, (valueN (at_ y0_00 4)), (valueN (at_ y0_00 5)), ⟨(0), 0⟩, ⟨(0), 0⟩, (valueN (at_ y0_00 6))⟩ : Po))).2 = 0 then (if (writeN A.n ((⟨(valueN (at_ y0_00 0)), (valueN (at_ y0_00 1)), (valueN (at_ y0_00 2)), 2, (valueN (at_ y0_00 4)), (valueN (at_ y0_00 5)), ⟨(0), 0⟩, ⟨(0), 0⟩, (valueN (at_ y0_00 6))⟩ : Po))).1 = A.s then ((valueN (at_ y0_00 0)), (valueN (at_ y0_00 1)), (valueN (at_ y0_00 2)), 2, (valueN (at_ y0_00 4)), (valueN (at_ y0_00 5)), 0, 0, 0, 0, (valueN (at_ y0_00 6)), 0) else (0, 0, 0, 0, 0, 0, 0, 0, 0, 0, 0, 4)) else (0, 0, 0, 0, 0, 0, 0, 0, 0, 0, 0, 4)) else (if (at_ y0_00 3) = (bstr 4 1701536116) then (if (writeN A.n ((⟨(valueN (at_ y0_00 0)), (valueN (at_ y0_00 1)), (valueN (at_ y0_00 2)), 3, 0, (valueN (at_ y0_00 6)), ⟨(valueN (at_ y0_00 4)), (valueN (at_ y0_00 5))⟩, ⟨(0), 0⟩, (valueN (at_ y0_00 7))⟩ : Po))).2 = 0 then (if (writeN A.n ((⟨(valueN (at_ y0_00 0)), (valueN (at_ y0_00 1)), (valueN (at_ y0_00 2)), 3, 0, (valueN (at_ y0_00 6)), ⟨(valueN (at_ y0_00 4)), (valueN (at_ y0_00 5))⟩, ⟨(0), 0⟩, (valueN (at_ y0_00 7))⟩ : Po))).1 = A.s then ((valueN (at_ y0_00 0)), (valueN (at_ y0_00 1)), (valueN (at_ y0_00 2)), 3, 0, (valueN (at_ y0_00 6)), (valueN (at_ y0_00 4)), (valueN (at_ y0_00 5)), 0, 0, (valueN (at_ y0_00 7)), 0) else (0, 0, 0, 0, 0, 0, 0, 0, 0, 0, 0, 4)) else (0, 0, 0, 0, 0, 0, 0, 0, 0, 0, 0, 4)) else (if (at_ y0_00 3) = (bstr 3 7954800) then (if (at_ y0_00 7) = (bstr 2 31074) then (if (writeN A.n ((⟨(valueN (at_ y0_00 0)), (valueN (at_ y0_00 1)), (valueN (at_ y0_00 2)), 4, 0, (valueN (at_ y0_00 5)), ⟨(valueN (at_ y0_00 0)), (valueN (at_ y0_00 4))⟩, ⟨(valueN (at_ y0_00 8)), (valueN (at_ y0_00 9))⟩, (valueN (at_ y0_00 6))⟩ : Po))).2 = 0 then (if (writeN A.n ((⟨(valueN (at_ y0_00 0)), (valueN (at_ y0_00 1)), (valueN (at_ y0_00 2)), 4, 0, (valueN (at_ y0_00 5)), ⟨(valueN (at_ y0_00 0)), (valueN (at_ y0_00 4))⟩, ⟨(valueN (at_ y0_00 8)), (valueN (at_ y0_00 9))⟩, (valueN (at_ y0_00 6))⟩ : Po))).1 = A.s then ((valueN (at_ y0_00 0)), (valueN (at_ y0_00 1)), (valueN (at_ y0_00 2)), 4, 0, (valueN (at_ y0_00 5)), (valueN (at_ y0_00 0)), (valueN (at_ y0_00 4)), (valueN (at_ y0_00 8)), (valueN (at_ y0_00 9)), (valueN (at_ y0_00 6)), 0) else (0, 0, 0, 0, 0, 0, 0, 0, 0, 0, 0, 4)) else (0, 0, 0, 0, 0, 0, 0, 0, 0, 0, 0, 4)) else (if (writeN A.n ((⟨(valueN (at_ y0_00 0)), (valueN (at_ y0_00 1)), (valueN (at_ y0_00 2)), 4, 0, (valueN (at_ y0_00 5)), ⟨(valueN (at_ y0_00 0)), (valueN (at_ y0_00 4))⟩, ⟨(0), 0⟩, (valueN (at_ y0_00 6))⟩ : Po))).2 = 0 then (if (writeN A.n ((⟨(valueN (at_ y0_00 0)), (valueN (at_ y0_00 1)), (valueN (at_ y0_00 2)), 4, 0, (valueN (at_ y0_00 5)), ⟨(valueN (at_ y0_00 0)), (valueN (at_ y0_00 4))⟩, ⟨(0), 0⟩, (valueN (at_ y0_00 6))⟩ : Po))).1 = A.s then ((valueN (at_ y0_00 0)), (valueN (at_ y0_00 1)), (valueN (at_ y0_00 2)), 4, 0, (valueN (at_ y0_00 5)), (valueN (at_ y0_00 0)), (valueN (at_ y0_00 4)), 0, 0, (valueN (at_ y0_00 6)), 0) else (0, 0, 0, 0, 0, 0, 0, 0, 0, 0, 0, 4)) else (0, 0, 0, 0, 0, 0, 0, 0, 0, 0, 0, 4))) else (if (at_ y0_00 3) = (bstr 5 435778314615) then (if (at_ y0_00 7) = (bstr 2 31074) then (if (writeN A.n ((⟨(valueN (at_ y0_00 0)), (valueN (at_ y0_00 1)), (valueN (at_ y0_00 2)), 5, 0, (valueN (at_ y0_00 5)), ⟨(valueN (at_ y0_00 0)), (valueN (at_ y0_00 4))⟩, ⟨(valueN (at_ y0_00 8)), (valueN (at_ y0_00 9))⟩, (valueN (at_ y0_00 6))⟩ : Po))).2 = 0 then (if (writeN A.n ((⟨(valueN (at_ y0_00 0)), (valueN (at_ y0_00 1)), (valueN (at_ y0_00 2)), 5, 0, (valueN (at_ y0_00 5)), ⟨(valueN (at_ y0_00 0)), (valueN (at_ y0_00 4))⟩, ⟨(valueN (at_ y0_00 8)), (valueN (at_ y0_00 9))⟩, (valueN (at_ y0_00 6))⟩ : Po))).1 = A.s then ((valueN (at_ y0_00 0)), (valueN (at_ y0_00 1)), (valueN (at_ y0_00 2)), 5, 0, (valueN (at_ y0_00 5)), (valueN (at_ y0_00 0)), (valueN (at_ y0_00 4)), (valueN (at_ y0_00 8)), (valueN (at_ y0_00 9)), (valueN (at_ y0_00 6)), 0) else (0, 0, 0, 0, 0, 0, 0, 0, 0, 0, 0, 4)) else (0, 0, 0, 0, 0, 0, 0, 0, 0, 0, 0, 4)) else (if (writeN A.n ((⟨(valueN (at_ y0_00 0)), (valueN (at_ y0_00 1)), (valueN (at_ y0_00 2)), 5, 0, (valueN (at_ y0_00 5)), ⟨(valueN (at_ y0_00 0)), (valueN (at_ y0_00 4))⟩, ⟨(0), 0⟩, (valueN (at_ y0_00 6))⟩ : Po))).2 = 0 then (if (writeN A.n ((⟨(valueN (at_ y0_00 0)), (valueN (at_ y0_00 1)), (valueN (at_ y0_00 2)), 5, 0, (valueN (at_ y0_00 5)), ⟨(valueN (at_ y0_00 0)), (valueN (at_ y0_00 4))⟩, ⟨(0), 0⟩, (valueN (at_ y0_00 6))⟩ : Po))).1 = A.s then ((valueN (at_ y0_00 0)), (valueN (at_ y0_00 1)), (valueN (at_ y0_00 2)), 5, 0, (valueN (at_ y0_00 5)), (valueN (at_ y0_00 0)), (valueN (at_ y0_00 4)), 0, 0, (valueN (at_ y0_00 6)), 0) else (0, 0, 0, 0, 0, 0, 0, 0, 0, 0, 0, 4)) else (0, 0, 0, 0, 0, 0, 0, 0, 0, 0, 0, 4))) else (if (writeN A.n ((⟨(valueN (at_ y0_00 0)), (valueN (at_ y0_00 1)), (valueN (at_ y0_00 2)), 0, 0, 0, ⟨(0), 0⟩, ⟨(0), 0⟩, 0⟩ : Po))).2 = 0 then (if (writeN A.n ((⟨(valueN (at_ y0_00 0)), (valueN (at_ y0_00 1)), (valueN (at_ y0_00 2)), 0, 0, 0, ⟨(0), 0⟩, ⟨(0), 0⟩, 0⟩ : Po))).1 = A.s then ((valueN (at_ y0_00 0)), (valueN (at_ y0_00 1)), (valueN (at_ y0_00 2)), 0, 0, 0, 0, 0, 0, 0, 0, 0) else (0, 0, 0, 0, 0, 0, 0, 0, 0, 0, 0, 4)) else (0, 0, 0, 0, 0, 0, 0, 0, 0, 0, 0, 4))))))) | _ => default) else (0, 0, 0, 0, 0, 0, 0, 0, 0, 0, 0, 1))
theorem pRRead_any  (A : pRRead_A) (w : World) (h0 : (A.s.size : Int) ≤ 300) : Calls Tryz.prog 18 #[.int .i64 A.n, .string A.s] w fun e w' => e = .returned (.tuple #[.agg #[.int .i64 ((pRRead_r A w).1), .int .i64 ((pRRead_r A w).2.1), .int .i64 ((pRRead_r A w).2.2.1), .int .u8 ((pRRead_r A w).2.2.2.1), .int .i64 ((pRRead_r A w).2.2.2.2.1), .int .i64 ((pRRead_r A w).2.2.2.2.2.1), .int .i64 ((pRRead_r A w).2.2.2.2.2.2.1), .int .i64 ((pRRead_r A w).2.2.2.2.2.2.2.1), .int .i64 ((pRRead_r A w).2.2.2.2.2.2.2.2.1), .int .i64 ((pRRead_r A w).2.2.2.2.2.2.2.2.2.1), .int .i64 ((pRRead_r A w).2.2.2.2.2.2.2.2.2.2.1)], .int .i64 ((pRRead_r A w).2.2.2.2.2.2.2.2.2.2.2)]) ∧ Chg (fun _ => False) w w' := by
 unfold pRRead_r
 refine wGo (E := E0) (n := 8) (w := w) (L := id) ?_
 refine wS (.agg #[] :: I A.n :: .string A.s :: []) ?_
 by_cases h1 : A.n = 3 ∨ A.n = 5
 ·rw [if_pos h1]
  refine wS (Codec.flat strC (wordsN A.s) :: I (((wordsN A.s).length : Int)) :: []) (wC (⟨78, [.tup [1], .tup []], (.bool true)⟩) (fun _ => q_cV (h := fun w hw => by have hb := decide_eq_true h1; rw [← hb]; exact rMany_n _ _)) (wM (⟨79, [2, .int .u8 32], [], 9, 0, (.sls 9 1 (J 0) 4 2), [(3, 1, 4)]⟩) (fun _ => q_callN (F := fun zs => (zs.getD 0 undef)) (rs := [⟨(wordsN A.s).flatMap strC.f, 1, (wordsN A.s).length⟩]) (.val _ _ _ _ _ rfl (.val _ _ _ _ _ rfl .nil)) rfl rfl ⟨rfl, rfl, flat_length _ _, flat_one _ _, rfl, trivial⟩ rfl (fun zs h => match zs, h with | [_], _ => rfl) (fun w xs hw hq => by obtain ⟨_, rfl, _, rfl, rfl⟩ := hq; exact pCut_n (show ((A.s).size : Int) ≤ 300 by omega) _)) ?_))
  refine wK (K := ∀ (fu_ : Nat) (l00 : List ByteArray), True → (((10 - (l00.length : Int)).toNat : Int) : Int) < fu_ → ∃ o, pRRead_L0 A w fu_ l00 = some o ∧ RdsD Tryz.prog 8 18 4 w pRRead_L0_H (pRRead_L0_B A w [Codec.flat strC l00, .int .i64 (l00.length : Int)]) fu_ [(o.1 = 0 ∧ (10 ≤ (o.2.1.length : Int)), pRRead_L0_X0, pRRead_L0_B A w [Codec.flat strC o.2.1, .int .i64 (o.2.1.length : Int)], (.exit 0))]) (fun hq hc hm hp fu_ => ?_) (fun key2 => ?_)
  ·induction fu_ with
   | zero => intro l00 _ hz; exfalso; omega
   | succ fu_ ih =>
    intro l00 h2 hz
    rw [pRRead_L0]
    refine wB hq hc hm hp ?_
    refine wS (Codec.flat strC l00 :: I (l00.length : Int) :: []) (wE (⟨6000000000 + 89, [.sls 10 1 (J 0) 6 3], 6⟩) (fun _ => q_lenL rfl rfl (by kernel_rfl)) ?_)
    by_cases h3 : (l00.length : Int) < 10
    ·rw [if_pos h3]
     refine wS (Codec.flat strC ((l00 ++ [((bstr 0 0) : ByteArray)])) :: I ((l00.length : Int) + 1) :: []) (wT .lss 6 (J 10) h3 (wE (⟨8000000000 + 200000001, [.tup [5, J 0, 6], .tup [.agg [.str 0 0]]], .tup [7, 8]⟩) (fun _ => q_app1 (sz := 1) (C := strC) (X := l00) (e := ((bstr 0 0) : ByteArray)) rfl rfl rfl rfl (by show some (l00.length : Int) = some (((l00).length : Int)); simp) rfl rfl (by show some ((l00.length : Int) + 1) = some (((l00).length : Int) + 1); simp) (by first | omega | (simp only [List.length_append, List.length_cons, List.length_nil]; omega))) ?_))
     obtain ⟨o, g1, g2⟩ := ih ((l00 ++ [((bstr 0 0) : ByteArray)])) trivial (by simp only [List.length_append, List.length_cons, List.length_nil, List.length_set]; omega)
     exact wRnd (fun hr => ⟨o, g1, rndGoD hr g2⟩) ok0 200 200 7 ⟨10, [12], 1, [2], 5, [7, 8]⟩ [] ⟨rfl, rfl⟩ (by kernel_rfl) (by kernel_rfl) rfl rfl ⟨rfl, (show some (Value.int .i64 ((l00.length : Int) + 1)) = some (Value.int .i64 (((l00 ++ [((bstr 0 0) : ByteArray)])).length : Int)) from congrArg some (congrArg (Value.int .i64) (by simp))), trivial⟩
    ·rw [if_neg h3]
     refine wF .lss 6 (J 10) h3 ?_
     exact wRnd (fun hr => ⟨(0, l00, ()), rfl, ⟨⟨rfl, (by first | trivial | omega | (simp; omega))⟩, rndEnd xeE hr⟩⟩) ok0 200 200 7 ⟨10, [10], 1, [1], 5, [5, 6]⟩ [] ⟨rfl, rfl⟩ (by kernel_rfl) (by kernel_rfl) rfl rfl ⟨rfl, rfl, trivial⟩
  obtain ⟨⟨q2, y0_00, _⟩, h2, hk2⟩ := key2 ((((10 - ((wordsN A.s).length : Int)).toNat : Int) : Int).toNat + 1) (wordsN A.s) (by first | trivial | omega | (simp; omega)) (by first | omega | (simp; omega))
  rw [h2]
  rcases hk2 with ⟨⟨he2, h3⟩, hr2⟩
  ·have he2 : q2 = 0 := he2
   subst he2
   try simp only []
   have h3 : 10 ≤ (y0_00.length : Int) := h3
   refine wS (Codec.flat strC y0_00 :: I (y0_00.length : Int) :: []) ?_
   refine wLp (x := (.exit 0)) rfl hr2 pRRead_L0_R [] (fun _ => rfl) (by kernel_rfl) (fun _ => rfl) (fun _ => ⟨rfl, rfl, trivial⟩) (fun _ => rfl) ?_
   refine wS (.string (at_ y0_00 0) :: I (valueN (at_ y0_00 0)) :: .string (at_ y0_00 1) :: I (valueN (at_ y0_00 1)) :: .string (at_ y0_00 2) :: I (valueN (at_ y0_00 2)) :: .string (at_ y0_00 4) :: I (valueN (at_ y0_00 4)) :: .string (at_ y0_00 3) :: []) (wE (⟨2000000000 + 89, [.sls 10 1 (J 0) 6 3, J 0], .pls 10 1 (J 0) 0⟩) (fun _ => q_idxL (oz := 0) (m := 0) (n := (y0_00.length : Int)) rfl rfl rfl rfl (by omega) (by show some 0 = some (0 + 0); exact congrArg some (by omega)) (by kernel_rfl)) (wE (⟨8000000000 + 9, [.pls 10 1 (J 0) 0, 5], 7⟩) (fun _ => q_oneL (C := strC) (X := y0_00) (i := 0) rfl rfl rfl rfl ⟨by omega, by first | omega | (simp; omega)⟩ rfl rfl (by kernel_rfl)) (wE (⟨2000000000 + 89, [.sls 10 1 (J 0) 6 3, J 1], .pls 10 1 (J 1) 0⟩) (fun _ => q_idxL (oz := 0) (m := 1) (n := (y0_00.length : Int)) rfl rfl rfl rfl (by omega) (by show some 1 = some (0 + 1); exact congrArg some (by omega)) (by kernel_rfl)) (wE (⟨8000000000 + 9, [.pls 10 1 (J 1) 0, 5], 9⟩) (fun _ => q_oneL (C := strC) (X := y0_00) (i := 1) rfl rfl rfl rfl ⟨by omega, by first | omega | (simp; omega)⟩ rfl rfl (by kernel_rfl)) (wE (⟨2000000000 + 89, [.sls 10 1 (J 0) 6 3, J 2], .pls 10 1 (J 2) 0⟩) (fun _ => q_idxL (oz := 0) (m := 2) (n := (y0_00.length : Int)) rfl rfl rfl rfl (by omega) (by show some 2 = some (0 + 2); exact congrArg some (by omega)) (by kernel_rfl)) (wE (⟨8000000000 + 9, [.pls 10 1 (J 2) 0, 5], 11⟩) (fun _ => q_oneL (C := strC) (X := y0_00) (i := 2) rfl rfl rfl rfl ⟨by omega, by first | omega | (simp; omega)⟩ rfl rfl (by kernel_rfl)) (wE (⟨2000000000 + 89, [.sls 10 1 (J 0) 6 3, J 4], .pls 10 1 (J 4) 0⟩) (fun _ => q_idxL (oz := 0) (m := 4) (n := (y0_00.length : Int)) rfl rfl rfl rfl (by omega) (by show some 4 = some (0 + 4); exact congrArg some (by omega)) (by kernel_rfl)) (wE (⟨8000000000 + 9, [.pls 10 1 (J 4) 0, 5], 13⟩) (fun _ => q_oneL (C := strC) (X := y0_00) (i := 4) rfl rfl rfl rfl ⟨by omega, by first | omega | (simp; omega)⟩ rfl rfl (by kernel_rfl)) (wE (⟨2000000000 + 89, [.sls 10 1 (J 0) 6 3, J 3], .pls 10 1 (J 3) 0⟩) (fun _ => q_idxL (oz := 0) (m := 3) (n := (y0_00.length : Int)) rfl rfl rfl rfl (by omega) (by show some 3 = some (0 + 3); exact congrArg some (by omega)) (by kernel_rfl)) (wE (⟨8000000000 + 9, [.pls 10 1 (J 3) 0, 5], 15⟩) (fun _ => q_oneL (C := strC) (X := y0_00) (i := 3) rfl rfl rfl rfl ⟨by omega, by first | omega | (simp; omega)⟩ rfl rfl (by kernel_rfl)) (wC (⟨80, [.tup [7], .tup []], 8⟩) (fun _ => q_cV (h := fun w hw => by exact pValue_n _ _)) (wC (⟨80, [.tup [9], .tup []], 10⟩) (fun _ => q_cV (h := fun w hw => by exact pValue_n _ _)) (wC (⟨80, [.tup [11], .tup []], 12⟩) (fun _ => q_cV (h := fun w hw => by exact pValue_n _ _)) (wC (⟨80, [.tup [13], .tup []], 14⟩) (fun _ => q_cV (h := fun w hw => by exact pValue_n _ _)) ?_))))))))))))))
   by_cases h4 : (at_ y0_00 3) = (bstr 4 1701734758)
   ·rw [if_pos h4]
    refine wE (⟨tagB .eql, [15, .str 4 1701734758], .bool true⟩) (fun _ => q_seq_t rfl rfl h4) ?_
    by_cases h5 : (at_ y0_00 3) = (bstr 3 6645094)
    ·rw [if_pos h5]
     refine wS (.string (at_ y0_00 5) :: I (valueN (at_ y0_00 5)) :: .string (at_ y0_00 6) :: I (valueN (at_ y0_00 6)) :: .string ((writeN A.n ((⟨(valueN (at_ y0_00 0)), (valueN (at_ y0_00 1)), (valueN (at_ y0_00 2)), 2, (valueN (at_ y0_00 4)), (valueN (at_ y0_00 5)), ⟨(0), 0⟩, ⟨(0), 0⟩, (valueN (at_ y0_00 6))⟩ : Po))).1) :: I ((writeN A.n ((⟨(valueN (at_ y0_00 0)), (valueN (at_ y0_00 1)), (valueN (at_ y0_00 2)), 2, (valueN (at_ y0_00 4)), (valueN (at_ y0_00 5)), ⟨(0), 0⟩, ⟨(0), 0⟩, (valueN (at_ y0_00 6))⟩ : Po))).2) :: []) (wE (⟨tagB .eql, [15, .str 3 6645094], .bool true⟩) (fun _ => q_seq_t rfl rfl h5) (wE (⟨2000000000 + 89, [.sls 10 1 (J 0) 6 3, J 5], .pls 10 1 (J 5) 0⟩) (fun _ => q_idxL (oz := 0) (m := 5) (n := (y0_00.length : Int)) rfl rfl rfl rfl (by omega) (by show some 5 = some (0 + 5); exact congrArg some (by omega)) (by kernel_rfl)) (wE (⟨8000000000 + 9, [.pls 10 1 (J 5) 0, 5], 16⟩) (fun _ => q_oneL (C := strC) (X := y0_00) (i := 5) rfl rfl rfl rfl ⟨by omega, by first | omega | (simp; omega)⟩ rfl rfl (by kernel_rfl)) (wE (⟨2000000000 + 89, [.sls 10 1 (J 0) 6 3, J 6], .pls 10 1 (J 6) 0⟩) (fun _ => q_idxL (oz := 0) (m := 6) (n := (y0_00.length : Int)) rfl rfl rfl rfl (by omega) (by show some 6 = some (0 + 6); exact congrArg some (by omega)) (by kernel_rfl)) (wE (⟨8000000000 + 9, [.pls 10 1 (J 6) 0, 5], 18⟩) (fun _ => q_oneL (C := strC) (X := y0_00) (i := 6) rfl rfl rfl rfl ⟨by omega, by first | omega | (simp; omega)⟩ rfl rfl (by kernel_rfl)) (wC (⟨80, [.tup [16], .tup []], 17⟩) (fun _ => q_cV (h := fun w hw => by exact pValue_n _ _)) (wC (⟨80, [.tup [18], .tup []], 19⟩) (fun _ => q_cV (h := fun w hw => by exact pValue_n _ _)) (wC (⟨16, [.tup [1, .agg [8, 10, 12, .bs 1 2, 14, 17, J 0, J 0, J 0, J 0, 19]], .tup []], .tup [20, 21]⟩) (fun _ => q_cV (h := fun w hw => by exact pRWrite_n _ _ _)) ?_))))))))
     by_cases h6 : (writeN A.n ((⟨(valueN (at_ y0_00 0)), (valueN (at_ y0_00 1)), (valueN (at_ y0_00 2)), 2, (valueN (at_ y0_00 4)), (valueN (at_ y0_00 5)), ⟨(0), 0⟩, ⟨(0), 0⟩, (valueN (at_ y0_00 6))⟩ : Po))).2 = 0
     ·rw [if_pos h6]
      refine wF .neq 21 (J 0) (fun h => h h6) ?_
      by_cases h7 : (writeN A.n ((⟨(valueN (at_ y0_00 0)), (valueN (at_ y0_00 1)), (valueN (at_ y0_00 2)), 2, (valueN (at_ y0_00 4)), (valueN (at_ y0_00 5)), ⟨(0), 0⟩, ⟨(0), 0⟩, (valueN (at_ y0_00 6))⟩ : Po))).1 = A.s
      ·rw [if_pos h7]
       refine wE (⟨tagB .neq, [20, 2], .bool false⟩) (fun _ => q_sne_f rfl rfl h7) ?_
       exact wRet (v := .tup [.agg [8, 10, 12, .bs 1 2, 14, 17, .int .i64 0, .int .i64 0, .int .i64 0, .int .i64 0, 19], .int .i64 0]) ok0 200 200 [1, 2] rfl rfl rfl (by kernel_rfl) rfl
      ·rw [if_neg h7]
       refine wE (⟨tagB .neq, [20, 2], .bool true⟩) (fun _ => q_sne_t rfl rfl h7) ?_
       exact wRet (v := .tup [.agg [.int .i64 0, .int .i64 0, .int .i64 0, .bs 1 0, .int .i64 0, .int .i64 0, .int .i64 0, .int .i64 0, .int .i64 0, .int .i64 0, .int .i64 0], .int .i64 4]) ok0 200 200 [1, 2] rfl rfl rfl (by kernel_rfl) rfl
     ·rw [if_neg h6]
      refine wT .neq 21 (J 0) h6 ?_
      exact wRet (v := .tup [.agg [.int .i64 0, .int .i64 0, .int .i64 0, .bs 1 0, .int .i64 0, .int .i64 0, .int .i64 0, .int .i64 0, .int .i64 0, .int .i64 0, .int .i64 0], .int .i64 4]) ok0 200 200 [1, 2] rfl rfl rfl (by kernel_rfl) rfl
    ·rw [if_neg h5]
     refine wS (.string (at_ y0_00 5) :: I (valueN (at_ y0_00 5)) :: .string (at_ y0_00 6) :: I (valueN (at_ y0_00 6)) :: .string ((writeN A.n ((⟨(valueN (at_ y0_00 0)), (valueN (at_ y0_00 1)), (valueN (at_ y0_00 2)), 1, (valueN (at_ y0_00 4)), (valueN (at_ y0_00 5)), ⟨(0), 0⟩, ⟨(0), 0⟩, (valueN (at_ y0_00 6))⟩ : Po))).1) :: I ((writeN A.n ((⟨(valueN (at_ y0_00 0)), (valueN (at_ y0_00 1)), (valueN (at_ y0_00 2)), 1, (valueN (at_ y0_00 4)), (valueN (at_ y0_00 5)), ⟨(0), 0⟩, ⟨(0), 0⟩, (valueN (at_ y0_00 6))⟩ : Po))).2) :: []) (wE (⟨tagB .eql, [15, .str 3 6645094], .bool false⟩) (fun _ => q_seq_f rfl rfl h5) (wE (⟨2000000000 + 89, [.sls 10 1 (J 0) 6 3, J 5], .pls 10 1 (J 5) 0⟩) (fun _ => q_idxL (oz := 0) (m := 5) (n := (y0_00.length : Int)) rfl rfl rfl rfl (by omega) (by show some 5 = some (0 + 5); exact congrArg some (by omega)) (by kernel_rfl)) (wE (⟨8000000000 + 9, [.pls 10 1 (J 5) 0, 5], 16⟩) (fun _ => q_oneL (C := strC) (X := y0_00) (i := 5) rfl rfl rfl rfl ⟨by omega, by first | omega | (simp; omega)⟩ rfl rfl (by kernel_rfl)) (wE (⟨2000000000 + 89, [.sls 10 1 (J 0) 6 3, J 6], .pls 10 1 (J 6) 0⟩) (fun _ => q_idxL (oz := 0) (m := 6) (n := (y0_00.length : Int)) rfl rfl rfl rfl (by omega) (by show some 6 = some (0 + 6); exact congrArg some (by omega)) (by kernel_rfl)) (wE (⟨8000000000 + 9, [.pls 10 1 (J 6) 0, 5], 18⟩) (fun _ => q_oneL (C := strC) (X := y0_00) (i := 6) rfl rfl rfl rfl ⟨by omega, by first | omega | (simp; omega)⟩ rfl rfl (by kernel_rfl)) (wC (⟨80, [.tup [16], .tup []], 17⟩) (fun _ => q_cV (h := fun w hw => by exact pValue_n _ _)) (wC (⟨80, [.tup [18], .tup []], 19⟩) (fun _ => q_cV (h := fun w hw => by exact pValue_n _ _)) (wC (⟨16, [.tup [1, .agg [8, 10, 12, .bs 1 1, 14, 17, J 0, J 0, J 0, J 0, 19]], .tup []], .tup [20, 21]⟩) (fun _ => q_cV (h := fun w hw => by exact pRWrite_n _ _ _)) ?_))))))))
     by_cases h6 : (writeN A.n ((⟨(valueN (at_ y0_00 0)), (valueN (at_ y0_00 1)), (valueN (at_ y0_00 2)), 1, (valueN (at_ y0_00 4)), (valueN (at_ y0_00 5)), ⟨(0), 0⟩, ⟨(0), 0⟩, (valueN (at_ y0_00 6))⟩ : Po))).2 = 0
     ·rw [if_pos h6]
      refine wF .neq 21 (J 0) (fun h => h h6) ?_
      by_cases h7 : (writeN A.n ((⟨(valueN (at_ y0_00 0)), (valueN (at_ y0_00 1)), (valueN (at_ y0_00 2)), 1, (valueN (at_ y0_00 4)), (valueN (at_ y0_00 5)), ⟨(0), 0⟩, ⟨(0), 0⟩, (valueN (at_ y0_00 6))⟩ : Po))).1 = A.s
      ·rw [if_pos h7]
       refine wE (⟨tagB .neq, [20, 2], .bool false⟩) (fun _ => q_sne_f rfl rfl h7) ?_
       exact wRet (v := .tup [.agg [8, 10, 12, .bs 1 1, 14, 17, .int .i64 0, .int .i64 0, .int .i64 0, .int .i64 0, 19], .int .i64 0]) ok0 200 200 [1, 2] rfl rfl rfl (by kernel_rfl) rfl
      ·rw [if_neg h7]
       refine wE (⟨tagB .neq, [20, 2], .bool true⟩) (fun _ => q_sne_t rfl rfl h7) ?_
       exact wRet (v := .tup [.agg [.int .i64 0, .int .i64 0, .int .i64 0, .bs 1 0, .int .i64 0, .int .i64 0, .int .i64 0, .int .i64 0, .int .i64 0, .int .i64 0, .int .i64 0], .int .i64 4]) ok0 200 200 [1, 2] rfl rfl rfl (by kernel_rfl) rfl
     ·rw [if_neg h6]
      refine wT .neq 21 (J 0) h6 ?_
      exact wRet (v := .tup [.agg [.int .i64 0, .int .i64 0, .int .i64 0, .bs 1 0, .int .i64 0, .int .i64 0, .int .i64 0, .int .i64 0, .int .i64 0, .int .i64 0, .int .i64 0], .int .i64 4]) ok0 200 200 [1, 2] rfl rfl rfl (by kernel_rfl) rfl
   ·rw [if_neg h4]
    refine wE (⟨tagB .eql, [15, .str 4 1701734758], .bool false⟩) (fun _ => q_seq_f rfl rfl h4) ?_
    by_cases h5 : (at_ y0_00 3) = (bstr 3 6645094)
    ·rw [if_pos h5]
     refine wS (.string (at_ y0_00 5) :: I (valueN (at_ y0_00 5)) :: .string (at_ y0_00 6) :: I (valueN (at_ y0_00 6)) :: .string ((writeN A.n ((⟨(valueN (at_ y0_00 0)), (valueN (at_ y0_00 1)), (valueN (at_ y0_00 2)), 2, (valueN (at_ y0_00 4)), (valueN (at_ y0_00 5)), ⟨(0), 0⟩, ⟨(0), 0⟩, (valueN (at_ y0_00 6))⟩ : Po))).1) :: I ((writeN A.n ((⟨(valueN (at_ y0_00 0)), (valueN (at_ y0_00 1)), (valueN (at_ y0_00 2)), 2, (valueN (at_ y0_00 4)), (valueN (at_ y0_00 5)), ⟨(0), 0⟩, ⟨(0), 0⟩, (valueN (at_ y0_00 6))⟩ : Po))).2) :: []) (wE (⟨tagB .eql, [15, .str 3 6645094], .bool true⟩) (fun _ => q_seq_t rfl rfl h5) (wE (⟨2000000000 + 89, [.sls 10 1 (J 0) 6 3, J 5], .pls 10 1 (J 5) 0⟩) (fun _ => q_idxL (oz := 0) (m := 5) (n := (y0_00.length : Int)) rfl rfl rfl rfl (by omega) (by show some 5 = some (0 + 5); exact congrArg some (by omega)) (by kernel_rfl)) (wE (⟨8000000000 + 9, [.pls 10 1 (J 5) 0, 5], 16⟩) (fun _ => q_oneL (C := strC) (X := y0_00) (i := 5) rfl rfl rfl rfl ⟨by omega, by first | omega | (simp; omega)⟩ rfl rfl (by kernel_rfl)) (wE (⟨2000000000 + 89, [.sls 10 1 (J 0) 6 3, J 6], .pls 10 1 (J 6) 0⟩) (fun _ => q_idxL (oz := 0) (m := 6) (n := (y0_00.length : Int)) rfl rfl rfl rfl (by omega) (by show some 6 = some (0 + 6); exact congrArg some (by omega)) (by kernel_rfl)) (wE (⟨8000000000 + 9, [.pls 10 1 (J 6) 0, 5], 18⟩) (fun _ => q_oneL (C := strC) (X := y0_00) (i := 6) rfl rfl rfl rfl ⟨by omega, by first | omega | (simp; omega)⟩ rfl rfl (by kernel_rfl)) (wC (⟨80, [.tup [16], .tup []], 17⟩) (fun _ => q_cV (h := fun w hw => by exact pValue_n _ _)) (wC (⟨80, [.tup [18], .tup []], 19⟩) (fun _ => q_cV (h := fun w hw => by exact pValue_n _ _)) (wC (⟨16, [.tup [1, .agg [8, 10, 12, .bs 1 2, 14, 17, J 0, J 0, J 0, J 0, 19]], .tup []], .tup [20, 21]⟩) (fun _ => q_cV (h := fun w hw => by exact pRWrite_n _ _ _)) ?_))))))))
     by_cases h6 : (writeN A.n ((⟨(valueN (at_ y0_00 0)), (valueN (at_ y0_00 1)), (valueN (at_ y0_00 2)), 2, (valueN (at_ y0_00 4)), (valueN (at_ y0_00 5)), ⟨(0), 0⟩, ⟨(0), 0⟩, (valueN (at_ y0_00 6))⟩ : Po))).2 = 0
     ·rw [if_pos h6]
      refine wF .neq 21 (J 0) (fun h => h h6) ?_
      by_cases h7 : (writeN A.n ((⟨(valueN (at_ y0_00 0)), (valueN (at_ y0_00 1)), (valueN (at_ y0_00 2)), 2, (valueN (at_ y0_00 4)), (valueN (at_ y0_00 5)), ⟨(0), 0⟩, ⟨(0), 0⟩, (valueN (at_ y0_00 6))⟩ : Po))).1 = A.s
      ·rw [if_pos h7]
       refine wE (⟨tagB .neq, [20, 2], .bool false⟩) (fun _ => q_sne_f rfl rfl h7) ?_
       exact wRet (v := .tup [.agg [8, 10, 12, .bs 1 2, 14, 17, .int .i64 0, .int .i64 0, .int .i64 0, .int .i64 0, 19], .int .i64 0]) ok0 200 200 [1, 2] rfl rfl rfl (by kernel_rfl) rfl
      ·rw [if_neg h7]
       refine wE (⟨tagB .neq, [20, 2], .bool true⟩) (fun _ => q_sne_t rfl rfl h7) ?_
       exact wRet (v := .tup [.agg [.int .i64 0, .int .i64 0, .int .i64 0, .bs 1 0, .int .i64 0, .int .i64 0, .int .i64 0, .int .i64 0, .int .i64 0, .int .i64 0, .int .i64 0], .int .i64 4]) ok0 200 200 [1, 2] rfl rfl rfl (by kernel_rfl) rfl
     ·rw [if_neg h6]
      refine wT .neq 21 (J 0) h6 ?_
      exact wRet (v := .tup [.agg [.int .i64 0, .int .i64 0, .int .i64 0, .bs 1 0, .int .i64 0, .int .i64 0, .int .i64 0, .int .i64 0, .int .i64 0, .int .i64 0, .int .i64 0], .int .i64 4]) ok0 200 200 [1, 2] rfl rfl rfl (by kernel_rfl) rfl
    ·rw [if_neg h5]
     refine wE (⟨tagB .eql, [15, .str 3 6645094], .bool false⟩) (fun _ => q_seq_f rfl rfl h5) ?_
     by_cases h6 : (at_ y0_00 3) = (bstr 4 1701536116)
     ·rw [if_pos h6]
      refine wS (.string (at_ y0_00 5) :: I (valueN (at_ y0_00 5)) :: .string (at_ y0_00 6) :: I (valueN (at_ y0_00 6)) :: .string (at_ y0_00 7) :: I (valueN (at_ y0_00 7)) :: .string ((writeN A.n ((⟨(valueN (at_ y0_00 0)), (valueN (at_ y0_00 1)), (valueN (at_ y0_00 2)), 3, 0, (valueN (at_ y0_00 6)), ⟨(valueN (at_ y0_00 4)), (valueN (at_ y0_00 5))⟩, ⟨(0), 0⟩, (valueN (at_ y0_00 7))⟩ : Po))).1) :: I ((writeN A.n ((⟨(valueN (at_ y0_00 0)), (valueN (at_ y0_00 1)), (valueN (at_ y0_00 2)), 3, 0, (valueN (at_ y0_00 6)), ⟨(valueN (at_ y0_00 4)), (valueN (at_ y0_00 5))⟩, ⟨(0), 0⟩, (valueN (at_ y0_00 7))⟩ : Po))).2) :: []) (wE (⟨tagB .eql, [15, .str 4 1701536116], .bool true⟩) (fun _ => q_seq_t rfl rfl h6) (wE (⟨2000000000 + 89, [.sls 10 1 (J 0) 6 3, J 5], .pls 10 1 (J 5) 0⟩) (fun _ => q_idxL (oz := 0) (m := 5) (n := (y0_00.length : Int)) rfl rfl rfl rfl (by omega) (by show some 5 = some (0 + 5); exact congrArg some (by omega)) (by kernel_rfl)) (wE (⟨8000000000 + 9, [.pls 10 1 (J 5) 0, 5], 16⟩) (fun _ => q_oneL (C := strC) (X := y0_00) (i := 5) rfl rfl rfl rfl ⟨by omega, by first | omega | (simp; omega)⟩ rfl rfl (by kernel_rfl)) (wE (⟨2000000000 + 89, [.sls 10 1 (J 0) 6 3, J 6], .pls 10 1 (J 6) 0⟩) (fun _ => q_idxL (oz := 0) (m := 6) (n := (y0_00.length : Int)) rfl rfl rfl rfl (by omega) (by show some 6 = some (0 + 6); exact congrArg some (by omega)) (by kernel_rfl)) (wE (⟨8000000000 + 9, [.pls 10 1 (J 6) 0, 5], 18⟩) (fun _ => q_oneL (C := strC) (X := y0_00) (i := 6) rfl rfl rfl rfl ⟨by omega, by first | omega | (simp; omega)⟩ rfl rfl (by kernel_rfl)) (wE (⟨2000000000 + 89, [.sls 10 1 (J 0) 6 3, J 7], .pls 10 1 (J 7) 0⟩) (fun _ => q_idxL (oz := 0) (m := 7) (n := (y0_00.length : Int)) rfl rfl rfl rfl (by omega) (by show some 7 = some (0 + 7); exact congrArg some (by omega)) (by kernel_rfl)) (wE (⟨8000000000 + 9, [.pls 10 1 (J 7) 0, 5], 20⟩) (fun _ => q_oneL (C := strC) (X := y0_00) (i := 7) rfl rfl rfl rfl ⟨by omega, by first | omega | (simp; omega)⟩ rfl rfl (by kernel_rfl)) (wC (⟨80, [.tup [16], .tup []], 17⟩) (fun _ => q_cV (h := fun w hw => by exact pValue_n _ _)) (wC (⟨80, [.tup [18], .tup []], 19⟩) (fun _ => q_cV (h := fun w hw => by exact pValue_n _ _)) (wC (⟨80, [.tup [20], .tup []], 21⟩) (fun _ => q_cV (h := fun w hw => by exact pValue_n _ _)) (wC (⟨16, [.tup [1, .agg [8, 10, 12, .bs 1 3, J 0, 19, 14, 17, J 0, J 0, 21]], .tup []], .tup [22, 23]⟩) (fun _ => q_cV (h := fun w hw => by exact pRWrite_n _ _ _)) ?_)))))))))))
      by_cases h7 : (writeN A.n ((⟨(valueN (at_ y0_00 0)), (valueN (at_ y0_00 1)), (valueN (at_ y0_00 2)), 3, 0, (valueN (at_ y0_00 6)), ⟨(valueN (at_ y0_00 4)), (valueN (at_ y0_00 5))⟩, ⟨(0), 0⟩, (valueN (at_ y0_00 7))⟩ : Po))).2 = 0
      ·rw [if_pos h7]
       refine wF .neq 23 (J 0) (fun h => h h7) ?_
       by_cases h8 : (writeN A.n ((⟨(valueN (at_ y0_00 0)), (valueN (at_ y0_00 1)), (valueN (at_ y0_00 2)), 3, 0, (valueN (at_ y0_00 6)), ⟨(valueN (at_ y0_00 4)), (valueN (at_ y0_00 5))⟩, ⟨(0), 0⟩, (valueN (at_ y0_00 7))⟩ : Po))).1 = A.s
       ·rw [if_pos h8]
        refine wE (⟨tagB .neq, [22, 2], .bool false⟩) (fun _ => q_sne_f rfl rfl h8) ?_
        exact wRet (v := .tup [.agg [8, 10, 12, .bs 1 3, .int .i64 0, 19, 14, 17, .int .i64 0, .int .i64 0, 21], .int .i64 0]) ok0 200 200 [1, 2] rfl rfl rfl (by kernel_rfl) rfl
       ·rw [if_neg h8]
        refine wE (⟨tagB .neq, [22, 2], .bool true⟩) (fun _ => q_sne_t rfl rfl h8) ?_
        exact wRet (v := .tup [.agg [.int .i64 0, .int .i64 0, .int .i64 0, .bs 1 0, .int .i64 0, .int .i64 0, .int .i64 0, .int .i64 0, .int .i64 0, .int .i64 0, .int .i64 0], .int .i64 4]) ok0 200 200 [1, 2] rfl rfl rfl (by kernel_rfl) rfl
      ·rw [if_neg h7]
       refine wT .neq 23 (J 0) h7 ?_
       exact wRet (v := .tup [.agg [.int .i64 0, .int .i64 0, .int .i64 0, .bs 1 0, .int .i64 0, .int .i64 0, .int .i64 0, .int .i64 0, .int .i64 0, .int .i64 0, .int .i64 0], .int .i64 4]) ok0 200 200 [1, 2] rfl rfl rfl (by kernel_rfl) rfl
     ·rw [if_neg h6]
      refine wE (⟨tagB .eql, [15, .str 4 1701536116], .bool false⟩) (fun _ => q_seq_f rfl rfl h6) ?_
      by_cases h7 : (at_ y0_00 3) = (bstr 3 7954800)
      ·rw [if_pos h7]
       refine wS (.string (at_ y0_00 5) :: I (valueN (at_ y0_00 5)) :: .string (at_ y0_00 6) :: I (valueN (at_ y0_00 6)) :: .string (at_ y0_00 7) :: []) (wE (⟨tagB .eql, [15, .str 3 7954800], .bool true⟩) (fun _ => q_seq_t rfl rfl h7) (wE (⟨2000000000 + 89, [.sls 10 1 (J 0) 6 3, J 5], .pls 10 1 (J 5) 0⟩) (fun _ => q_idxL (oz := 0) (m := 5) (n := (y0_00.length : Int)) rfl rfl rfl rfl (by omega) (by show some 5 = some (0 + 5); exact congrArg some (by omega)) (by kernel_rfl)) (wE (⟨8000000000 + 9, [.pls 10 1 (J 5) 0, 5], 16⟩) (fun _ => q_oneL (C := strC) (X := y0_00) (i := 5) rfl rfl rfl rfl ⟨by omega, by first | omega | (simp; omega)⟩ rfl rfl (by kernel_rfl)) (wE (⟨2000000000 + 89, [.sls 10 1 (J 0) 6 3, J 6], .pls 10 1 (J 6) 0⟩) (fun _ => q_idxL (oz := 0) (m := 6) (n := (y0_00.length : Int)) rfl rfl rfl rfl (by omega) (by show some 6 = some (0 + 6); exact congrArg some (by omega)) (by kernel_rfl)) (wE (⟨8000000000 + 9, [.pls 10 1 (J 6) 0, 5], 18⟩) (fun _ => q_oneL (C := strC) (X := y0_00) (i := 6) rfl rfl rfl rfl ⟨by omega, by first | omega | (simp; omega)⟩ rfl rfl (by kernel_rfl)) (wE (⟨2000000000 + 89, [.sls 10 1 (J 0) 6 3, J 7], .pls 10 1 (J 7) 0⟩) (fun _ => q_idxL (oz := 0) (m := 7) (n := (y0_00.length : Int)) rfl rfl rfl rfl (by omega) (by show some 7 = some (0 + 7); exact congrArg some (by omega)) (by kernel_rfl)) (wE (⟨8000000000 + 9, [.pls 10 1 (J 7) 0, 5], 20⟩) (fun _ => q_oneL (C := strC) (X := y0_00) (i := 7) rfl rfl rfl rfl ⟨by omega, by first | omega | (simp; omega)⟩ rfl rfl (by kernel_rfl)) (wC (⟨80, [.tup [16], .tup []], 17⟩) (fun _ => q_cV (h := fun w hw => by exact pValue_n _ _)) (wC (⟨80, [.tup [18], .tup []], 19⟩) (fun _ => q_cV (h := fun w hw => by exact pValue_n _ _)) ?_)))))))))
       by_cases h8 : (at_ y0_00 7) = (bstr 2 31074)
       ·rw [if_pos h8]
        refine wS (.string (at_ y0_00 8) :: I (valueN (at_ y0_00 8)) :: .string (at_ y0_00 9) :: I (valueN (at_ y0_00 9)) :: .string ((writeN A.n ((⟨(valueN (at_ y0_00 0)), (valueN (at_ y0_00 1)), (valueN (at_ y0_00 2)), 4, 0, (valueN (at_ y0_00 5)), ⟨(valueN (at_ y0_00 0)), (valueN (at_ y0_00 4))⟩, ⟨(valueN (at_ y0_00 8)), (valueN (at_ y0_00 9))⟩, (valueN (at_ y0_00 6))⟩ : Po))).1) :: I ((writeN A.n ((⟨(valueN (at_ y0_00 0)), (valueN (at_ y0_00 1)), (valueN (at_ y0_00 2)), 4, 0, (valueN (at_ y0_00 5)), ⟨(valueN (at_ y0_00 0)), (valueN (at_ y0_00 4))⟩, ⟨(valueN (at_ y0_00 8)), (valueN (at_ y0_00 9))⟩, (valueN (at_ y0_00 6))⟩ : Po))).2) :: []) (wE (⟨tagB .eql, [20, .str 2 31074], .bool true⟩) (fun _ => q_seq_t rfl rfl h8) (wE (⟨2000000000 + 89, [.sls 10 1 (J 0) 6 3, J 8], .pls 10 1 (J 8) 0⟩) (fun _ => q_idxL (oz := 0) (m := 8) (n := (y0_00.length : Int)) rfl rfl rfl rfl (by omega) (by show some 8 = some (0 + 8); exact congrArg some (by omega)) (by kernel_rfl)) (wE (⟨8000000000 + 9, [.pls 10 1 (J 8) 0, 5], 21⟩) (fun _ => q_oneL (C := strC) (X := y0_00) (i := 8) rfl rfl rfl rfl ⟨by omega, by first | omega | (simp; omega)⟩ rfl rfl (by kernel_rfl)) (wE (⟨2000000000 + 89, [.sls 10 1 (J 0) 6 3, J 9], .pls 10 1 (J 9) 0⟩) (fun _ => q_idxL (oz := 0) (m := 9) (n := (y0_00.length : Int)) rfl rfl rfl rfl (by omega) (by show some 9 = some (0 + 9); exact congrArg some (by omega)) (by kernel_rfl)) (wE (⟨8000000000 + 9, [.pls 10 1 (J 9) 0, 5], 23⟩) (fun _ => q_oneL (C := strC) (X := y0_00) (i := 9) rfl rfl rfl rfl ⟨by omega, by first | omega | (simp; omega)⟩ rfl rfl (by kernel_rfl)) (wC (⟨80, [.tup [21], .tup []], 22⟩) (fun _ => q_cV (h := fun w hw => by exact pValue_n _ _)) (wC (⟨80, [.tup [23], .tup []], 24⟩) (fun _ => q_cV (h := fun w hw => by exact pValue_n _ _)) (wC (⟨16, [.tup [1, .agg [8, 10, 12, .bs 1 4, J 0, 17, 8, 14, 22, 24, 19]], .tup []], .tup [25, 26]⟩) (fun _ => q_cV (h := fun w hw => by exact pRWrite_n _ _ _)) ?_))))))))
        by_cases h9 : (writeN A.n ((⟨(valueN (at_ y0_00 0)), (valueN (at_ y0_00 1)), (valueN (at_ y0_00 2)), 4, 0, (valueN (at_ y0_00 5)), ⟨(valueN (at_ y0_00 0)), (valueN (at_ y0_00 4))⟩, ⟨(valueN (at_ y0_00 8)), (valueN (at_ y0_00 9))⟩, (valueN (at_ y0_00 6))⟩ : Po))).2 = 0
        ·rw [if_pos h9]
         refine wF .neq 26 (J 0) (fun h => h h9) ?_
         by_cases h10 : (writeN A.n ((⟨(valueN (at_ y0_00 0)), (valueN (at_ y0_00 1)), (valueN (at_ y0_00 2)), 4, 0, (valueN (at_ y0_00 5)), ⟨(valueN (at_ y0_00 0)), (valueN (at_ y0_00 4))⟩, ⟨(valueN (at_ y0_00 8)), (valueN (at_ y0_00 9))⟩, (valueN (at_ y0_00 6))⟩ : Po))).1 = A.s
         ·rw [if_pos h10]
          refine wE (⟨tagB .neq, [25, 2], .bool false⟩) (fun _ => q_sne_f rfl rfl h10) ?_
          exact wRet (v := .tup [.agg [8, 10, 12, .bs 1 4, .int .i64 0, 17, 8, 14, 22, 24, 19], .int .i64 0]) ok0 200 200 [1, 2] rfl rfl rfl (by kernel_rfl) rfl
         ·rw [if_neg h10]
          refine wE (⟨tagB .neq, [25, 2], .bool true⟩) (fun _ => q_sne_t rfl rfl h10) ?_
          exact wRet (v := .tup [.agg [.int .i64 0, .int .i64 0, .int .i64 0, .bs 1 0, .int .i64 0, .int .i64 0, .int .i64 0, .int .i64 0, .int .i64 0, .int .i64 0, .int .i64 0], .int .i64 4]) ok0 200 200 [1, 2] rfl rfl rfl (by kernel_rfl) rfl
        ·rw [if_neg h9]
         refine wT .neq 26 (J 0) h9 ?_
         exact wRet (v := .tup [.agg [.int .i64 0, .int .i64 0, .int .i64 0, .bs 1 0, .int .i64 0, .int .i64 0, .int .i64 0, .int .i64 0, .int .i64 0, .int .i64 0, .int .i64 0], .int .i64 4]) ok0 200 200 [1, 2] rfl rfl rfl (by kernel_rfl) rfl
       ·rw [if_neg h8]
        refine wS (.string ((writeN A.n ((⟨(valueN (at_ y0_00 0)), (valueN (at_ y0_00 1)), (valueN (at_ y0_00 2)), 4, 0, (valueN (at_ y0_00 5)), ⟨(valueN (at_ y0_00 0)), (valueN (at_ y0_00 4))⟩, ⟨(0), 0⟩, (valueN (at_ y0_00 6))⟩ : Po))).1) :: I ((writeN A.n ((⟨(valueN (at_ y0_00 0)), (valueN (at_ y0_00 1)), (valueN (at_ y0_00 2)), 4, 0, (valueN (at_ y0_00 5)), ⟨(valueN (at_ y0_00 0)), (valueN (at_ y0_00 4))⟩, ⟨(0), 0⟩, (valueN (at_ y0_00 6))⟩ : Po))).2) :: []) (wE (⟨tagB .eql, [20, .str 2 31074], .bool false⟩) (fun _ => q_seq_f rfl rfl h8) (wC (⟨16, [.tup [1, .agg [8, 10, 12, .bs 1 4, J 0, 17, 8, 14, J 0, J 0, 19]], .tup []], .tup [21, 22]⟩) (fun _ => q_cV (h := fun w hw => by exact pRWrite_n _ _ _)) ?_))
        by_cases h9 : (writeN A.n ((⟨(valueN (at_ y0_00 0)), (valueN (at_ y0_00 1)), (valueN (at_ y0_00 2)), 4, 0, (valueN (at_ y0_00 5)), ⟨(valueN (at_ y0_00 0)), (valueN (at_ y0_00 4))⟩, ⟨(0), 0⟩, (valueN (at_ y0_00 6))⟩ : Po))).2 = 0
        ·rw [if_pos h9]
         refine wF .neq 22 (J 0) (fun h => h h9) ?_
         by_cases h10 : (writeN A.n ((⟨(valueN (at_ y0_00 0)), (valueN (at_ y0_00 1)), (valueN (at_ y0_00 2)), 4, 0, (valueN (at_ y0_00 5)), ⟨(valueN (at_ y0_00 0)), (valueN (at_ y0_00 4))⟩, ⟨(0), 0⟩, (valueN (at_ y0_00 6))⟩ : Po))).1 = A.s
         ·rw [if_pos h10]
          refine wE (⟨tagB .neq, [21, 2], .bool false⟩) (fun _ => q_sne_f rfl rfl h10) ?_
          exact wRet (v := .tup [.agg [8, 10, 12, .bs 1 4, .int .i64 0, 17, 8, 14, .int .i64 0, .int .i64 0, 19], .int .i64 0]) ok0 200 200 [1, 2] rfl rfl rfl (by kernel_rfl) rfl
         ·rw [if_neg h10]
          refine wE (⟨tagB .neq, [21, 2], .bool true⟩) (fun _ => q_sne_t rfl rfl h10) ?_
          exact wRet (v := .tup [.agg [.int .i64 0, .int .i64 0, .int .i64 0, .bs 1 0, .int .i64 0, .int .i64 0, .int .i64 0, .int .i64 0, .int .i64 0, .int .i64 0, .int .i64 0], .int .i64 4]) ok0 200 200 [1, 2] rfl rfl rfl (by kernel_rfl) rfl
        ·rw [if_neg h9]
         refine wT .neq 22 (J 0) h9 ?_
         exact wRet (v := .tup [.agg [.int .i64 0, .int .i64 0, .int .i64 0, .bs 1 0, .int .i64 0, .int .i64 0, .int .i64 0, .int .i64 0, .int .i64 0, .int .i64 0, .int .i64 0], .int .i64 4]) ok0 200 200 [1, 2] rfl rfl rfl (by kernel_rfl) rfl
      ·rw [if_neg h7]
       refine wE (⟨tagB .eql, [15, .str 3 7954800], .bool false⟩) (fun _ => q_seq_f rfl rfl h7) ?_
       by_cases h8 : (at_ y0_00 3) = (bstr 5 435778314615)
       ·rw [if_pos h8]
        refine wS (.string (at_ y0_00 5) :: I (valueN (at_ y0_00 5)) :: .string (at_ y0_00 6) :: I (valueN (at_ y0_00 6)) :: .string (at_ y0_00 7) :: []) (wE (⟨tagB .eql, [15, .str 5 435778314615], .bool true⟩) (fun _ => q_seq_t rfl rfl h8) (wE (⟨2000000000 + 89, [.sls 10 1 (J 0) 6 3, J 5], .pls 10 1 (J 5) 0⟩) (fun _ => q_idxL (oz := 0) (m := 5) (n := (y0_00.length : Int)) rfl rfl rfl rfl (by omega) (by show some 5 = some (0 + 5); exact congrArg some (by omega)) (by kernel_rfl)) (wE (⟨8000000000 + 9, [.pls 10 1 (J 5) 0, 5], 16⟩) (fun _ => q_oneL (C := strC) (X := y0_00) (i := 5) rfl rfl rfl rfl ⟨by omega, by first | omega | (simp; omega)⟩ rfl rfl (by kernel_rfl)) (wE (⟨2000000000 + 89, [.sls 10 1 (J 0) 6 3, J 6], .pls 10 1 (J 6) 0⟩) (fun _ => q_idxL (oz := 0) (m := 6) (n := (y0_00.length : Int)) rfl rfl rfl rfl (by omega) (by show some 6 = some (0 + 6); exact congrArg some (by omega)) (by kernel_rfl)) (wE (⟨8000000000 + 9, [.pls 10 1 (J 6) 0, 5], 18⟩) (fun _ => q_oneL (C := strC) (X := y0_00) (i := 6) rfl rfl rfl rfl ⟨by omega, by first | omega | (simp; omega)⟩ rfl rfl (by kernel_rfl)) (wE (⟨2000000000 + 89, [.sls 10 1 (J 0) 6 3, J 7], .pls 10 1 (J 7) 0⟩) (fun _ => q_idxL (oz := 0) (m := 7) (n := (y0_00.length : Int)) rfl rfl rfl rfl (by omega) (by show some 7 = some (0 + 7); exact congrArg some (by omega)) (by kernel_rfl)) (wE (⟨8000000000 + 9, [.pls 10 1 (J 7) 0, 5], 20⟩) (fun _ => q_oneL (C := strC) (X := y0_00) (i := 7) rfl rfl rfl rfl ⟨by omega, by first | omega | (simp; omega)⟩ rfl rfl (by kernel_rfl)) (wC (⟨80, [.tup [16], .tup []], 17⟩) (fun _ => q_cV (h := fun w hw => by exact pValue_n _ _)) (wC (⟨80, [.tup [18], .tup []], 19⟩) (fun _ => q_cV (h := fun w hw => by exact pValue_n _ _)) ?_)))))))))
        by_cases h9 : (at_ y0_00 7) = (bstr 2 31074)
        ·rw [if_pos h9]
         refine wS (.string (at_ y0_00 8) :: I (valueN (at_ y0_00 8)) :: .string (at_ y0_00 9) :: I (valueN (at_ y0_00 9)) :: .string ((writeN A.n ((⟨(valueN (at_ y0_00 0)), (valueN (at_ y0_00 1)), (valueN (at_ y0_00 2)), 5, 0, (valueN (at_ y0_00 5)), ⟨(valueN (at_ y0_00 0)), (valueN (at_ y0_00 4))⟩, ⟨(valueN (at_ y0_00 8)), (valueN (at_ y0_00 9))⟩, (valueN (at_ y0_00 6))⟩ : Po))).1) :: I ((writeN A.n ((⟨(valueN (at_ y0_00 0)), (valueN (at_ y0_00 1)), (valueN (at_ y0_00 2)), 5, 0, (valueN (at_ y0_00 5)), ⟨(valueN (at_ y0_00 0)), (valueN (at_ y0_00 4))⟩, ⟨(valueN (at_ y0_00 8)), (valueN (at_ y0_00 9))⟩, (valueN (at_ y0_00 6))⟩ : Po))).2) :: []) (wE (⟨tagB .eql, [20, .str 2 31074], .bool true⟩) (fun _ => q_seq_t rfl rfl h9) (wE (⟨2000000000 + 89, [.sls 10 1 (J 0) 6 3, J 8], .pls 10 1 (J 8) 0⟩) (fun _ => q_idxL (oz := 0) (m := 8) (n := (y0_00.length : Int)) rfl rfl rfl rfl (by omega) (by show some 8 = some (0 + 8); exact congrArg some (by omega)) (by kernel_rfl)) (wE (⟨8000000000 + 9, [.pls 10 1 (J 8) 0, 5], 21⟩) (fun _ => q_oneL (C := strC) (X := y0_00) (i := 8) rfl rfl rfl rfl ⟨by omega, by first | omega | (simp; omega)⟩ rfl rfl (by kernel_rfl)) (wE (⟨2000000000 + 89, [.sls 10 1 (J 0) 6 3, J 9], .pls 10 1 (J 9) 0⟩) (fun _ => q_idxL (oz := 0) (m := 9) (n := (y0_00.length : Int)) rfl rfl rfl rfl (by omega) (by show some 9 = some (0 + 9); exact congrArg some (by omega)) (by kernel_rfl)) (wE (⟨8000000000 + 9, [.pls 10 1 (J 9) 0, 5], 23⟩) (fun _ => q_oneL (C := strC) (X := y0_00) (i := 9) rfl rfl rfl rfl ⟨by omega, by first | omega | (simp; omega)⟩ rfl rfl (by kernel_rfl)) (wC (⟨80, [.tup [21], .tup []], 22⟩) (fun _ => q_cV (h := fun w hw => by exact pValue_n _ _)) (wC (⟨80, [.tup [23], .tup []], 24⟩) (fun _ => q_cV (h := fun w hw => by exact pValue_n _ _)) (wC (⟨16, [.tup [1, .agg [8, 10, 12, .bs 1 5, J 0, 17, 8, 14, 22, 24, 19]], .tup []], .tup [25, 26]⟩) (fun _ => q_cV (h := fun w hw => by exact pRWrite_n _ _ _)) ?_))))))))
         by_cases h10 : (writeN A.n ((⟨(valueN (at_ y0_00 0)), (valueN (at_ y0_00 1)), (valueN (at_ y0_00 2)), 5, 0, (valueN (at_ y0_00 5)), ⟨(valueN (at_ y0_00 0)), (valueN (at_ y0_00 4))⟩, ⟨(valueN (at_ y0_00 8)), (valueN (at_ y0_00 9))⟩, (valueN (at_ y0_00 6))⟩ : Po))).2 = 0
         ·rw [if_pos h10]
          refine wF .neq 26 (J 0) (fun h => h h10) ?_
          by_cases h11 : (writeN A.n ((⟨(valueN (at_ y0_00 0)), (valueN (at_ y0_00 1)), (valueN (at_ y0_00 2)), 5, 0, (valueN (at_ y0_00 5)), ⟨(valueN (at_ y0_00 0)), (valueN (at_ y0_00 4))⟩, ⟨(valueN (at_ y0_00 8)), (valueN (at_ y0_00 9))⟩, (valueN (at_ y0_00 6))⟩ : Po))).1 = A.s
          ·rw [if_pos h11]
           refine wE (⟨tagB .neq, [25, 2], .bool false⟩) (fun _ => q_sne_f rfl rfl h11) ?_
           exact wRet (v := .tup [.agg [8, 10, 12, .bs 1 5, .int .i64 0, 17, 8, 14, 22, 24, 19], .int .i64 0]) ok0 200 200 [1, 2] rfl rfl rfl (by kernel_rfl) rfl
          ·rw [if_neg h11]
           refine wE (⟨tagB .neq, [25, 2], .bool true⟩) (fun _ => q_sne_t rfl rfl h11) ?_
           exact wRet (v := .tup [.agg [.int .i64 0, .int .i64 0, .int .i64 0, .bs 1 0, .int .i64 0, .int .i64 0, .int .i64 0, .int .i64 0, .int .i64 0, .int .i64 0, .int .i64 0], .int .i64 4]) ok0 200 200 [1, 2] rfl rfl rfl (by kernel_rfl) rfl
         ·rw [if_neg h10]
          refine wT .neq 26 (J 0) h10 ?_
          exact wRet (v := .tup [.agg [.int .i64 0, .int .i64 0, .int .i64 0, .bs 1 0, .int .i64 0, .int .i64 0, .int .i64 0, .int .i64 0, .int .i64 0, .int .i64 0, .int .i64 0], .int .i64 4]) ok0 200 200 [1, 2] rfl rfl rfl (by kernel_rfl) rfl
        ·rw [if_neg h9]
         refine wS (.string ((writeN A.n ((⟨(valueN (at_ y0_00 0)), (valueN (at_ y0_00 1)), (valueN (at_ y0_00 2)), 5, 0, (valueN (at_ y0_00 5)), ⟨(valueN (at_ y0_00 0)), (valueN (at_ y0_00 4))⟩, ⟨(0), 0⟩, (valueN (at_ y0_00 6))⟩ : Po))).1) :: I ((writeN A.n ((⟨(valueN (at_ y0_00 0)), (valueN (at_ y0_00 1)), (valueN (at_ y0_00 2)), 5, 0, (valueN (at_ y0_00 5)), ⟨(valueN (at_ y0_00 0)), (valueN (at_ y0_00 4))⟩, ⟨(0), 0⟩, (valueN (at_ y0_00 6))⟩ : Po))).2) :: []) (wE (⟨tagB .eql, [20, .str 2 31074], .bool false⟩) (fun _ => q_seq_f rfl rfl h9) (wC (⟨16, [.tup [1, .agg [8, 10, 12, .bs 1 5, J 0, 17, 8, 14, J 0, J 0, 19]], .tup []], .tup [21, 22]⟩) (fun _ => q_cV (h := fun w hw => by exact pRWrite_n _ _ _)) ?_))
         by_cases h10 : (writeN A.n ((⟨(valueN (at_ y0_00 0)), (valueN (at_ y0_00 1)), (valueN (at_ y0_00 2)), 5, 0, (valueN (at_ y0_00 5)), ⟨(valueN (at_ y0_00 0)), (valueN (at_ y0_00 4))⟩, ⟨(0), 0⟩, (valueN (at_ y0_00 6))⟩ : Po))).2 = 0
         ·rw [if_pos h10]
          refine wF .neq 22 (J 0) (fun h => h h10) ?_
          by_cases h11 : (writeN A.n ((⟨(valueN (at_ y0_00 0)), (valueN (at_ y0_00 1)), (valueN (at_ y0_00 2)), 5, 0, (valueN (at_ y0_00 5)), ⟨(valueN (at_ y0_00 0)), (valueN (at_ y0_00 4))⟩, ⟨(0), 0⟩, (valueN (at_ y0_00 6))⟩ : Po))).1 = A.s
          ·rw [if_pos h11]
           refine wE (⟨tagB .neq, [21, 2], .bool false⟩) (fun _ => q_sne_f rfl rfl h11) ?_
           exact wRet (v := .tup [.agg [8, 10, 12, .bs 1 5, .int .i64 0, 17, 8, 14, .int .i64 0, .int .i64 0, 19], .int .i64 0]) ok0 200 200 [1, 2] rfl rfl rfl (by kernel_rfl) rfl
          ·rw [if_neg h11]
           refine wE (⟨tagB .neq, [21, 2], .bool true⟩) (fun _ => q_sne_t rfl rfl h11) ?_
           exact wRet (v := .tup [.agg [.int .i64 0, .int .i64 0, .int .i64 0, .bs 1 0, .int .i64 0, .int .i64 0, .int .i64 0, .int .i64 0, .int .i64 0, .int .i64 0, .int .i64 0], .int .i64 4]) ok0 200 200 [1, 2] rfl rfl rfl (by kernel_rfl) rfl
         ·rw [if_neg h10]
          refine wT .neq 22 (J 0) h10 ?_
          exact wRet (v := .tup [.agg [.int .i64 0, .int .i64 0, .int .i64 0, .bs 1 0, .int .i64 0, .int .i64 0, .int .i64 0, .int .i64 0, .int .i64 0, .int .i64 0, .int .i64 0], .int .i64 4]) ok0 200 200 [1, 2] rfl rfl rfl (by kernel_rfl) rfl
       ·rw [if_neg h8]
        refine wS (.string ((writeN A.n ((⟨(valueN (at_ y0_00 0)), (valueN (at_ y0_00 1)), (valueN (at_ y0_00 2)), 0, 0, 0, ⟨(0), 0⟩, ⟨(0), 0⟩, 0⟩ : Po))).1) :: I ((writeN A.n ((⟨(valueN (at_ y0_00 0)), (valueN (at_ y0_00 1)), (valueN (at_ y0_00 2)), 0, 0, 0, ⟨(0), 0⟩, ⟨(0), 0⟩, 0⟩ : Po))).2) :: []) (wE (⟨tagB .eql, [15, .str 5 435778314615], .bool false⟩) (fun _ => q_seq_f rfl rfl h8) (wC (⟨16, [.tup [1, .agg [8, 10, 12, .bs 1 0, J 0, J 0, J 0, J 0, J 0, J 0, J 0]], .tup []], .tup [16, 17]⟩) (fun _ => q_cV (h := fun w hw => by exact pRWrite_n _ _ _)) ?_))
        by_cases h9 : (writeN A.n ((⟨(valueN (at_ y0_00 0)), (valueN (at_ y0_00 1)), (valueN (at_ y0_00 2)), 0, 0, 0, ⟨(0), 0⟩, ⟨(0), 0⟩, 0⟩ : Po))).2 = 0
        ·rw [if_pos h9]
         refine wF .neq 17 (J 0) (fun h => h h9) ?_
         by_cases h10 : (writeN A.n ((⟨(valueN (at_ y0_00 0)), (valueN (at_ y0_00 1)), (valueN (at_ y0_00 2)), 0, 0, 0, ⟨(0), 0⟩, ⟨(0), 0⟩, 0⟩ : Po))).1 = A.s
         ·rw [if_pos h10]
          refine wE (⟨tagB .neq, [16, 2], .bool false⟩) (fun _ => q_sne_f rfl rfl h10) ?_
          exact wRet (v := .tup [.agg [8, 10, 12, .bs 1 0, .int .i64 0, .int .i64 0, .int .i64 0, .int .i64 0, .int .i64 0, .int .i64 0, .int .i64 0], .int .i64 0]) ok0 200 200 [1, 2] rfl rfl rfl (by kernel_rfl) rfl
         ·rw [if_neg h10]
          refine wE (⟨tagB .neq, [16, 2], .bool true⟩) (fun _ => q_sne_t rfl rfl h10) ?_
          exact wRet (v := .tup [.agg [.int .i64 0, .int .i64 0, .int .i64 0, .bs 1 0, .int .i64 0, .int .i64 0, .int .i64 0, .int .i64 0, .int .i64 0, .int .i64 0, .int .i64 0], .int .i64 4]) ok0 200 200 [1, 2] rfl rfl rfl (by kernel_rfl) rfl
        ·rw [if_neg h9]
         refine wT .neq 17 (J 0) h9 ?_
         exact wRet (v := .tup [.agg [.int .i64 0, .int .i64 0, .int .i64 0, .bs 1 0, .int .i64 0, .int .i64 0, .int .i64 0, .int .i64 0, .int .i64 0, .int .i64 0, .int .i64 0], .int .i64 4]) ok0 200 200 [1, 2] rfl rfl rfl (by kernel_rfl) rfl
 ·rw [if_neg h1]
  refine wC (⟨78, [.tup [1], .tup []], (.bool false)⟩) (fun _ => q_cV (h := fun w hw => by have hb := decide_eq_false h1; rw [← hb]; exact rMany_n _ _)) ?_
  exact wRet (v := .tup [.agg [.int .i64 0, .int .i64 0, .int .i64 0, .bs 1 0, .int .i64 0, .int .i64 0, .int .i64 0, .int .i64 0, .int .i64 0, .int .i64 0, .int .i64 0], .int .i64 1]) ok0 200 200 [1, 2] rfl rfl rfl (by kernel_rfl) rfl
theorem pRRead_L0_n (A : pRRead_A) (w : World) : ∀ (fu : Nat) (l : List ByteArray), 10 - l.length < fu → pRRead_L0 A w fu l = some (0, l ++ List.replicate (10 - l.length) (bstr 0 0), ()) := by
 intro fu
 induction fu with
 | zero => intro l h; omega
 | succ fu ih =>
  intro l h
  rw [pRRead_L0]
  by_cases hl : (l.length : Int) < 10
  ·rw [if_pos hl, ih _ (by simp only [List.length_append, List.length_cons, List.length_nil]; omega)]
   rw [show 10 - l.length = (10 - (l ++ [bstr 0 0]).length) + 1 by simp only [List.length_append, List.length_cons, List.length_nil]; omega, List.replicate_succ]
   simp only [List.append_assoc, List.singleton_append]
  ·rw [if_neg hl, show 10 - l.length = 0 by omega]
   simp
theorem pRRead_a (A : pRRead_A) (w : World) (hn : A.n = 3 ∨ A.n = 5) : RdgOK A.n A.s (tupR (pRRead_r A w)) := by
 unfold pRRead_r
 rw [if_pos hn, pRRead_L0_n A w _ _ (by omega)]
 generalize wordsN A.s ++ List.replicate (10 - (wordsN A.s).length) (bstr 0 0) = y
 simp only []
 repeat' with_reducible first
  | exact rdL
  | refine rdI (fun _ => ?_) (fun _ => ?_)
 all_goals (rename_i h1 h2; dsimp only [tupR]; exact rdW h1 h2 rfl rfl)
theorem pRRead_b (A : pRRead_A) (w : World) (p : Po) (hc : checkN A.n p = 0) (hs : lineN p = A.s) : tupR (pRRead_r A w) = (p, 0) := by
 obtain ⟨n, s⟩ := A
 simp only at hc hs
 subst hs
 have hn : n = 3 ∨ n = 5 := (formN2 hc).2.2.1
 unfold pRRead_r
 rw [if_pos hn, pRRead_L0_n _ w _ _ (by omega)]
 simp only []
 rw [words_line hc]
 have hf := (formL hc).1
 have e1 : (bstr 3 6645094 = bstr 4 1701734758) = False := by decide +kernel
 have e2 : (bstr 4 1701536116 = bstr 4 1701734758) = False := by decide +kernel
 have e3 : (bstr 4 1701536116 = bstr 3 6645094) = False := by decide +kernel
 have e4 : (bstr 3 7954800 = bstr 4 1701734758) = False := by decide +kernel
 have e5 : (bstr 3 7954800 = bstr 3 6645094) = False := by decide +kernel
 have e6 : (bstr 3 7954800 = bstr 4 1701536116) = False := by decide +kernel
 have e7 : (bstr 5 435778314615 = bstr 4 1701734758) = False := by decide +kernel
 have e8 : (bstr 5 435778314615 = bstr 3 6645094) = False := by decide +kernel
 have e9 : (bstr 5 435778314615 = bstr 4 1701536116) = False := by decide +kernel
 have e10 : (bstr 5 435778314615 = bstr 3 7954800) = False := by decide +kernel
 have e11 : (bstr 0 0 = bstr 2 31074) = False := by decide +kernel
 have e12 : (bstr 4 1701734758 = bstr 3 6645094) = False := by decide +kernel
 rcases formK hc with ⟨r, nu, t, c, o, am, rfl | rfl⟩ | ⟨r, nu, t, o, ⟨x1, x2⟩, am, rfl⟩ | ⟨r, nu, t, o, k, am, rfl | rfl⟩ | ⟨r, nu, t, o, k, y, m, am, rfl, hy⟩
 all_goals
  simp only at hf
  obtain ⟨h1, h2, h3, h4, h5, h6, h7, h8, h9, h10⟩ := hf
  have v : ∀ z : Int, 0 ≤ z ∧ z ≤ 1000000 → valueN (itoaB z) = z := fun z hz => value_itoa (by omega)
  first
  | simp [wordsP, at_, v, writeN, hc, tupR, h1, h2, h3, h4, h5, h6, h7, h8, h9, h10, e1, e2, e3, e4, e5, e6, e7, e8, e9, e10, e11, e12, hy]
  | simp [wordsP, at_, v, writeN, hc, tupR, h1, h2, h3, h4, h5, h6, h7, h8, h9, h10, e1, e2, e3, e4, e5, e6, e7, e8, e9, e10, e11, e12]
theorem pRRead_r_n (n : Int) (s : ByteArray) (w : World) : tupR (pRRead_r ⟨n, s⟩ w) = readN n s := by
 by_cases hn : n = 3 ∨ n = 5
 ·exact read_eq hn (pRRead_a ⟨n, s⟩ w hn) fun p hc hs => pRRead_b ⟨n, s⟩ w p hc hs
 ·rw [readN_not hn]
  unfold pRRead_r
  rw [if_neg hn]
theorem pRRead_n {w : World} (n : Int) (s : ByteArray) (h : (s.size : Int) ≤ 300) : Calls Tryz.prog 18 #[.int .i64 n, .string s] w fun e w' => e = .returned (.tuple #[.agg #[.int .i64 (readN n s).1.reeve, .int .i64 (readN n s).1.number, .int .i64 (readN n s).1.tick, .int .u8 (readN n s).1.kind, .int .i64 (readN n s).1.cse, .int .i64 (readN n s).1.owner, .int .i64 (readN n s).1.of.reeve, .int .i64 (readN n s).1.of.number, .int .i64 (readN n s).1.by_.reeve, .int .i64 (readN n s).1.by_.number, .int .i64 (readN n s).1.amount], .int .i64 (readN n s).2]) ∧ Chg (fun _ => False) w w' := by
 rw [← pRRead_r_n n s w]
 exact pRRead_any ⟨n, s⟩ w h
theorem readN_line {n : Int} {p : Po} (h : checkN n p = 0) (w : World) : readN n (lineN p) = (p, 0) := by
 rw [← pRRead_r_n n (lineN p) w]
 exact pRRead_b ⟨n, lineN p⟩ w p h rfl
structure pR_A where
 p : Po
def pR_r  (A : pR_A) (w : World) : Int × Int × Int := (if 1 ≤ A.p.kind then (if A.p.kind ≤ 5 then (if A.p.kind = 1 then (A.p.owner, 0, A.p.amount) else (if A.p.kind = 2 then (A.p.owner, 0, A.p.amount) else (if A.p.kind = 3 then ((IntKind.wrap .i64 (100 + A.p.reeve)), 200, A.p.amount) else (if A.p.kind = 4 then (if A.p.by_.reeve = 0 then (if A.p.by_.number = 0 then ((IntKind.wrap .i64 (100 + A.p.reeve)), A.p.owner, A.p.amount) else (200, A.p.owner, A.p.amount)) else (200, A.p.owner, A.p.amount)) else (0, A.p.owner, A.p.amount))))) else (0, 0, 0)) else (0, 0, 0))
theorem pR_any  (A : pR_A) (w : World) (h0 : 0 ≤ A.p.kind ∧ A.p.kind ≤ 255) : Calls Tryz.prog 21 #[A.p.val] w fun e w' => e = .returned (.agg #[.int .i64 ((pR_r A w).1), .int .i64 ((pR_r A w).2.1), .int .i64 ((pR_r A w).2.2)]) ∧ Chg (fun _ => False) w w' := by
 unfold pR_r
 refine wGo (E := E0) (n := 8) (w := w) (L := id) ?_
 refine wS (.agg #[] :: poV A.p ++ .int .i64 A.p.kind :: []) (wE (⟨1000000000 + (5 * 10000 + 3), [.sym 4], .sym 12⟩) (fun _ => q_convI (ks := .u8) (kd := .i64) (by kernel_rfl) (by kernel_rfl) rfl (show -9223372036854775808 ≤ A.p.kind ∧ A.p.kind ≤ 9223372036854775807 by omega) rfl rfl rfl) ?_)
 by_cases h1 : 1 ≤ A.p.kind
 ·rw [if_pos h1]
  refine wE (⟨tagB .geq, [.sym 12, .int .i64 1], .bool true⟩) (fun _ => q_t .geq rfl rfl rfl h1) ?_
  by_cases h2 : A.p.kind ≤ 5
  ·rw [if_pos h2]
   refine wE (⟨tagB .leq, [.sym 12, .int .i64 5], .bool true⟩) (fun _ => q_t .leq rfl rfl rfl h2) ?_
   by_cases h3 : A.p.kind = 1
   ·rw [if_pos h3]
    refine wE (⟨3000000000 + 142, [.agg [.nf, .nf, .fn (.func 178) [] [], .fn (.func 179) [] [], .fn (.func 178) [] [], .fn (.func 179) [] [], .fn (.func 180) [] [], .fn (.func 181) [] [], .fn (.func 182) [] [], .fn (.func 178) [] [], .fn (.func 179) [] [], .fn (.func 178) [] []], .sym 4], .agg [.fn (.func 178) [] [], .fn (.func 179) [] []]⟩) (fun _ => q_idx rfl rfl (c := 1) h3 (by kernel_rfl)) ?_
    exact wRet (v := .agg [.sym 6, .int .i64 0, .sym 11]) ok0 60 60 [.agg [.sym 1, .sym 2, .sym 3, .sym 4, .sym 5, .sym 6, .sym 7, .sym 8, .sym 9, .sym 10, .sym 11]] rfl rfl rfl (by kernel_rfl) rfl
   ·rw [if_neg h3]
    by_cases h4 : A.p.kind = 2
    ·rw [if_pos h4]
     refine wE (⟨3000000000 + 142, [.agg [.nf, .nf, .fn (.func 178) [] [], .fn (.func 179) [] [], .fn (.func 178) [] [], .fn (.func 179) [] [], .fn (.func 180) [] [], .fn (.func 181) [] [], .fn (.func 182) [] [], .fn (.func 178) [] [], .fn (.func 179) [] [], .fn (.func 178) [] []], .sym 4], .agg [.fn (.func 178) [] [], .fn (.func 179) [] []]⟩) (fun _ => q_idx rfl rfl (c := 2) h4 (by kernel_rfl)) ?_
     exact wRet (v := .agg [.sym 6, .int .i64 0, .sym 11]) ok0 60 60 [.agg [.sym 1, .sym 2, .sym 3, .sym 4, .sym 5, .sym 6, .sym 7, .sym 8, .sym 9, .sym 10, .sym 11]] rfl rfl rfl (by kernel_rfl) rfl
    ·rw [if_neg h4]
     by_cases h5 : A.p.kind = 3
     ·rw [if_pos h5]
      refine wS (.int .i64 (IntKind.wrap .i64 (100 + A.p.reeve)) :: []) (wE (⟨3000000000 + 142, [.agg [.nf, .nf, .fn (.func 178) [] [], .fn (.func 179) [] [], .fn (.func 178) [] [], .fn (.func 179) [] [], .fn (.func 180) [] [], .fn (.func 181) [] [], .fn (.func 182) [] [], .fn (.func 178) [] [], .fn (.func 179) [] [], .fn (.func 178) [] []], .sym 4], .agg [.fn (.func 180) [] [], .fn (.func 181) [] []]⟩) (fun _ => q_idx rfl rfl (c := 3) h5 (by kernel_rfl)) (wE (⟨tagB .add, [.int .i64 100, .sym 1], .sym 13⟩) (fun _ => q_add rfl rfl rfl) ?_))
      exact wRet (v := .agg [.sym 13, .int .i64 200, .sym 11]) ok0 60 60 [.agg [.sym 1, .sym 2, .sym 3, .sym 4, .sym 5, .sym 6, .sym 7, .sym 8, .sym 9, .sym 10, .sym 11]] rfl rfl rfl (by kernel_rfl) rfl
     ·rw [if_neg h5]
      by_cases h6 : A.p.kind = 4
      ·rw [if_pos h6]
       refine wE (⟨3000000000 + 142, [.agg [.nf, .nf, .fn (.func 178) [] [], .fn (.func 179) [] [], .fn (.func 178) [] [], .fn (.func 179) [] [], .fn (.func 180) [] [], .fn (.func 181) [] [], .fn (.func 182) [] [], .fn (.func 178) [] [], .fn (.func 179) [] [], .fn (.func 178) [] []], .sym 4], .agg [.fn (.func 182) [] [], .fn (.func 178) [] []]⟩) (fun _ => q_idx rfl rfl (c := 4) h6 (by kernel_rfl)) ?_
       by_cases h7 : A.p.by_.reeve = 0
       ·rw [if_pos h7]
        refine wE (⟨20, [.sym 9, .int .i64 0], .bool true⟩) (fun _ => q_it rfl rfl h7) ?_
        by_cases h8 : A.p.by_.number = 0
        ·rw [if_pos h8]
         refine wS (.int .i64 (IntKind.wrap .i64 (100 + A.p.reeve)) :: []) (wE (⟨20, [.sym 10, .int .i64 0], .bool true⟩) (fun _ => q_it rfl rfl h8) (wE (⟨tagB .add, [.int .i64 100, .sym 1], .sym 13⟩) (fun _ => q_add rfl rfl rfl) ?_))
         exact wRet (v := .agg [.sym 13, .sym 6, .sym 11]) ok0 60 60 [.agg [.sym 1, .sym 2, .sym 3, .sym 4, .sym 5, .sym 6, .sym 7, .sym 8, .sym 9, .sym 10, .sym 11]] rfl rfl rfl (by kernel_rfl) rfl
        ·rw [if_neg h8]
         refine wE (⟨20, [.sym 10, .int .i64 0], .bool false⟩) (fun _ => q_if rfl rfl h8) ?_
         exact wRet (v := .agg [.int .i64 200, .sym 6, .sym 11]) ok0 60 60 [.agg [.sym 1, .sym 2, .sym 3, .sym 4, .sym 5, .sym 6, .sym 7, .sym 8, .sym 9, .sym 10, .sym 11]] rfl rfl rfl (by kernel_rfl) rfl
       ·rw [if_neg h7]
        refine wE (⟨20, [.sym 9, .int .i64 0], .bool false⟩) (fun _ => q_if rfl rfl h7) ?_
        exact wRet (v := .agg [.int .i64 200, .sym 6, .sym 11]) ok0 60 60 [.agg [.sym 1, .sym 2, .sym 3, .sym 4, .sym 5, .sym 6, .sym 7, .sym 8, .sym 9, .sym 10, .sym 11]] rfl rfl rfl (by kernel_rfl) rfl
      ·rw [if_neg h6]
       refine wE (⟨3000000000 + 142, [.agg [.nf, .nf, .fn (.func 178) [] [], .fn (.func 179) [] [], .fn (.func 178) [] [], .fn (.func 179) [] [], .fn (.func 180) [] [], .fn (.func 181) [] [], .fn (.func 182) [] [], .fn (.func 178) [] [], .fn (.func 179) [] [], .fn (.func 178) [] []], .sym 4], .agg [.fn (.func 179) [] [], .fn (.func 178) [] []]⟩) (fun _ => q_idx rfl rfl (c := 5) (show A.p.kind = 5 by omega) (by kernel_rfl)) ?_
       exact wRet (v := .agg [.int .i64 0, .sym 6, .sym 11]) ok0 60 60 [.agg [.sym 1, .sym 2, .sym 3, .sym 4, .sym 5, .sym 6, .sym 7, .sym 8, .sym 9, .sym 10, .sym 11]] rfl rfl rfl (by kernel_rfl) rfl
  ·rw [if_neg h2]
   refine wE (⟨tagB .leq, [.sym 12, .int .i64 5], .bool false⟩) (fun _ => q_f .leq rfl rfl rfl h2) ?_
   exact wRet (v := .agg [.int .i64 0, .int .i64 0, .int .i64 0]) ok0 60 60 [.agg [.sym 1, .sym 2, .sym 3, .sym 4, .sym 5, .sym 6, .sym 7, .sym 8, .sym 9, .sym 10, .sym 11]] rfl rfl rfl (by kernel_rfl) rfl
 ·rw [if_neg h1]
  refine wE (⟨tagB .geq, [.sym 12, .int .i64 1], .bool false⟩) (fun _ => q_f .geq rfl rfl rfl h1) ?_
  exact wRet (v := .agg [.int .i64 0, .int .i64 0, .int .i64 0]) ok0 60 60 [.agg [.sym 1, .sym 2, .sym 3, .sym 4, .sym 5, .sym 6, .sym 7, .sym 8, .sym 9, .sym 10, .sym 11]] rfl rfl rfl (by kernel_rfl) rfl
theorem pTransfer_n (p : Po) (w : World) (h : 0 ≤ p.kind ∧ p.kind ≤ 255) : Calls Tryz.prog 21 #[p.val] w fun e w' => e = .returned (.agg #[.int .i64 (debitN p), .int .i64 (creditN p), .int .i64 (amountN p)]) ∧ Chg (fun _ => False) w w' := by
 have := pR_any ⟨p⟩ w h
 have e : pR_r ⟨p⟩ w = (debitN p, creditN p, amountN p) := by
  unfold pR_r debitN creditN amountN
  repeat' split
  all_goals first | rfl | (exfalso; omega) | (simp_all; done) | (simp_all; omega)
 rw [e] at this
 exact this
structure pRTransfer_A where
 p : Po
def pRTransfer_r  (A : pRTransfer_A) (w : World) : Int × Int × Int := (if A.p.kind = 1 then (A.p.owner, 0, A.p.amount) else (if A.p.kind = 2 then (A.p.owner, 0, A.p.amount) else (if A.p.kind = 3 then ((IntKind.wrap .i64 (100 + A.p.reeve)), 200, A.p.amount) else (if A.p.kind = 4 then (if A.p.by_.reeve = 0 then (if A.p.by_.number = 0 then ((IntKind.wrap .i64 (100 + A.p.reeve)), A.p.owner, A.p.amount) else (200, A.p.owner, A.p.amount)) else (200, A.p.owner, A.p.amount)) else (if A.p.kind = 5 then (0, A.p.owner, A.p.amount) else (0, 0, 0))))))
theorem pRTransfer_any  (A : pRTransfer_A) (w : World) (h0 : 0 ≤ A.p.kind ∧ A.p.kind ≤ 255) : Calls Tryz.prog 22 #[A.p.val] w fun e w' => e = .returned (.agg #[.int .i64 ((pRTransfer_r A w).1), .int .i64 ((pRTransfer_r A w).2.1), .int .i64 ((pRTransfer_r A w).2.2)]) ∧ Chg (fun _ => False) w w' := by
 unfold pRTransfer_r
 refine wGo (E := E0) (n := 8) (w := w) (L := id) ?_
 refine wS (.agg #[] :: poV A.p ++ []) ?_
 by_cases h1 : A.p.kind = 1
 ·rw [if_pos h1]
  refine wE (⟨tagB .eql, [.sym 4, .int .u8 1], .bool true⟩) (fun _ => q_t .eql rfl rfl rfl h1) ?_
  exact wRet (v := .agg [.sym 6, .int .i64 0, .sym 11]) ok0 60 60 [.agg [.sym 1, .sym 2, .sym 3, .sym 4, .sym 5, .sym 6, .sym 7, .sym 8, .sym 9, .sym 10, .sym 11]] rfl rfl rfl (by kernel_rfl) rfl
 ·rw [if_neg h1]
  refine wE (⟨tagB .eql, [.sym 4, .int .u8 1], .bool false⟩) (fun _ => q_f .eql rfl rfl rfl h1) ?_
  by_cases h2 : A.p.kind = 2
  ·rw [if_pos h2]
   refine wE (⟨tagB .eql, [.sym 4, .int .u8 2], .bool true⟩) (fun _ => q_t .eql rfl rfl rfl h2) ?_
   exact wRet (v := .agg [.sym 6, .int .i64 0, .sym 11]) ok0 60 60 [.agg [.sym 1, .sym 2, .sym 3, .sym 4, .sym 5, .sym 6, .sym 7, .sym 8, .sym 9, .sym 10, .sym 11]] rfl rfl rfl (by kernel_rfl) rfl
  ·rw [if_neg h2]
   refine wE (⟨tagB .eql, [.sym 4, .int .u8 2], .bool false⟩) (fun _ => q_f .eql rfl rfl rfl h2) ?_
   by_cases h3 : A.p.kind = 3
   ·rw [if_pos h3]
    refine wS (.int .i64 (IntKind.wrap .i64 (100 + A.p.reeve)) :: []) (wE (⟨tagB .eql, [.sym 4, .int .u8 3], .bool true⟩) (fun _ => q_t .eql rfl rfl rfl h3) (wE (⟨tagB .add, [.int .i64 100, .sym 1], .sym 12⟩) (fun _ => q_add rfl rfl rfl) ?_))
    exact wRet (v := .agg [.sym 12, .int .i64 200, .sym 11]) ok0 60 60 [.agg [.sym 1, .sym 2, .sym 3, .sym 4, .sym 5, .sym 6, .sym 7, .sym 8, .sym 9, .sym 10, .sym 11]] rfl rfl rfl (by kernel_rfl) rfl
   ·rw [if_neg h3]
    refine wE (⟨tagB .eql, [.sym 4, .int .u8 3], .bool false⟩) (fun _ => q_f .eql rfl rfl rfl h3) ?_
    by_cases h4 : A.p.kind = 4
    ·rw [if_pos h4]
     refine wE (⟨tagB .eql, [.sym 4, .int .u8 4], .bool true⟩) (fun _ => q_t .eql rfl rfl rfl h4) ?_
     by_cases h5 : A.p.by_.reeve = 0
     ·rw [if_pos h5]
      refine wE (⟨20, [.sym 9, .int .i64 0], .bool true⟩) (fun _ => q_it rfl rfl h5) ?_
      by_cases h6 : A.p.by_.number = 0
      ·rw [if_pos h6]
       refine wS (.int .i64 (IntKind.wrap .i64 (100 + A.p.reeve)) :: []) (wE (⟨20, [.sym 10, .int .i64 0], .bool true⟩) (fun _ => q_it rfl rfl h6) (wE (⟨tagB .add, [.int .i64 100, .sym 1], .sym 12⟩) (fun _ => q_add rfl rfl rfl) ?_))
       exact wRet (v := .agg [.sym 12, .sym 6, .sym 11]) ok0 60 60 [.agg [.sym 1, .sym 2, .sym 3, .sym 4, .sym 5, .sym 6, .sym 7, .sym 8, .sym 9, .sym 10, .sym 11]] rfl rfl rfl (by kernel_rfl) rfl
      ·rw [if_neg h6]
       refine wE (⟨20, [.sym 10, .int .i64 0], .bool false⟩) (fun _ => q_if rfl rfl h6) ?_
       exact wRet (v := .agg [.int .i64 200, .sym 6, .sym 11]) ok0 60 60 [.agg [.sym 1, .sym 2, .sym 3, .sym 4, .sym 5, .sym 6, .sym 7, .sym 8, .sym 9, .sym 10, .sym 11]] rfl rfl rfl (by kernel_rfl) rfl
     ·rw [if_neg h5]
      refine wE (⟨20, [.sym 9, .int .i64 0], .bool false⟩) (fun _ => q_if rfl rfl h5) ?_
      exact wRet (v := .agg [.int .i64 200, .sym 6, .sym 11]) ok0 60 60 [.agg [.sym 1, .sym 2, .sym 3, .sym 4, .sym 5, .sym 6, .sym 7, .sym 8, .sym 9, .sym 10, .sym 11]] rfl rfl rfl (by kernel_rfl) rfl
    ·rw [if_neg h4]
     refine wE (⟨tagB .eql, [.sym 4, .int .u8 4], .bool false⟩) (fun _ => q_f .eql rfl rfl rfl h4) ?_
     by_cases h5 : A.p.kind = 5
     ·rw [if_pos h5]
      refine wE (⟨tagB .eql, [.sym 4, .int .u8 5], .bool true⟩) (fun _ => q_t .eql rfl rfl rfl h5) ?_
      exact wRet (v := .agg [.int .i64 0, .sym 6, .sym 11]) ok0 60 60 [.agg [.sym 1, .sym 2, .sym 3, .sym 4, .sym 5, .sym 6, .sym 7, .sym 8, .sym 9, .sym 10, .sym 11]] rfl rfl rfl (by kernel_rfl) rfl
     ·rw [if_neg h5]
      refine wE (⟨tagB .eql, [.sym 4, .int .u8 5], .bool false⟩) (fun _ => q_f .eql rfl rfl rfl h5) ?_
      exact wRet (v := .agg [.int .i64 0, .int .i64 0, .int .i64 0]) ok0 60 60 [.agg [.sym 1, .sym 2, .sym 3, .sym 4, .sym 5, .sym 6, .sym 7, .sym 8, .sym 9, .sym 10, .sym 11]] rfl rfl rfl (by kernel_rfl) rfl
theorem pRTransfer_n (p : Po) (w : World) (h : 0 ≤ p.kind ∧ p.kind ≤ 255) : Calls Tryz.prog 22 #[p.val] w fun e w' => e = .returned (.agg #[.int .i64 (debitN p), .int .i64 (creditN p), .int .i64 (amountN p)]) ∧ Chg (fun _ => False) w w' := by
 have := pRTransfer_any ⟨p⟩ w h
 have e : pRTransfer_r ⟨p⟩ w = (debitN p, creditN p, amountN p) := by
  unfold pRTransfer_r debitN creditN amountN
  repeat' split
  all_goals first | rfl | (exfalso; omega) | (simp_all; done) | (simp_all; omega)
 rw [e] at this
 exact this
end Go.Proofs.YtocabeobfbhajaaGreatDoor.Sx
end
