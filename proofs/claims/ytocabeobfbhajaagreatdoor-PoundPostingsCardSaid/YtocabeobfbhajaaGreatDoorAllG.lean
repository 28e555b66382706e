/- CheckPosting, in the reference. -/
import Derived.Test.YtocabeobfbhajaaGreatDoorAllE
import Derived.Test.YtocabeobfbhajaaGreatDoorPoH
import Derived.Test.YtocabeobfbhajaaGreatDoorAllC
import Derived.Lib.AtoiTie
set_option linter.unusedVariables false
set_option linter.unusedSimpArgs false
set_option linter.unusedSectionVars false
section
set_option maxRecDepth 100000
namespace Go.Proofs.YtocabeobfbhajaaGreatDoor
open Go Go.RowKit
theorem rcheckPosting_any (n : Int) (p : Po) (w : World) : Calls Tryz.prog 20 #[.int .i64 n, p.val] w fun e w' => e = .returned (.int .i64 (checkN n p)) ∧ Below w.heap.size w w' := by
 have HF := hid (rformed_any n p)
 have E : Hid (checkN n p = if formedB n p = true then 0 else 1) := rfl
 have e1 : manyB n = false → formedB n p = false := fun h => by simp [formedB, preB, h]
 unfold Po.val at *
 cases hm : manyB n
 ·rw [e1 hm] at E
  clear e1
  go_enter Tryz.func20, Tryz.ntmps20
  go_wp2_with fail
  refine (reeves_any n _).mono ?_
  rintro e w' ⟨rfl, rfl⟩
  rw [hm]
  go_wp2_with fail
  go_ret
  exact ⟨by rw [E.out]; rfl, (by go_grown)⟩
 ·clear e1
  go_enter Tryz.func20, Tryz.ntmps20
  go_wp2_with fail
  refine (reeves_any n _).mono ?_
  rintro e w' ⟨rfl, rfl⟩
  rw [hm]
  go_wp2_with fail
  refine (HF.out _ hm).mono ?_
  rintro e w' ⟨rfl, hb⟩
  have hb2 := ((Below.refl _ w).alloc (Nat.le_refl _) _).trans (hb.mono (by simp))
  clear hb
  cases hf : formedB n p
  all_goals
   rw [hf] at E
   have hf := hid hf
   go_wp2
   go_ret
   exact ⟨by rw [E.out]; rfl, hb2⟩
end Go.Proofs.YtocabeobfbhajaaGreatDoor
end
section
namespace Go.Proofs.YtocabeobfbhajaaGreatDoor.Sx
open Go Go.Proofs.YtocabeobfbhajaaGreatDoor
theorem rCheck_n (n : Int) (p : Po) (w : World) : Calls Tryz.prog 20 #[.int .i64 n, p.val] w fun e w' => e = .returned (.int .i64 (checkN n p)) ∧ Chg (fun _ => False) w w' := (rcheckPosting_any n p w).mono fun e w' h => ⟨h.1, Chg.of_below h.2⟩
theorem rMany_n (n : Int) (w : World) : Calls Tryz.prog 78 #[.int .i64 n] w fun e w' => e = .returned (.bool (decide (n = 3 ∨ n = 5))) ∧ Chg (fun _ => False) w w' := (reeves_any n w).mono fun e w' h => ⟨by
 rw [h.1]; unfold manyB
 by_cases h3 : n = 3 <;> by_cases h5 : n = 5 <;> simp [h3, h5], by rw [← h.2]; exact Chg.refl _ _⟩
end Go.Proofs.YtocabeobfbhajaaGreatDoor.Sx
end
section
namespace Go.Proofs.YtocabeobfbhajaaGreatDoor.Sx
open Go Go.Proofs.YtocabeobfbhajaaGreatDoor
def spB (n : Int) : ByteArray := bstr 1 32 ++ itoaB n
def lineN (p : Po) : ByteArray :=
 let h := itoaB p.reeve ++ spB p.number ++ spB p.tick
 if p.kind = 1 then h ++ bstr 5 435644098080 ++ spB p.cse ++ spB p.owner ++ spB p.amount
 else if p.kind = 2 then h ++ bstr 4 1701144096 ++ spB p.cse ++ spB p.owner ++ spB p.amount
 else if p.kind = 3 then h ++ bstr 5 435593245728 ++ spB p.of.reeve ++ spB p.of.number ++ spB p.owner ++ spB p.amount
 else if p.kind = 5 then h ++ bstr 6 111559248541472 ++ spB p.of.number ++ spB p.owner ++ spB p.amount
 else if p.by_.reeve = 0 ∧ p.by_.number = 0 then h ++ bstr 4 2036428832 ++ spB p.of.number ++ spB p.owner ++ spB p.amount
 else h ++ bstr 4 2036428832 ++ spB p.of.number ++ spB p.owner ++ spB p.amount ++ bstr 3 7954976 ++ spB p.by_.reeve ++ spB p.by_.number
theorem spB_size {n : Int} (h : 0 ≤ n ∧ n ≤ 999999999) : (spB n).size ≤ 10 := by
 have := itoaB_size h
 unfold spB
 rw [ByteArray.size_append, bstr_size]
 omega
theorem lineN_size {p : Po} (h : (0 ≤ p.reeve ∧ p.reeve ≤ 1000000) ∧ (0 ≤ p.number ∧ p.number ≤ 1000000) ∧ (0 ≤ p.tick ∧ p.tick ≤ 1000000) ∧ (0 ≤ p.cse ∧ p.cse ≤ 1000000) ∧ (0 ≤ p.owner ∧ p.owner ≤ 1000000) ∧ (0 ≤ p.of.reeve ∧ p.of.reeve ≤ 1000000) ∧ (0 ≤ p.of.number ∧ p.of.number ≤ 1000000) ∧ (0 ≤ p.by_.reeve ∧ p.by_.reeve ≤ 1000000) ∧ (0 ≤ p.by_.number ∧ p.by_.number ≤ 1000000) ∧ (0 ≤ p.amount ∧ p.amount ≤ 1000000)) : (((lineN p).size : Nat) : Int) ≤ 100 := by
 obtain ⟨h1, h2, h3, h4, h5, h6, h7, h8, h9, h10⟩ := h
 have s1 := itoaB_size (n := p.reeve) (by omega)
 have s2 := spB_size (n := p.number) (by omega)
 have s3 := spB_size (n := p.tick) (by omega)
 have s4 := spB_size (n := p.cse) (by omega)
 have s5 := spB_size (n := p.owner) (by omega)
 have s6 := spB_size (n := p.of.reeve) (by omega)
 have s7 := spB_size (n := p.of.number) (by omega)
 have s8 := spB_size (n := p.by_.reeve) (by omega)
 have s9 := spB_size (n := p.by_.number) (by omega)
 have s10 := spB_size (n := p.amount) (by omega)
 unfold lineN
 repeat' split
 all_goals simp only [ByteArray.size_append, bstr_size]; omega
theorem formL {n : Int} {p : Po} (h : checkN n p = 0) : ((0 ≤ p.reeve ∧ p.reeve ≤ 1000000) ∧ (0 ≤ p.number ∧ p.number ≤ 1000000) ∧ (0 ≤ p.tick ∧ p.tick ≤ 1000000) ∧ (0 ≤ p.cse ∧ p.cse ≤ 1000000) ∧ (0 ≤ p.owner ∧ p.owner ≤ 1000000) ∧ (0 ≤ p.of.reeve ∧ p.of.reeve ≤ 1000000) ∧ (0 ≤ p.of.number ∧ p.of.number ≤ 1000000) ∧ (0 ≤ p.by_.reeve ∧ p.by_.reeve ≤ 1000000) ∧ (0 ≤ p.by_.number ∧ p.by_.number ≤ 1000000) ∧ (0 ≤ p.amount ∧ p.amount ≤ 1000000)) ∧ (1 ≤ p.kind ∧ p.kind ≤ 5) ∧ (p.kind = 3 → p.cse = 0 ∧ p.by_.reeve = 0 ∧ p.by_.number = 0) ∧ (p.kind = 4 → p.cse = 0 ∧ p.of.reeve = p.reeve ∧ (p.by_.number = 0 → p.by_.reeve = 0)) ∧ (p.kind = 5 → p.cse = 0 ∧ p.of.reeve = p.reeve ∧ p.by_.reeve = 0 ∧ p.by_.number = 0) ∧ (p.kind = 1 ∨ p.kind = 2 → p.of.reeve = 0 ∧ p.of.number = 0 ∧ p.by_.reeve = 0 ∧ p.by_.number = 0) := by
 obtain ⟨h1, h2, h2', h3, h3', h4, h4', h5, h5', h6, h6', h7, h7', h8⟩ := formN h
 unfold checkN at h
 by_cases hf : formedB n p = true
 case neg => rw [if_neg hf] at h; cases h
 unfold formedB at hf
 rw [Bool.and_eq_true] at hf
 have hb := hf.2
 unfold YtocabeobfbhajaaGreatDoor.bodyB isRefB inB at hb
 have z : ∀ x : Rf, x = zeroRf → x.reeve = 0 ∧ x.number = 0 := by
  intro x hx; subst hx; exact ⟨rfl, rfl⟩
 split at hb
 ·simp only [Bool.and_eq_true, decide_eq_true_eq, beq_iff_eq] at hb
  obtain ⟨⟨⟨a, b⟩, c⟩, d⟩ := hb
  have a := z _ a; have b := z _ b
  omega
 split at hb
 ·simp only [Bool.and_eq_true, decide_eq_true_eq, beq_iff_eq] at hb
  obtain ⟨⟨⟨a, b⟩, c⟩, d⟩ := hb
  have b := z _ b
  omega
 split at hb
 ·simp only [Bool.and_eq_true, Bool.or_eq_true, decide_eq_true_eq, beq_iff_eq] at hb
  obtain ⟨⟨⟨⟨a, b⟩, c⟩, d⟩, e⟩ := hb
  rcases e with e | e
  ·have e := z _ e
   omega
  ·omega
 split at hb
 ·simp only [Bool.and_eq_true, decide_eq_true_eq, beq_iff_eq] at hb
  obtain ⟨⟨⟨⟨a, b⟩, c⟩, d⟩, e⟩ := hb
  have b := z _ b
  omega
 ·cases hb
end Go.Proofs.YtocabeobfbhajaaGreatDoor.Sx
end
section
set_option maxRecDepth 100000
namespace Go.Proofs.YtocabeobfbhajaaGreatDoor.Sx
open Go Go.RowKit Go.Proofs Go.Proofs.YtocabeobfbhajaaGreatDoor
theorem itoaB_lt {n : Int} (h : 0 ≤ n ∧ n < 10) : itoaB n = ⟨#[UInt8.ofNat (48 + n.toNat)]⟩ := by
 unfold itoaB Lib.itoa
 rw [if_neg (by omega)]
 unfold Lib.decDigits
 rw [dif_pos (by omega)]
theorem itoaB_ge {n : Int} (h : 10 ≤ n) : itoaB n = itoaB (n / 10) ++ itoaB (n % 10) := by
 have e : itoaB (n % 10) = ⟨#[UInt8.ofNat (48 + n.toNat % 10)]⟩ := by
  rw [itoaB_lt (by omega), show (n % 10).toNat = n.toNat % 10 from by omega]
 rw [e]
 unfold itoaB Lib.itoa
 rw [if_neg (by omega), if_neg (by omega), Lib.decDigits, dif_neg (by omega), show (n / 10).toNat = n.toNat / 10 from by omega]
 apply ByteArray.ext
 rw [ByteArray.data_append]
 simp
set_option maxHeartbeats 1000000 in
theorem digits_lo (n : Int) (h : 0 ≤ n ∧ n < 10) (w : World) : Calls Tryz.prog 171 #[.int .i64 n] w fun e w' => e = .returned (.string (itoaB n)) ∧ Chg (fun _ => False) w w' := by
 rw [itoaB_lt h]
 go_enter Tryz.func171, Tryz.ntmps171
 go_wp2
 rw [run_convert_bytes_string _ 117 9 5 _ 1 1 (by kernel_rfl) (by kernel_rfl) (by kernel_rfl), run_bytesToString _ _ 1 1 [48 + n] (run_loadCells_list _ ⟨w.heap.size, 0, none⟩ [.int .u8 (48 + n)] (by
  intro j v hv
  match j, hv with
  | 0, hv => simp at hv; subst hv; simp [Addr.add]
  | j + 1, hv => simp at hv))]
 have e : (48 + n).toNat = 48 + n.toNat := by omega
 rw [show ([48 + n].foldl (fun r (n : Int) => r.push (UInt8.ofNat n.toNat)) ByteArray.empty) = ⟨#[UInt8.ofNat (48 + n.toNat)]⟩ from by rw [← e]; rfl]
 go_wp2
 go_ret
 exact ⟨by rw [UInt8.ofNat_add]; rfl, Chg.of_below (by go_grown)⟩
set_option maxHeartbeats 1000000 in
theorem digits_hi (n : Int) (h : 10 ≤ n ∧ n ≤ 999999999) (H : ∀ m : Int, 0 ≤ m ∧ m < n → ∀ w : World, Calls Tryz.prog 171 #[.int .i64 m] w fun e w' => e = .returned (.string (itoaB m)) ∧ Chg (fun _ => False) w w') (w : World) : Calls Tryz.prog 171 #[.int .i64 n] w fun e w' => e = .returned (.string (itoaB n)) ∧ Chg (fun _ => False) w w' := by
 have HH := hid H
 have s1 := itoaB_size (n := n / 10) (by omega)
 have s2 := itoaB_size (n := n % 10) (by omega)
 rw [itoaB_ge h.1]
 go_enter Tryz.func171, Tryz.ntmps171
 go_wp2_with (first | (go_at_call 171; refine (HH.out _ (by omega) _).mono ?_; rintro e w' ⟨rfl, hc⟩))
 go_ret
 exact ⟨rfl, Chg.trans (by assumption) hc (fun _ _ h => h)⟩
theorem digits_n {n : Int} (h : 0 ≤ n ∧ n ≤ 999999999) (w : World) : Calls Tryz.prog 171 #[.int .i64 n] w fun e w' => e = .returned (.string (itoaB n)) ∧ Chg (fun _ => False) w w' := by
 have key : ∀ (k : Nat) (n : Int), 0 ≤ n ∧ n ≤ 999999999 → n < k → ∀ w : World, Calls Tryz.prog 171 #[.int .i64 n] w fun e w' => e = .returned (.string (itoaB n)) ∧ Chg (fun _ => False) w w' := by
  intro k
  induction k with
  | zero => intro n h h2; omega
  | succ k ih =>
   intro n h h2 w
   by_cases hn : n < 10
   ·exact digits_lo n (by omega) w
   ·exact digits_hi n (by omega) (fun m hm w => ih m (by omega) (by omega) w) w
 exact key (n.toNat + 1) n h (by omega) w
end Go.Proofs.YtocabeobfbhajaaGreatDoor.Sx
end
section
namespace Go.Proofs.YtocabeobfbhajaaGreatDoor.Sx
open Go Go.Proofs.YtocabeobfbhajaaGreatDoor
def writeN (n : Int) (p : Po) : ByteArray × Int := if checkN n p = 0 then (lineN p, 0) else (bstr 0 0, checkN n p)
theorem pFormed_n (n : Int) (p : Po) (w : World) : Calls Tryz.prog 81 #[.int .i64 n, p.val] w fun e w' => e = .returned (.bool (decide (checkN n p = 0))) ∧ Chg (fun _ => False) w w' := (formed_any n p w).mono fun e w' h => ⟨by
 rw [h.1]
 unfold checkN
 cases formedB n p <;> rfl, Chg.of_below h.2⟩
theorem atoiV_rng (s : ByteArray) : -9223372036854775808 ≤ atoiV s ∧ atoiV s ≤ 9223372036854775807 := by
 unfold atoiV
 split
 case h_2 => omega
 rename_i v hv
 unfold Lib.atoiAll at hv
 split at hv
 ·cases hv
 ·simp only at hv
  split at hv
  ·cases hv
  ·cases hv
  ·split at hv
   ·cases hv
   split at hv
   ·cases hv
   injection hv with hv
   subst hv
   split <;> omega
end Go.Proofs.YtocabeobfbhajaaGreatDoor.Sx
end
section
namespace Go.Proofs.YtocabeobfbhajaaGreatDoor.Sx
open Go Go.Proofs.YtocabeobfbhajaaGreatDoor
def noBl (l : List UInt8) : Prop := ∀ b ∈ l, b ≠ 32
theorem index_no : ∀ l : List UInt8, noBl l → Lib.index l [32] = -1
 | [], _ => rfl
 | b :: l, h => by
  have hb : b ≠ 32 := h b List.mem_cons_self
  have ih := index_no l fun c hc => h c (List.mem_cons_of_mem _ hc)
  have e : (List.isPrefixOf [32] (b :: l)) = false := by
   simp [List.isPrefixOf, Ne.symm hb]
  simp [Lib.index, e, ih]
theorem index_app : ∀ (l r : List UInt8), noBl l → Lib.index (l ++ 32 :: r) [32] = (l.length : Int)
 | [], r, _ => by simp [Lib.index, List.isPrefixOf]
 | b :: l, r, h => by
  have hb : b ≠ 32 := h b List.mem_cons_self
  have ih := index_app l r fun c hc => h c (List.mem_cons_of_mem _ hc)
  have e : (List.isPrefixOf [32] (b :: (l ++ 32 :: r))) = false := by
   simp [List.isPrefixOf, Ne.symm hb]
  have n : ¬ ((l.length : Int) = -1) := by omega
  simp [Lib.index, e, ih, n]
theorem cut_last {a : ByteArray} (h : noBl a.data.toList) : cutA a = a ∧ cutR a = bstr 0 0 ∧ cutF a = false := by
 unfold cutA cutR cutF Lib.cut
 rw [index_no _ h]
 exact ⟨rfl, rfl, rfl⟩
theorem cut_mid {a r : ByteArray} (h : noBl a.data.toList) : cutA (a ++ (bstr 1 32 ++ r)) = a ∧ cutR (a ++ (bstr 1 32 ++ r)) = r ∧ cutF (a ++ (bstr 1 32 ++ r)) = true := by
 have e : (a ++ (bstr 1 32 ++ r)).data.toList = a.data.toList ++ 32 :: r.data.toList := by
  rw [ByteArray.data_append, ByteArray.data_append, Array.toList_append, Array.toList_append]
  rfl
 have hx := index_app a.data.toList r.data.toList h
 unfold cutA cutR cutF Lib.cut
 rw [e, hx, if_pos (by omega), Int.toNat_natCast]
 refine ⟨?_, ?_, rfl⟩
 ·apply ByteArray.ext
  simp only [List.take_left]
 ·apply ByteArray.ext
  have : List.drop (a.data.toList.length + [(32 : UInt8)].length) (a.data.toList ++ 32 :: r.data.toList) = r.data.toList := by
   rw [show a.data.toList ++ 32 :: r.data.toList = (a.data.toList ++ [32]) ++ r.data.toList from by simp]
   exact List.drop_left' (by simp)
  rw [this]
theorem dec_range : ∀ u : Nat, ∀ b ∈ Lib.decDigits u, 48 ≤ b.toNat ∧ b.toNat ≤ 57 := by
 intro u
 induction u using Nat.strongRecOn with
 | _ u ih =>
  intro b hb
  have one : ∀ i, i < 10 → 48 ≤ (UInt8.ofNat (48 + i)).toNat ∧ (UInt8.ofNat (48 + i)).toNat ≤ 57 := by
   intro i hi
   rw [UInt8.toNat_ofNat']
   omega
  rw [Lib.decDigits] at hb
  split at hb
  ·simp at hb
   subst hb
   have := one u (by omega)
   simpa using this
  ·rw [List.mem_append] at hb
   rcases hb with hb | hb
   ·exact ih (u / 10) (by omega) b hb
   ·simp only [List.mem_singleton] at hb
    subst hb
    exact one (u % 10) (by omega)
theorem noBl_itoa {n : Int} (h : 0 ≤ n) : noBl (itoaB n).data.toList := by
 intro b hb
 unfold itoaB Lib.itoa at hb
 rw [if_neg (by omega)] at hb
 have := dec_range _ b (by simpa using hb)
 rintro rfl
 exact absurd this.1 (by decide)
theorem decFrom_snoc : ∀ (l : List UInt8) (acc m d : Nat) (b : UInt8), Lib.decFrom acc l = some m → Lib.digitVal b = some d → Lib.decFrom acc (l ++ [b]) = some (m * 10 + d)
 | [], acc, m, d, b, h, hb => by
  simp only [Lib.decFrom, Option.some.injEq] at h
  subst h
  simp [Lib.decFrom, hb]
 | c :: l, acc, m, d, b, h, hb => by
  simp only [Lib.decFrom, List.cons_append] at h ⊢
  split at h
  ·rename_i k hk
   exact decFrom_snoc l _ m d b h hb
  ·cases h
theorem decFrom_digits : ∀ u : Nat, Lib.decFrom 0 (Lib.decDigits u) = some u := by
 intro u
 have one : ∀ i, i < 10 → Lib.digitVal (UInt8.ofNat (48 + i)) = some i := by
  intro i hi
  have e : (UInt8.ofNat (48 + i)).toNat = 48 + i := by
   rw [UInt8.toNat_ofNat']; omega
  unfold Lib.digitVal
  rw [e, if_pos (by omega)]
  congr 1; omega
 induction u using Nat.strongRecOn with
 | _ u ih =>
  rw [Lib.decDigits]
  split
  ·rename_i h
   have := decFrom_snoc [] 0 0 u _ rfl (one u h)
   simpa using this
  ·have := decFrom_snoc _ 0 _ (u % 10) _ (ih (u / 10) (by omega)) (one (u % 10) (by omega))
   rw [this]
   congr 1; omega
theorem atoi_itoa {n : Int} (h : 0 ≤ n ∧ n ≤ 999999999) : atoiOK (itoaB n) = true ∧ atoiV (itoaB n) = n := by
 have e : (itoaB n).data.toList = Lib.decDigits n.toNat := by
  unfold itoaB Lib.itoa
  rw [if_neg (by omega)]
 have key : Lib.atoiAll (Lib.decDigits n.toNat) = .ok n := by
  have hd := decFrom_digits n.toNat
  have hl := digits_len 8 n.toNat (by omega)
  have hp := Lib.parseUint10_short (Lib.decDigits n.toNat) 0 0 (by omega) (by omega)
  rw [hd] at hp
  have hr := dec_range n.toNat
  cases hc : Lib.decDigits n.toNat with
  | nil =>
   rw [Lib.decDigits] at hc
   split at hc <;> simp at hc
  | cons c r =>
   rw [hc] at hp hr
   have hcr := hr c List.mem_cons_self
   have n1 : ¬ (c.toNat = 43 ∨ c.toNat = 45) := by omega
   have n2 : ¬ c.toNat = 45 := by omega
   unfold Lib.atoiAll Lib.parseMag
   simp only [if_neg n1, hp, reduceCtorEq, if_false]
   simp only [Lib.NumEnd.ofOption, n2]
   rw [if_neg (by omega), if_neg (by simp)]
   simp
   omega
 unfold atoiOK atoiV
 rw [e, key]
 exact ⟨rfl, rfl⟩
end Go.Proofs.YtocabeobfbhajaaGreatDoor.Sx
end
section
namespace Go.Proofs.YtocabeobfbhajaaGreatDoor.Sx
open Go Go.Proofs.YtocabeobfbhajaaGreatDoor
def wordsB (cur : List UInt8) : List UInt8 → List ByteArray
 | [] => [⟨cur.toArray⟩]
 | b :: r => if b = 32 then ⟨cur.toArray⟩ :: wordsB [] r else wordsB (cur ++ [b]) r
def wordsN (s : ByteArray) : List ByteArray := wordsB [] s.data.toList
theorem wordsB_app : ∀ (a r cur : List UInt8), noBl a → wordsB cur (a ++ 32 :: r) = ⟨(cur ++ a).toArray⟩ :: wordsB [] r
 | [], r, cur, _ => by simp [wordsB]
 | b :: a, r, cur, h => by
  have hb : b ≠ 32 := h b List.mem_cons_self
  have ih := wordsB_app a r (cur ++ [b]) fun c hc => h c (List.mem_cons_of_mem _ hc)
  rw [List.cons_append, wordsB, if_neg hb, ih]
  simp
theorem wordsB_last : ∀ (a cur : List UInt8), noBl a → wordsB cur a = [⟨(cur ++ a).toArray⟩]
 | [], cur, _ => by simp [wordsB]
 | b :: a, cur, h => by
  have hb : b ≠ 32 := h b List.mem_cons_self
  have ih := wordsB_last a (cur ++ [b]) fun c hc => h c (List.mem_cons_of_mem _ hc)
  rw [wordsB, if_neg hb, ih]
  simp
theorem words_mid {a r : ByteArray} (h : noBl a.data.toList) : wordsN (a ++ (bstr 1 32 ++ r)) = a :: wordsN r := by
 have e : (a ++ (bstr 1 32 ++ r)).data.toList = a.data.toList ++ 32 :: r.data.toList := by
  rw [ByteArray.data_append, ByteArray.data_append, Array.toList_append, Array.toList_append]
  rfl
 unfold wordsN
 rw [e, wordsB_app _ _ _ h]
 rfl
theorem words_last {a : ByteArray} (h : noBl a.data.toList) : wordsN a = [a] := by
 unfold wordsN
 rw [wordsB_last _ _ h]
 rfl
theorem subB_list {s : ByteArray} {l h : Int} (h0 : 0 ≤ l ∧ l ≤ h ∧ h ≤ ((s.size : Nat) : Int)) : subB s l h = ⟨((s.data.toList.drop l.toNat).take (h - l).toNat).toArray⟩ := by
 unfold subB
 apply ByteArray.ext
 rw [ByteArray.data_extract]
 apply Array.toList_inj.1
 rw [Array.toList_extract, List.extract_eq_take_drop]
 congr 1
 omega
theorem byte_drop {s : ByteArray} {i : Int} (h : 0 ≤ i ∧ i < ((s.size : Nat) : Int)) : ∃ b : UInt8, s.data.toList.drop i.toNat = b :: s.data.toList.drop (i + 1).toNat ∧ (b.toNat : Int) = byteAt s i ∧ s.data.toList[i.toNat]? = some b := by
 have hl : i.toNat < s.data.toList.length := by rw [Array.length_toList]; show i.toNat < s.size; omega
 refine ⟨s.data.toList[i.toNat], ?_, ?_, List.getElem?_eq_getElem hl⟩
 ·rw [List.drop_eq_getElem_cons hl, show (i + 1).toNat = i.toNat + 1 by omega]
 ·unfold byteAt
  rw [List.getD_eq_getElem?_getD, List.getElem?_eq_getElem hl]
  rfl
def valB (n : Int) : List UInt8 → Int
 | [] => n
 | b :: r => if (b.toNat : Int) < 48 then -1 else if 57 < (b.toNat : Int) then -1 else valB (IntKind.wrap .i64 ((IntKind.wrap .i64 ((IntKind.wrap .i64 (10 * n)) + (b.toNat : Int))) - 48)) r
def valueN (s : ByteArray) : Int := if ((s.size : Nat) : Int) < 1 then -1 else if 9 < ((s.size : Nat) : Int) then -1 else valB 0 s.data.toList
end Go.Proofs.YtocabeobfbhajaaGreatDoor.Sx
end
section
namespace Go.Proofs.YtocabeobfbhajaaGreatDoor.Sx
open Go Go.Proofs.YtocabeobfbhajaaGreatDoor
theorem valB_digits : ∀ (u : Nat), u ≤ 999999999 → ∀ r : List UInt8, valB 0 (Lib.decDigits u ++ r) = valB (u : Int) r := by
 intro u
 induction u using Nat.strongRecOn with
 | _ u ih =>
  intro hu r
  have one : ∀ (m i : Nat), i < 10 → m ≤ 99999999 → valB (m : Int) (UInt8.ofNat (48 + i) :: r) = valB ((m * 10 + i : Nat) : Int) r := by
   intro m i hi hm
   have e : (UInt8.ofNat (48 + i)).toNat = 48 + i := by
    rw [UInt8.toNat_ofNat']; omega
   rw [valB, e, if_neg (by omega), if_neg (by omega), wrap_id (k := .i64) (m := 10 * (m : Int)) (by show -9223372036854775808 ≤ _ ∧ _ ≤ 9223372036854775807; omega), wrap_id (k := .i64) (m := 10 * (m : Int) + ((48 + i : Nat) : Int)) (by show -9223372036854775808 ≤ _ ∧ _ ≤ 9223372036854775807; omega), wrap_id (k := .i64) (by show -9223372036854775808 ≤ _ ∧ _ ≤ 9223372036854775807; omega)]
   congr 1
   omega
  rw [Lib.decDigits]
  split
  ·rename_i h
   have := one 0 u h (by omega)
   simpa using this
  ·rw [List.append_assoc, ih (u / 10) (by omega) (by omega), List.singleton_append, one (u / 10) (u % 10) (by omega) (by omega)]
   congr 2
   omega
theorem value_itoa {n : Int} (h : 0 ≤ n ∧ n ≤ 999999999) : valueN (itoaB n) = n := by
 have e : (itoaB n).data.toList = Lib.decDigits n.toNat := by
  unfold itoaB Lib.itoa
  rw [if_neg (by omega)]
 have hs := itoaB_size h
 have hp : 1 ≤ (itoaB n).size := by
  have : (itoaB n).size = (Lib.decDigits n.toNat).length := by
   rw [← e, Array.length_toList]; rfl
  rw [this]
  rw [Lib.decDigits]
  split <;> simp
 unfold valueN
 rw [if_neg (by omega), if_neg (by omega), e]
 have := valB_digits n.toNat (by omega) []
 rw [List.append_nil] at this
 rw [this]
 show ((n.toNat : Nat) : Int) = n
 omega
end Go.Proofs.YtocabeobfbhajaaGreatDoor.Sx
end
section
namespace Go.Proofs.YtocabeobfbhajaaGreatDoor.Sx
open Go Go.Proofs.YtocabeobfbhajaaGreatDoor
def nulPo : Po := ⟨0, 0, 0, 0, 0, 0, ⟨0, 0⟩, ⟨0, 0⟩, 0⟩
open Classical in
noncomputable def readN (n : Int) (s : ByteArray) : Po × Int := if n = 3 ∨ n = 5 then (if h : ∃ p, checkN n p = 0 ∧ lineN p = s then (Classical.choose h, 0) else (nulPo, 4)) else (nulPo, 1)
def RdgOK (n : Int) (s : ByteArray) (x : Po × Int) : Prop := x = (nulPo, 4) ∨ (x.2 = 0 ∧ checkN n x.1 = 0 ∧ lineN x.1 = s)
theorem read_eq {n : Int} {s : ByteArray} {x : Po × Int} (hn : n = 3 ∨ n = 5) (ha : RdgOK n s x) (hb : ∀ p, checkN n p = 0 → lineN p = s → x = (p, 0)) : x = readN n s := by
 unfold readN
 rw [if_pos hn]
 by_cases h : ∃ p, checkN n p = 0 ∧ lineN p = s
 ·rw [dif_pos h]
  exact hb _ (Classical.choose_spec h).1 (Classical.choose_spec h).2
 ·rw [dif_neg h]
  rcases ha with ha | ⟨_, h1, h2⟩
  ·exact ha
  ·exact absurd ⟨_, h1, h2⟩ h
theorem readN_ok {n : Int} {s : ByteArray} (h : (readN n s).2 = 0) : checkN n (readN n s).1 = 0 ∧ lineN (readN n s).1 = s := by
 unfold readN at h ⊢
 by_cases hn : n = 3 ∨ n = 5
 ·rw [if_pos hn] at h ⊢
  by_cases hx : ∃ p, checkN n p = 0 ∧ lineN p = s
  ·rw [dif_pos hx]
   exact Classical.choose_spec hx
  ·rw [dif_neg hx] at h; cases h
 ·rw [if_neg hn] at h; cases h
abbrev blB : ByteArray := bstr 1 32
theorem wd1 : bstr 5 435644098080 = blB ++ bstr 4 1701734758 := by decide +kernel
theorem wd2 : bstr 4 1701144096 = blB ++ bstr 3 6645094 := by decide +kernel
theorem wd3 : bstr 5 435593245728 = blB ++ bstr 4 1701536116 := by decide +kernel
theorem wd5 : bstr 6 111559248541472 = blB ++ bstr 5 435778314615 := by decide +kernel
theorem wd4 : bstr 4 2036428832 = blB ++ bstr 3 7954800 := by decide +kernel
theorem wdBy : bstr 3 7954976 = blB ++ bstr 2 31074 := by decide +kernel
def joinB (a : ByteArray) : List ByteArray → ByteArray
 | [] => a
 | b :: r => a ++ (blB ++ joinB b r)
def wordsP (p : Po) : List ByteArray :=
 itoaB p.number :: itoaB p.tick :: (if p.kind = 1 then [bstr 4 1701734758, itoaB p.cse, itoaB p.owner, itoaB p.amount]
 else if p.kind = 2 then [bstr 3 6645094, itoaB p.cse, itoaB p.owner, itoaB p.amount]
 else if p.kind = 3 then [bstr 4 1701536116, itoaB p.of.reeve, itoaB p.of.number, itoaB p.owner, itoaB p.amount]
 else if p.kind = 5 then [bstr 5 435778314615, itoaB p.of.number, itoaB p.owner, itoaB p.amount]
 else if p.by_.reeve = 0 ∧ p.by_.number = 0 then [bstr 3 7954800, itoaB p.of.number, itoaB p.owner, itoaB p.amount]
 else [bstr 3 7954800, itoaB p.of.number, itoaB p.owner, itoaB p.amount, bstr 2 31074, itoaB p.by_.reeve, itoaB p.by_.number])
theorem line_words (p : Po) : lineN p = joinB (itoaB p.reeve) (wordsP p) := by
 unfold lineN wordsP spB
 rw [wd1, wd2, wd3, wd4, wd5, wdBy]
 repeat' split
 all_goals simp only [joinB, ByteArray.append_assoc]
theorem noBl_dec {n N : Nat} (h : (bstr n N).data.toList.all (fun b => decide (b ≠ 32)) = true) : noBl (bstr n N).data.toList := by
 intro b hb
 have := List.all_eq_true.1 h b hb
 simpa using this
theorem noBl_words {p : Po} (h : (0 ≤ p.reeve ∧ p.reeve ≤ 1000000) ∧ (0 ≤ p.number ∧ p.number ≤ 1000000) ∧ (0 ≤ p.tick ∧ p.tick ≤ 1000000) ∧ (0 ≤ p.cse ∧ p.cse ≤ 1000000) ∧ (0 ≤ p.owner ∧ p.owner ≤ 1000000) ∧ (0 ≤ p.of.reeve ∧ p.of.reeve ≤ 1000000) ∧ (0 ≤ p.of.number ∧ p.of.number ≤ 1000000) ∧ (0 ≤ p.by_.reeve ∧ p.by_.reeve ≤ 1000000) ∧ (0 ≤ p.by_.number ∧ p.by_.number ≤ 1000000) ∧ (0 ≤ p.amount ∧ p.amount ≤ 1000000)) : ∀ a ∈ itoaB p.reeve :: wordsP p, noBl a.data.toList := by
 obtain ⟨h1, h2, h3, h4, h5, h6, h7, h8, h9, h10⟩ := h
 have i1 := noBl_itoa h1.1
 have i2 := noBl_itoa h2.1
 have i3 := noBl_itoa h3.1
 have i4 := noBl_itoa h4.1
 have i5 := noBl_itoa h5.1
 have i6 := noBl_itoa h6.1
 have i7 := noBl_itoa h7.1
 have i8 := noBl_itoa h8.1
 have i9 := noBl_itoa h9.1
 have i10 := noBl_itoa h10.1
 have d1 : noBl (bstr 4 1701734758).data.toList := noBl_dec (by decide +kernel)
 have d2 : noBl (bstr 3 6645094).data.toList := noBl_dec (by decide +kernel)
 have d3 : noBl (bstr 4 1701536116).data.toList := noBl_dec (by decide +kernel)
 have d5 : noBl (bstr 5 435778314615).data.toList := noBl_dec (by decide +kernel)
 have d4 : noBl (bstr 3 7954800).data.toList := noBl_dec (by decide +kernel)
 have d6 : noBl (bstr 2 31074).data.toList := noBl_dec (by decide +kernel)
 unfold wordsP
 repeat' split
 all_goals
  simp only [List.mem_cons, List.not_mem_nil, or_false, forall_eq_or_imp, forall_eq]
  simp only [i1, i2, i3, i4, i5, i6, i7, i8, i9, i10, d1, d2, d3, d4, d5, d6, and_self]
theorem words_join : ∀ (r : List ByteArray) (a : ByteArray), (∀ b ∈ a :: r, noBl b.data.toList) → wordsN (joinB a r) = a :: r
 | [], a, h => words_last (h a List.mem_cons_self)
 | b :: r, a, h => by
  rw [joinB, words_mid (h a List.mem_cons_self), words_join r b fun c hc => h c (List.mem_cons_of_mem _ hc)]
theorem cut_join (a b : ByteArray) (r : List ByteArray) (h : noBl a.data.toList) : cutA (joinB a (b :: r)) = a ∧ cutR (joinB a (b :: r)) = joinB b r ∧ cutF (joinB a (b :: r)) = true := cut_mid h
theorem cut_end (a : ByteArray) (h : noBl a.data.toList) : cutA (joinB a []) = a ∧ cutR (joinB a []) = bstr 0 0 ∧ cutF (joinB a []) = false := cut_last h
theorem words_line {n : Int} {p : Po} (h : checkN n p = 0) : wordsN (lineN p) = itoaB p.reeve :: wordsP p := by
 rw [line_words, words_join _ _ (noBl_words (formL h).1)]
theorem formK {n : Int} {p : Po} (h : checkN n p = 0) : (∃ r nu t c o am, p = ⟨r, nu, t, 1, c, o, ⟨0, 0⟩, ⟨0, 0⟩, am⟩ ∨ p = ⟨r, nu, t, 2, c, o, ⟨0, 0⟩, ⟨0, 0⟩, am⟩) ∨
  (∃ r nu t o x am, p = ⟨r, nu, t, 3, 0, o, x, ⟨0, 0⟩, am⟩) ∨ (∃ r nu t o k am, p = ⟨r, nu, t, 5, 0, o, ⟨r, k⟩, ⟨0, 0⟩, am⟩ ∨ p = ⟨r, nu, t, 4, 0, o, ⟨r, k⟩, ⟨0, 0⟩, am⟩) ∨
  (∃ r nu t o k y m am, p = ⟨r, nu, t, 4, 0, o, ⟨r, k⟩, ⟨y, m⟩, am⟩ ∧ ¬ (y = 0 ∧ m = 0)) := by
 obtain ⟨_, hk, h3, h4, h5, h1⟩ := formL h
 obtain ⟨r, nu, t, k, c, o, ⟨x1, x2⟩, ⟨y1, y2⟩, am⟩ := p
 simp only at hk h1 h3 h4 h5
 have : k = 1 ∨ k = 2 ∨ k = 3 ∨ k = 4 ∨ k = 5 := by omega
 rcases this with rfl | rfl | rfl | rfl | rfl
 ·obtain ⟨e1, e2, e3, e4⟩ := h1 (by omega)
  subst e1 e2 e3 e4
  exact .inl ⟨_, _, _, _, _, _, .inl rfl⟩
 ·obtain ⟨e1, e2, e3, e4⟩ := h1 (by omega)
  subst e1 e2 e3 e4
  exact .inl ⟨_, _, _, _, _, _, .inr rfl⟩
 ·obtain ⟨e1, e2, e3⟩ := h3 rfl
  subst e1 e2 e3
  exact .inr (.inl ⟨_, _, _, _, _, _, rfl⟩)
 ·obtain ⟨e1, e2, e3⟩ := h4 rfl
  subst e1 e2
  by_cases hy : y1 = 0 ∧ y2 = 0
  ·obtain ⟨rfl, rfl⟩ := hy
   exact .inr (.inr (.inl ⟨_, _, _, _, _, _, .inr rfl⟩))
  ·exact .inr (.inr (.inr ⟨_, _, _, _, _, _, _, _, rfl, hy⟩))
 ·obtain ⟨e1, e2, e3, e4⟩ := h5 rfl
  subst e1 e2 e3 e4
  exact .inr (.inr (.inl ⟨_, _, _, _, _, _, .inl rfl⟩))
theorem rdI {n : Int} {s : ByteArray} {α : Type} {f : α → Po × Int} {c : Prop} [Decidable c] {a b : α} (h1 : c → RdgOK n s (f a)) (h2 : ¬ c → RdgOK n s (f b)) : RdgOK n s (f (if c then a else b)) := by
 by_cases h : c
 ·rw [if_pos h]; exact h1 h
 ·rw [if_neg h]; exact h2 h
def tupR (x : Int × Int × Int × Int × Int × Int × Int × Int × Int × Int × Int × Int) : Po × Int := (⟨x.1, x.2.1, x.2.2.1, x.2.2.2.1, x.2.2.2.2.1, x.2.2.2.2.2.1, ⟨x.2.2.2.2.2.2.1, x.2.2.2.2.2.2.2.1⟩, ⟨x.2.2.2.2.2.2.2.2.1, x.2.2.2.2.2.2.2.2.2.1⟩, x.2.2.2.2.2.2.2.2.2.2.1⟩, x.2.2.2.2.2.2.2.2.2.2.2)
theorem rdL {n : Int} {s : ByteArray} : RdgOK n s (tupR (0, 0, 0, 0, 0, 0, 0, 0, 0, 0, 0, 4)) := .inl rfl
theorem write_ok {n : Int} {p : Po} (h : (writeN n p).2 = 0) : checkN n p = 0 ∧ (writeN n p).1 = lineN p := by
 unfold writeN at h ⊢
 by_cases hc : checkN n p = 0
 ·rw [if_pos hc]; exact ⟨hc, rfl⟩
 ·rw [if_neg hc] at h; exact absurd h hc
theorem rdW {n : Int} {s : ByteArray} {p : Po} {x : Po × Int} (h1 : (writeN n p).2 = 0) (h2 : (writeN n p).1 = s) (hx : x.1 = p) (h0 : x.2 = 0) : RdgOK n s x :=
 .inr ⟨h0, by rw [hx]; exact (write_ok h1).1, by rw [hx, ← (write_ok h1).2]; exact h2⟩
theorem readN_not {n : Int} {s : ByteArray} (h : ¬ (n = 3 ∨ n = 5)) : readN n s = tupR (0, 0, 0, 0, 0, 0, 0, 0, 0, 0, 0, 1) := by
 unfold readN
 rw [if_neg h]
 rfl
theorem writeN_size (n : Int) (p : Po) : ((((writeN n p).1).size : Nat) : Int) ≤ 100 := by
 unfold writeN
 by_cases h : checkN n p = 0
 ·rw [if_pos h]
  exact lineN_size (formL h).1
 ·rw [if_neg h]
  show (((bstr 0 0).size : Nat) : Int) ≤ 100
  rw [bstr_size]
  omega
theorem writeN_ok {n : Int} {p : Po} (h : checkN n p = 0) : writeN n p = (lineN p, 0) := by
 unfold writeN
 rw [if_pos h]
end Go.Proofs.YtocabeobfbhajaaGreatDoor.Sx
end
section
set_option maxRecDepth 100000
set_option maxHeartbeats 0
namespace Go.Proofs.YtocabeobfbhajaaGreatDoor.Sx
open Go Go.Proofs Go.Proofs.YtocabeobfbhajaaGreatDoor Go.Proofs.YtocabeobfbhajaaGreatDoor.Sx
structure pLine_A where
 p : Po
def pLine_r  (A : pLine_A) (w : World) : ByteArray := (if A.p.kind = 1 then ((((((((itoaB A.p.reeve) ++ ((bstr 1 32) ++ (itoaB A.p.number))) ++ ((bstr 1 32) ++ (itoaB A.p.tick))) ++ (bstr 5 435644098080)) ++ ((bstr 1 32) ++ (itoaB A.p.cse))) ++ ((bstr 1 32) ++ (itoaB A.p.owner))) ++ ((bstr 1 32) ++ (itoaB A.p.amount)))) else (if A.p.kind = 2 then ((((((((itoaB A.p.reeve) ++ ((bstr 1 32) ++ (itoaB A.p.number))) ++ ((bstr 1 32) ++ (itoaB A.p.tick))) ++ (bstr 4 1701144096)) ++ ((bstr 1 32) ++ (itoaB A.p.cse))) ++ ((bstr 1 32) ++ (itoaB A.p.owner))) ++ ((bstr 1 32) ++ (itoaB A.p.amount)))) else (if A.p.kind = 3 then (((((((((itoaB A.p.reeve) ++ ((bstr 1 32) ++ (itoaB A.p.number))) ++ ((bstr 1 32) ++ (itoaB A.p.tick))) ++ (bstr 5 435593245728)) ++ ((bstr 1 32) ++ (itoaB A.p.of.reeve))) ++ ((bstr 1 32) ++ (itoaB A.p.of.number))) ++ ((bstr 1 32) ++ (itoaB A.p.owner))) ++ ((bstr 1 32) ++ (itoaB A.p.amount)))) else (if A.p.kind = 5 then ((((((((itoaB A.p.reeve) ++ ((bstr 1 32) ++ (itoaB A.p.number))) ++ ((bstr 1 32) ++ (itoaB A.p.tick))) ++ (bstr 6 111559248541472)) ++ ((bstr 1 32) ++ (itoaB A.p.of.number))) ++ ((bstr 1 32) ++ (itoaB A.p.owner))) ++ ((bstr 1 32) ++ (itoaB A.p.amount)))) else (if A.p.by_.reeve = 0 then (if A.p.by_.number = 0 then ((((((((itoaB A.p.reeve) ++ ((bstr 1 32) ++ (itoaB A.p.number))) ++ ((bstr 1 32) ++ (itoaB A.p.tick))) ++ (bstr 4 2036428832)) ++ ((bstr 1 32) ++ (itoaB A.p.of.number))) ++ ((bstr 1 32) ++ (itoaB A.p.owner))) ++ ((bstr 1 32) ++ (itoaB A.p.amount)))) else (((((((((((itoaB A.p.reeve) ++ ((bstr 1 32) ++ (itoaB A.p.number))) ++ ((bstr 1 32) ++ (itoaB A.p.tick))) ++ (bstr 4 2036428832)) ++ ((bstr 1 32) ++ (itoaB A.p.of.number))) ++ ((bstr 1 32) ++ (itoaB A.p.owner))) ++ ((bstr 1 32) ++ (itoaB A.p.amount))) ++ (bstr 3 7954976)) ++ ((bstr 1 32) ++ (itoaB A.p.by_.reeve))) ++ ((bstr 1 32) ++ (itoaB A.p.by_.number))))) else (((((((((((itoaB A.p.reeve) ++ ((bstr 1 32) ++ (itoaB A.p.number))) ++ ((bstr 1 32) ++ (itoaB A.p.tick))) ++ (bstr 4 2036428832)) ++ ((bstr 1 32) ++ (itoaB A.p.of.number))) ++ ((bstr 1 32) ++ (itoaB A.p.owner))) ++ ((bstr 1 32) ++ (itoaB A.p.amount))) ++ (bstr 3 7954976)) ++ ((bstr 1 32) ++ (itoaB A.p.by_.reeve))) ++ ((bstr 1 32) ++ (itoaB A.p.by_.number)))))))))
theorem pLine_any  (A : pLine_A) (w : World) (HS : StrW w) (h0 : 0 ≤ A.p.reeve ∧ A.p.reeve ≤ 1000000) (h1 : 0 ≤ A.p.number ∧ A.p.number ≤ 1000000) (h2 : 0 ≤ A.p.tick ∧ A.p.tick ≤ 1000000) (h3 : 0 ≤ A.p.cse ∧ A.p.cse ≤ 1000000) (h4 : 0 ≤ A.p.owner ∧ A.p.owner ≤ 1000000) (h5 : 0 ≤ A.p.of.reeve ∧ A.p.of.reeve ≤ 1000000) (h6 : 0 ≤ A.p.of.number ∧ A.p.of.number ≤ 1000000) (h7 : 0 ≤ A.p.by_.reeve ∧ A.p.by_.reeve ≤ 1000000) (h8 : 0 ≤ A.p.by_.number ∧ A.p.by_.number ≤ 1000000) (h9 : 0 ≤ A.p.amount ∧ A.p.amount ≤ 1000000) (h10 : 1 ≤ A.p.kind ∧ A.p.kind ≤ 5) : Calls Tryz.prog 73 #[A.p.val] w fun e w' => e = .returned (.string (pLine_r A w)) ∧ Chg (fun _ => False) w w' := by
 unfold pLine_r
 refine wGo (E := E0) (n := 8) (w := w) (L := id) ?_
 have h11 : ((itoaB A.p.reeve).size : Int) ≤ 9 := itoaB_size (show 0 ≤ A.p.reeve ∧ A.p.reeve ≤ 999999999 by omega)
 have h12 : ((itoaB A.p.number).size : Int) ≤ 9 := itoaB_size (show 0 ≤ A.p.number ∧ A.p.number ≤ 999999999 by omega)
 have h13 : (((bstr 1 32) ++ (itoaB A.p.number)).size : Int) = 1 + ((itoaB A.p.number).size : Int) := size_app (bstr_sz 1 32) rfl
 have h14 : (((itoaB A.p.reeve) ++ ((bstr 1 32) ++ (itoaB A.p.number))).size : Int) = ((itoaB A.p.reeve).size : Int) + (((bstr 1 32) ++ (itoaB A.p.number)).size : Int) := size_app rfl rfl
 have h15 : ((itoaB A.p.tick).size : Int) ≤ 9 := itoaB_size (show 0 ≤ A.p.tick ∧ A.p.tick ≤ 999999999 by omega)
 have h16 : (((bstr 1 32) ++ (itoaB A.p.tick)).size : Int) = 1 + ((itoaB A.p.tick).size : Int) := size_app (bstr_sz 1 32) rfl
 have h17 : ((((itoaB A.p.reeve) ++ ((bstr 1 32) ++ (itoaB A.p.number))) ++ ((bstr 1 32) ++ (itoaB A.p.tick))).size : Int) = ((((itoaB A.p.reeve) ++ ((bstr 1 32) ++ (itoaB A.p.number)))).size : Int) + (((bstr 1 32) ++ (itoaB A.p.tick)).size : Int) := size_app rfl rfl
 refine wS (.agg #[] :: poV A.p ++ .string (itoaB A.p.reeve) :: .string (itoaB A.p.number) :: .string ((bstr 1 32) ++ (itoaB A.p.number)) :: .string (((itoaB A.p.reeve) ++ ((bstr 1 32) ++ (itoaB A.p.number)))) :: .string (itoaB A.p.tick) :: .string ((bstr 1 32) ++ (itoaB A.p.tick)) :: .string ((((itoaB A.p.reeve) ++ ((bstr 1 32) ++ (itoaB A.p.number))) ++ ((bstr 1 32) ++ (itoaB A.p.tick)))) :: []) (wE (⟨tagB .add, [.str 1 32, 13], 14⟩) (fun _ => q_sadd rfl rfl rfl (size_le (bstr_sz 1 32) rfl (by omega))) (wE (⟨tagB .add, [12, 14], 15⟩) (fun _ => q_sadd rfl rfl rfl (size_le rfl rfl (by omega))) (wE (⟨tagB .add, [.str 1 32, 16], 17⟩) (fun _ => q_sadd rfl rfl rfl (size_le (bstr_sz 1 32) rfl (by omega))) (wE (⟨tagB .add, [15, 17], 18⟩) (fun _ => q_sadd rfl rfl rfl (size_le rfl rfl (by omega))) (wC (⟨170, [.tup [1], .tup []], 12⟩) (fun _ => q_cV (h := fun w hw => by exact itoa_n (HS.old hw) _ (show -9223372036854775808 ≤ _ ∧ _ ≤ 9223372036854775807 by omega))) (wC (⟨170, [.tup [2], .tup []], 13⟩) (fun _ => q_cV (h := fun w hw => by exact itoa_n (HS.old hw) _ (show -9223372036854775808 ≤ _ ∧ _ ≤ 9223372036854775807 by omega))) (wC (⟨170, [.tup [3], .tup []], 16⟩) (fun _ => q_cV (h := fun w hw => by exact itoa_n (HS.old hw) _ (show -9223372036854775808 ≤ _ ∧ _ ≤ 9223372036854775807 by omega))) ?_)))))))
 split <;> rename_i h18
 ·have h19 : (((((itoaB A.p.reeve) ++ ((bstr 1 32) ++ (itoaB A.p.number))) ++ ((bstr 1 32) ++ (itoaB A.p.tick))) ++ (bstr 5 435644098080)).size : Int) = (((((itoaB A.p.reeve) ++ ((bstr 1 32) ++ (itoaB A.p.number))) ++ ((bstr 1 32) ++ (itoaB A.p.tick)))).size : Int) + 5 := size_app rfl (bstr_sz 5 435644098080)
  have h20 : ((itoaB A.p.cse).size : Int) ≤ 9 := itoaB_size (show 0 ≤ A.p.cse ∧ A.p.cse ≤ 999999999 by omega)
  have h21 : (((bstr 1 32) ++ (itoaB A.p.cse)).size : Int) = 1 + ((itoaB A.p.cse).size : Int) := size_app (bstr_sz 1 32) rfl
  have h22 : ((((((itoaB A.p.reeve) ++ ((bstr 1 32) ++ (itoaB A.p.number))) ++ ((bstr 1 32) ++ (itoaB A.p.tick))) ++ (bstr 5 435644098080)) ++ ((bstr 1 32) ++ (itoaB A.p.cse))).size : Int) = ((((((itoaB A.p.reeve) ++ ((bstr 1 32) ++ (itoaB A.p.number))) ++ ((bstr 1 32) ++ (itoaB A.p.tick))) ++ (bstr 5 435644098080))).size : Int) + (((bstr 1 32) ++ (itoaB A.p.cse)).size : Int) := size_app rfl rfl
  have h23 : ((itoaB A.p.owner).size : Int) ≤ 9 := itoaB_size (show 0 ≤ A.p.owner ∧ A.p.owner ≤ 999999999 by omega)
  have h24 : (((bstr 1 32) ++ (itoaB A.p.owner)).size : Int) = 1 + ((itoaB A.p.owner).size : Int) := size_app (bstr_sz 1 32) rfl
  have h25 : (((((((itoaB A.p.reeve) ++ ((bstr 1 32) ++ (itoaB A.p.number))) ++ ((bstr 1 32) ++ (itoaB A.p.tick))) ++ (bstr 5 435644098080)) ++ ((bstr 1 32) ++ (itoaB A.p.cse))) ++ ((bstr 1 32) ++ (itoaB A.p.owner))).size : Int) = (((((((itoaB A.p.reeve) ++ ((bstr 1 32) ++ (itoaB A.p.number))) ++ ((bstr 1 32) ++ (itoaB A.p.tick))) ++ (bstr 5 435644098080)) ++ ((bstr 1 32) ++ (itoaB A.p.cse)))).size : Int) + (((bstr 1 32) ++ (itoaB A.p.owner)).size : Int) := size_app rfl rfl
  have h26 : ((itoaB A.p.amount).size : Int) ≤ 9 := itoaB_size (show 0 ≤ A.p.amount ∧ A.p.amount ≤ 999999999 by omega)
  have h27 : (((bstr 1 32) ++ (itoaB A.p.amount)).size : Int) = 1 + ((itoaB A.p.amount).size : Int) := size_app (bstr_sz 1 32) rfl
  have h28 : ((((((((itoaB A.p.reeve) ++ ((bstr 1 32) ++ (itoaB A.p.number))) ++ ((bstr 1 32) ++ (itoaB A.p.tick))) ++ (bstr 5 435644098080)) ++ ((bstr 1 32) ++ (itoaB A.p.cse))) ++ ((bstr 1 32) ++ (itoaB A.p.owner))) ++ ((bstr 1 32) ++ (itoaB A.p.amount))).size : Int) = ((((((((itoaB A.p.reeve) ++ ((bstr 1 32) ++ (itoaB A.p.number))) ++ ((bstr 1 32) ++ (itoaB A.p.tick))) ++ (bstr 5 435644098080)) ++ ((bstr 1 32) ++ (itoaB A.p.cse))) ++ ((bstr 1 32) ++ (itoaB A.p.owner)))).size : Int) + (((bstr 1 32) ++ (itoaB A.p.amount)).size : Int) := size_app rfl rfl
  refine wS (.string (((((itoaB A.p.reeve) ++ ((bstr 1 32) ++ (itoaB A.p.number))) ++ ((bstr 1 32) ++ (itoaB A.p.tick))) ++ (bstr 5 435644098080))) :: .string (itoaB A.p.cse) :: .string ((bstr 1 32) ++ (itoaB A.p.cse)) :: .string ((((((itoaB A.p.reeve) ++ ((bstr 1 32) ++ (itoaB A.p.number))) ++ ((bstr 1 32) ++ (itoaB A.p.tick))) ++ (bstr 5 435644098080)) ++ ((bstr 1 32) ++ (itoaB A.p.cse)))) :: .string (itoaB A.p.owner) :: .string ((bstr 1 32) ++ (itoaB A.p.owner)) :: .string (((((((itoaB A.p.reeve) ++ ((bstr 1 32) ++ (itoaB A.p.number))) ++ ((bstr 1 32) ++ (itoaB A.p.tick))) ++ (bstr 5 435644098080)) ++ ((bstr 1 32) ++ (itoaB A.p.cse))) ++ ((bstr 1 32) ++ (itoaB A.p.owner)))) :: .string (itoaB A.p.amount) :: .string ((bstr 1 32) ++ (itoaB A.p.amount)) :: .string ((((((((itoaB A.p.reeve) ++ ((bstr 1 32) ++ (itoaB A.p.number))) ++ ((bstr 1 32) ++ (itoaB A.p.tick))) ++ (bstr 5 435644098080)) ++ ((bstr 1 32) ++ (itoaB A.p.cse))) ++ ((bstr 1 32) ++ (itoaB A.p.owner))) ++ ((bstr 1 32) ++ (itoaB A.p.amount)))) :: []) (wT .eql 4 (.int .u8 1) h18 (wE (⟨tagB .add, [18, .str 5 435644098080], 19⟩) (fun _ => q_sadd rfl rfl rfl (size_le rfl (bstr_sz 5 435644098080) (by omega))) (wE (⟨tagB .add, [.str 1 32, 20], 21⟩) (fun _ => q_sadd rfl rfl rfl (size_le (bstr_sz 1 32) rfl (by omega))) (wE (⟨tagB .add, [19, 21], 22⟩) (fun _ => q_sadd rfl rfl rfl (size_le rfl rfl (by omega))) (wE (⟨tagB .add, [.str 1 32, 23], 24⟩) (fun _ => q_sadd rfl rfl rfl (size_le (bstr_sz 1 32) rfl (by omega))) (wE (⟨tagB .add, [22, 24], 25⟩) (fun _ => q_sadd rfl rfl rfl (size_le rfl rfl (by omega))) (wE (⟨tagB .add, [.str 1 32, 26], 27⟩) (fun _ => q_sadd rfl rfl rfl (size_le (bstr_sz 1 32) rfl (by omega))) (wE (⟨tagB .add, [25, 27], 28⟩) (fun _ => q_sadd rfl rfl rfl (size_le rfl rfl (by omega))) (wC (⟨170, [.tup [5], .tup []], 20⟩) (fun _ => q_cV (h := fun w hw => by exact itoa_n (HS.old hw) _ (show -9223372036854775808 ≤ _ ∧ _ ≤ 9223372036854775807 by omega))) (wC (⟨170, [.tup [6], .tup []], 23⟩) (fun _ => q_cV (h := fun w hw => by exact itoa_n (HS.old hw) _ (show -9223372036854775808 ≤ _ ∧ _ ≤ 9223372036854775807 by omega))) (wC (⟨170, [.tup [11], .tup []], 26⟩) (fun _ => q_cV (h := fun w hw => by exact itoa_n (HS.old hw) _ (show -9223372036854775808 ≤ _ ∧ _ ≤ 9223372036854775807 by omega))) ?_)))))))))))
  exact wZ 28 [.agg [1, 2, 3, 4, 5, 6, 7, 8, 9, 10, 11]]
 ·refine wF .eql 4 (.int .u8 1) h18 ?_
  split <;> rename_i h19
  ·have h20 : (((((itoaB A.p.reeve) ++ ((bstr 1 32) ++ (itoaB A.p.number))) ++ ((bstr 1 32) ++ (itoaB A.p.tick))) ++ (bstr 4 1701144096)).size : Int) = (((((itoaB A.p.reeve) ++ ((bstr 1 32) ++ (itoaB A.p.number))) ++ ((bstr 1 32) ++ (itoaB A.p.tick)))).size : Int) + 4 := size_app rfl (bstr_sz 4 1701144096)
   have h21 : ((itoaB A.p.cse).size : Int) ≤ 9 := itoaB_size (show 0 ≤ A.p.cse ∧ A.p.cse ≤ 999999999 by omega)
   have h22 : (((bstr 1 32) ++ (itoaB A.p.cse)).size : Int) = 1 + ((itoaB A.p.cse).size : Int) := size_app (bstr_sz 1 32) rfl
   have h23 : ((((((itoaB A.p.reeve) ++ ((bstr 1 32) ++ (itoaB A.p.number))) ++ ((bstr 1 32) ++ (itoaB A.p.tick))) ++ (bstr 4 1701144096)) ++ ((bstr 1 32) ++ (itoaB A.p.cse))).size : Int) = ((((((itoaB A.p.reeve) ++ ((bstr 1 32) ++ (itoaB A.p.number))) ++ ((bstr 1 32) ++ (itoaB A.p.tick))) ++ (bstr 4 1701144096))).size : Int) + (((bstr 1 32) ++ (itoaB A.p.cse)).size : Int) := size_app rfl rfl
   have h24 : ((itoaB A.p.owner).size : Int) ≤ 9 := itoaB_size (show 0 ≤ A.p.owner ∧ A.p.owner ≤ 999999999 by omega)
   have h25 : (((bstr 1 32) ++ (itoaB A.p.owner)).size : Int) = 1 + ((itoaB A.p.owner).size : Int) := size_app (bstr_sz 1 32) rfl
   have h26 : (((((((itoaB A.p.reeve) ++ ((bstr 1 32) ++ (itoaB A.p.number))) ++ ((bstr 1 32) ++ (itoaB A.p.tick))) ++ (bstr 4 1701144096)) ++ ((bstr 1 32) ++ (itoaB A.p.cse))) ++ ((bstr 1 32) ++ (itoaB A.p.owner))).size : Int) = (((((((itoaB A.p.reeve) ++ ((bstr 1 32) ++ (itoaB A.p.number))) ++ ((bstr 1 32) ++ (itoaB A.p.tick))) ++ (bstr 4 1701144096)) ++ ((bstr 1 32) ++ (itoaB A.p.cse)))).size : Int) + (((bstr 1 32) ++ (itoaB A.p.owner)).size : Int) := size_app rfl rfl
   have h27 : ((itoaB A.p.amount).size : Int) ≤ 9 := itoaB_size (show 0 ≤ A.p.amount ∧ A.p.amount ≤ 999999999 by omega)
   have h28 : (((bstr 1 32) ++ (itoaB A.p.amount)).size : Int) = 1 + ((itoaB A.p.amount).size : Int) := size_app (bstr_sz 1 32) rfl
   have h29 : ((((((((itoaB A.p.reeve) ++ ((bstr 1 32) ++ (itoaB A.p.number))) ++ ((bstr 1 32) ++ (itoaB A.p.tick))) ++ (bstr 4 1701144096)) ++ ((bstr 1 32) ++ (itoaB A.p.cse))) ++ ((bstr 1 32) ++ (itoaB A.p.owner))) ++ ((bstr 1 32) ++ (itoaB A.p.amount))).size : Int) = ((((((((itoaB A.p.reeve) ++ ((bstr 1 32) ++ (itoaB A.p.number))) ++ ((bstr 1 32) ++ (itoaB A.p.tick))) ++ (bstr 4 1701144096)) ++ ((bstr 1 32) ++ (itoaB A.p.cse))) ++ ((bstr 1 32) ++ (itoaB A.p.owner)))).size : Int) + (((bstr 1 32) ++ (itoaB A.p.amount)).size : Int) := size_app rfl rfl
   refine wS (.string (((((itoaB A.p.reeve) ++ ((bstr 1 32) ++ (itoaB A.p.number))) ++ ((bstr 1 32) ++ (itoaB A.p.tick))) ++ (bstr 4 1701144096))) :: .string (itoaB A.p.cse) :: .string ((bstr 1 32) ++ (itoaB A.p.cse)) :: .string ((((((itoaB A.p.reeve) ++ ((bstr 1 32) ++ (itoaB A.p.number))) ++ ((bstr 1 32) ++ (itoaB A.p.tick))) ++ (bstr 4 1701144096)) ++ ((bstr 1 32) ++ (itoaB A.p.cse)))) :: .string (itoaB A.p.owner) :: .string ((bstr 1 32) ++ (itoaB A.p.owner)) :: .string (((((((itoaB A.p.reeve) ++ ((bstr 1 32) ++ (itoaB A.p.number))) ++ ((bstr 1 32) ++ (itoaB A.p.tick))) ++ (bstr 4 1701144096)) ++ ((bstr 1 32) ++ (itoaB A.p.cse))) ++ ((bstr 1 32) ++ (itoaB A.p.owner)))) :: .string (itoaB A.p.amount) :: .string ((bstr 1 32) ++ (itoaB A.p.amount)) :: .string ((((((((itoaB A.p.reeve) ++ ((bstr 1 32) ++ (itoaB A.p.number))) ++ ((bstr 1 32) ++ (itoaB A.p.tick))) ++ (bstr 4 1701144096)) ++ ((bstr 1 32) ++ (itoaB A.p.cse))) ++ ((bstr 1 32) ++ (itoaB A.p.owner))) ++ ((bstr 1 32) ++ (itoaB A.p.amount)))) :: []) (wT .eql 4 (.int .u8 2) h19 (wE (⟨tagB .add, [18, .str 4 1701144096], 19⟩) (fun _ => q_sadd rfl rfl rfl (size_le rfl (bstr_sz 4 1701144096) (by omega))) (wE (⟨tagB .add, [.str 1 32, 20], 21⟩) (fun _ => q_sadd rfl rfl rfl (size_le (bstr_sz 1 32) rfl (by omega))) (wE (⟨tagB .add, [19, 21], 22⟩) (fun _ => q_sadd rfl rfl rfl (size_le rfl rfl (by omega))) (wE (⟨tagB .add, [.str 1 32, 23], 24⟩) (fun _ => q_sadd rfl rfl rfl (size_le (bstr_sz 1 32) rfl (by omega))) (wE (⟨tagB .add, [22, 24], 25⟩) (fun _ => q_sadd rfl rfl rfl (size_le rfl rfl (by omega))) (wE (⟨tagB .add, [.str 1 32, 26], 27⟩) (fun _ => q_sadd rfl rfl rfl (size_le (bstr_sz 1 32) rfl (by omega))) (wE (⟨tagB .add, [25, 27], 28⟩) (fun _ => q_sadd rfl rfl rfl (size_le rfl rfl (by omega))) (wC (⟨170, [.tup [5], .tup []], 20⟩) (fun _ => q_cV (h := fun w hw => by exact itoa_n (HS.old hw) _ (show -9223372036854775808 ≤ _ ∧ _ ≤ 9223372036854775807 by omega))) (wC (⟨170, [.tup [6], .tup []], 23⟩) (fun _ => q_cV (h := fun w hw => by exact itoa_n (HS.old hw) _ (show -9223372036854775808 ≤ _ ∧ _ ≤ 9223372036854775807 by omega))) (wC (⟨170, [.tup [11], .tup []], 26⟩) (fun _ => q_cV (h := fun w hw => by exact itoa_n (HS.old hw) _ (show -9223372036854775808 ≤ _ ∧ _ ≤ 9223372036854775807 by omega))) ?_)))))))))))
   exact wZ 28 [.agg [1, 2, 3, 4, 5, 6, 7, 8, 9, 10, 11]]
  ·refine wF .eql 4 (.int .u8 2) h19 ?_
   split <;> rename_i h20
   ·have h21 : (((((itoaB A.p.reeve) ++ ((bstr 1 32) ++ (itoaB A.p.number))) ++ ((bstr 1 32) ++ (itoaB A.p.tick))) ++ (bstr 5 435593245728)).size : Int) = (((((itoaB A.p.reeve) ++ ((bstr 1 32) ++ (itoaB A.p.number))) ++ ((bstr 1 32) ++ (itoaB A.p.tick)))).size : Int) + 5 := size_app rfl (bstr_sz 5 435593245728)
    have h22 : ((itoaB A.p.of.reeve).size : Int) ≤ 9 := itoaB_size (show 0 ≤ A.p.of.reeve ∧ A.p.of.reeve ≤ 999999999 by omega)
    have h23 : (((bstr 1 32) ++ (itoaB A.p.of.reeve)).size : Int) = 1 + ((itoaB A.p.of.reeve).size : Int) := size_app (bstr_sz 1 32) rfl
    have h24 : ((((((itoaB A.p.reeve) ++ ((bstr 1 32) ++ (itoaB A.p.number))) ++ ((bstr 1 32) ++ (itoaB A.p.tick))) ++ (bstr 5 435593245728)) ++ ((bstr 1 32) ++ (itoaB A.p.of.reeve))).size : Int) = ((((((itoaB A.p.reeve) ++ ((bstr 1 32) ++ (itoaB A.p.number))) ++ ((bstr 1 32) ++ (itoaB A.p.tick))) ++ (bstr 5 435593245728))).size : Int) + (((bstr 1 32) ++ (itoaB A.p.of.reeve)).size : Int) := size_app rfl rfl
    have h25 : ((itoaB A.p.of.number).size : Int) ≤ 9 := itoaB_size (show 0 ≤ A.p.of.number ∧ A.p.of.number ≤ 999999999 by omega)
    have h26 : (((bstr 1 32) ++ (itoaB A.p.of.number)).size : Int) = 1 + ((itoaB A.p.of.number).size : Int) := size_app (bstr_sz 1 32) rfl
    have h27 : (((((((itoaB A.p.reeve) ++ ((bstr 1 32) ++ (itoaB A.p.number))) ++ ((bstr 1 32) ++ (itoaB A.p.tick))) ++ (bstr 5 435593245728)) ++ ((bstr 1 32) ++ (itoaB A.p.of.reeve))) ++ ((bstr 1 32) ++ (itoaB A.p.of.number))).size : Int) = (((((((itoaB A.p.reeve) ++ ((bstr 1 32) ++ (itoaB A.p.number))) ++ ((bstr 1 32) ++ (itoaB A.p.tick))) ++ (bstr 5 435593245728)) ++ ((bstr 1 32) ++ (itoaB A.p.of.reeve)))).size : Int) + (((bstr 1 32) ++ (itoaB A.p.of.number)).size : Int) := size_app rfl rfl
    have h28 : ((itoaB A.p.owner).size : Int) ≤ 9 := itoaB_size (show 0 ≤ A.p.owner ∧ A.p.owner ≤ 999999999 by omega)
    have h29 : (((bstr 1 32) ++ (itoaB A.p.owner)).size : Int) = 1 + ((itoaB A.p.owner).size : Int) := size_app (bstr_sz 1 32) rfl
    have h30 : ((((((((itoaB A.p.reeve) ++ ((bstr 1 32) ++ (itoaB A.p.number))) ++ ((bstr 1 32) ++ (itoaB A.p.tick))) ++ (bstr 5 435593245728)) ++ ((bstr 1 32) ++ (itoaB A.p.of.reeve))) ++ ((bstr 1 32) ++ (itoaB A.p.of.number))) ++ ((bstr 1 32) ++ (itoaB A.p.owner))).size : Int) = ((((((((itoaB A.p.reeve) ++ ((bstr 1 32) ++ (itoaB A.p.number))) ++ ((bstr 1 32) ++ (itoaB A.p.tick))) ++ (bstr 5 435593245728)) ++ ((bstr 1 32) ++ (itoaB A.p.of.reeve))) ++ ((bstr 1 32) ++ (itoaB A.p.of.number)))).size : Int) + (((bstr 1 32) ++ (itoaB A.p.owner)).size : Int) := size_app rfl rfl
    have h31 : ((itoaB A.p.amount).size : Int) ≤ 9 := itoaB_size (show 0 ≤ A.p.amount ∧ A.p.amount ≤ 999999999 by omega)
    have h32 : (((bstr 1 32) ++ (itoaB A.p.amount)).size : Int) = 1 + ((itoaB A.p.amount).size : Int) := size_app (bstr_sz 1 32) rfl
    have h33 : (((((((((itoaB A.p.reeve) ++ ((bstr 1 32) ++ (itoaB A.p.number))) ++ ((bstr 1 32) ++ (itoaB A.p.tick))) ++ (bstr 5 435593245728)) ++ ((bstr 1 32) ++ (itoaB A.p.of.reeve))) ++ ((bstr 1 32) ++ (itoaB A.p.of.number))) ++ ((bstr 1 32) ++ (itoaB A.p.owner))) ++ ((bstr 1 32) ++ (itoaB A.p.amount))).size : Int) = (((((((((itoaB A.p.reeve) ++ ((bstr 1 32) ++ (itoaB A.p.number))) ++ ((bstr 1 32) ++ (itoaB A.p.tick))) ++ (bstr 5 435593245728)) ++ ((bstr 1 32) ++ (itoaB A.p.of.reeve))) ++ ((bstr 1 32) ++ (itoaB A.p.of.number))) ++ ((bstr 1 32) ++ (itoaB A.p.owner)))).size : Int) + (((bstr 1 32) ++ (itoaB A.p.amount)).size : Int) := size_app rfl rfl
    refine wS (.string (((((itoaB A.p.reeve) ++ ((bstr 1 32) ++ (itoaB A.p.number))) ++ ((bstr 1 32) ++ (itoaB A.p.tick))) ++ (bstr 5 435593245728))) :: .string (itoaB A.p.of.reeve) :: .string ((bstr 1 32) ++ (itoaB A.p.of.reeve)) :: .string ((((((itoaB A.p.reeve) ++ ((bstr 1 32) ++ (itoaB A.p.number))) ++ ((bstr 1 32) ++ (itoaB A.p.tick))) ++ (bstr 5 435593245728)) ++ ((bstr 1 32) ++ (itoaB A.p.of.reeve)))) :: .string (itoaB A.p.of.number) :: .string ((bstr 1 32) ++ (itoaB A.p.of.number)) :: .string (((((((itoaB A.p.reeve) ++ ((bstr 1 32) ++ (itoaB A.p.number))) ++ ((bstr 1 32) ++ (itoaB A.p.tick))) ++ (bstr 5 435593245728)) ++ ((bstr 1 32) ++ (itoaB A.p.of.reeve))) ++ ((bstr 1 32) ++ (itoaB A.p.of.number)))) :: .string (itoaB A.p.owner) :: .string ((bstr 1 32) ++ (itoaB A.p.owner)) :: .string ((((((((itoaB A.p.reeve) ++ ((bstr 1 32) ++ (itoaB A.p.number))) ++ ((bstr 1 32) ++ (itoaB A.p.tick))) ++ (bstr 5 435593245728)) ++ ((bstr 1 32) ++ (itoaB A.p.of.reeve))) ++ ((bstr 1 32) ++ (itoaB A.p.of.number))) ++ ((bstr 1 32) ++ (itoaB A.p.owner)))) :: .string (itoaB A.p.amount) :: .string ((bstr 1 32) ++ (itoaB A.p.amount)) :: .string (((((((((itoaB A.p.reeve) ++ ((bstr 1 32) ++ (itoaB A.p.number))) ++ ((bstr 1 32) ++ (itoaB A.p.tick))) ++ (bstr 5 435593245728)) ++ ((bstr 1 32) ++ (itoaB A.p.of.reeve))) ++ ((bstr 1 32) ++ (itoaB A.p.of.number))) ++ ((bstr 1 32) ++ (itoaB A.p.owner))) ++ ((bstr 1 32) ++ (itoaB A.p.amount)))) :: []) (wT .eql 4 (.int .u8 3) h20 (wE (⟨tagB .add, [18, .str 5 435593245728], 19⟩) (fun _ => q_sadd rfl rfl rfl (size_le rfl (bstr_sz 5 435593245728) (by omega))) (wE (⟨tagB .add, [.str 1 32, 20], 21⟩) (fun _ => q_sadd rfl rfl rfl (size_le (bstr_sz 1 32) rfl (by omega))) (wE (⟨tagB .add, [19, 21], 22⟩) (fun _ => q_sadd rfl rfl rfl (size_le rfl rfl (by omega))) (wE (⟨tagB .add, [.str 1 32, 23], 24⟩) (fun _ => q_sadd rfl rfl rfl (size_le (bstr_sz 1 32) rfl (by omega))) (wE (⟨tagB .add, [22, 24], 25⟩) (fun _ => q_sadd rfl rfl rfl (size_le rfl rfl (by omega))) (wE (⟨tagB .add, [.str 1 32, 26], 27⟩) (fun _ => q_sadd rfl rfl rfl (size_le (bstr_sz 1 32) rfl (by omega))) (wE (⟨tagB .add, [25, 27], 28⟩) (fun _ => q_sadd rfl rfl rfl (size_le rfl rfl (by omega))) (wE (⟨tagB .add, [.str 1 32, 29], 30⟩) (fun _ => q_sadd rfl rfl rfl (size_le (bstr_sz 1 32) rfl (by omega))) (wE (⟨tagB .add, [28, 30], 31⟩) (fun _ => q_sadd rfl rfl rfl (size_le rfl rfl (by omega))) (wC (⟨170, [.tup [7], .tup []], 20⟩) (fun _ => q_cV (h := fun w hw => by exact itoa_n (HS.old hw) _ (show -9223372036854775808 ≤ _ ∧ _ ≤ 9223372036854775807 by omega))) (wC (⟨170, [.tup [8], .tup []], 23⟩) (fun _ => q_cV (h := fun w hw => by exact itoa_n (HS.old hw) _ (show -9223372036854775808 ≤ _ ∧ _ ≤ 9223372036854775807 by omega))) (wC (⟨170, [.tup [6], .tup []], 26⟩) (fun _ => q_cV (h := fun w hw => by exact itoa_n (HS.old hw) _ (show -9223372036854775808 ≤ _ ∧ _ ≤ 9223372036854775807 by omega))) (wC (⟨170, [.tup [11], .tup []], 29⟩) (fun _ => q_cV (h := fun w hw => by exact itoa_n (HS.old hw) _ (show -9223372036854775808 ≤ _ ∧ _ ≤ 9223372036854775807 by omega))) ?_))))))))))))))
    exact wZ 31 [.agg [1, 2, 3, 4, 5, 6, 7, 8, 9, 10, 11]]
   ·refine wF .eql 4 (.int .u8 3) h20 ?_
    split <;> rename_i h21
    ·have h22 : (((((itoaB A.p.reeve) ++ ((bstr 1 32) ++ (itoaB A.p.number))) ++ ((bstr 1 32) ++ (itoaB A.p.tick))) ++ (bstr 6 111559248541472)).size : Int) = (((((itoaB A.p.reeve) ++ ((bstr 1 32) ++ (itoaB A.p.number))) ++ ((bstr 1 32) ++ (itoaB A.p.tick)))).size : Int) + 6 := size_app rfl (bstr_sz 6 111559248541472)
     have h23 : ((itoaB A.p.of.number).size : Int) ≤ 9 := itoaB_size (show 0 ≤ A.p.of.number ∧ A.p.of.number ≤ 999999999 by omega)
     have h24 : (((bstr 1 32) ++ (itoaB A.p.of.number)).size : Int) = 1 + ((itoaB A.p.of.number).size : Int) := size_app (bstr_sz 1 32) rfl
     have h25 : ((((((itoaB A.p.reeve) ++ ((bstr 1 32) ++ (itoaB A.p.number))) ++ ((bstr 1 32) ++ (itoaB A.p.tick))) ++ (bstr 6 111559248541472)) ++ ((bstr 1 32) ++ (itoaB A.p.of.number))).size : Int) = ((((((itoaB A.p.reeve) ++ ((bstr 1 32) ++ (itoaB A.p.number))) ++ ((bstr 1 32) ++ (itoaB A.p.tick))) ++ (bstr 6 111559248541472))).size : Int) + (((bstr 1 32) ++ (itoaB A.p.of.number)).size : Int) := size_app rfl rfl
     have h26 : ((itoaB A.p.owner).size : Int) ≤ 9 := itoaB_size (show 0 ≤ A.p.owner ∧ A.p.owner ≤ 999999999 by omega)
     have h27 : (((bstr 1 32) ++ (itoaB A.p.owner)).size : Int) = 1 + ((itoaB A.p.owner).size : Int) := size_app (bstr_sz 1 32) rfl
     have h28 : (((((((itoaB A.p.reeve) ++ ((bstr 1 32) ++ (itoaB A.p.number))) ++ ((bstr 1 32) ++ (itoaB A.p.tick))) ++ (bstr 6 111559248541472)) ++ ((bstr 1 32) ++ (itoaB A.p.of.number))) ++ ((bstr 1 32) ++ (itoaB A.p.owner))).size : Int) = (((((((itoaB A.p.reeve) ++ ((bstr 1 32) ++ (itoaB A.p.number))) ++ ((bstr 1 32) ++ (itoaB A.p.tick))) ++ (bstr 6 111559248541472)) ++ ((bstr 1 32) ++ (itoaB A.p.of.number)))).size : Int) + (((bstr 1 32) ++ (itoaB A.p.owner)).size : Int) := size_app rfl rfl
     have h29 : ((itoaB A.p.amount).size : Int) ≤ 9 := itoaB_size (show 0 ≤ A.p.amount ∧ A.p.amount ≤ 999999999 by omega)
     have h30 : (((bstr 1 32) ++ (itoaB A.p.amount)).size : Int) = 1 + ((itoaB A.p.amount).size : Int) := size_app (bstr_sz 1 32) rfl
     have h31 : ((((((((itoaB A.p.reeve) ++ ((bstr 1 32) ++ (itoaB A.p.number))) ++ ((bstr 1 32) ++ (itoaB A.p.tick))) ++ (bstr 6 111559248541472)) ++ ((bstr 1 32) ++ (itoaB A.p.of.number))) ++ ((bstr 1 32) ++ (itoaB A.p.owner))) ++ ((bstr 1 32) ++ (itoaB A.p.amount))).size : Int) = ((((((((itoaB A.p.reeve) ++ ((bstr 1 32) ++ (itoaB A.p.number))) ++ ((bstr 1 32) ++ (itoaB A.p.tick))) ++ (bstr 6 111559248541472)) ++ ((bstr 1 32) ++ (itoaB A.p.of.number))) ++ ((bstr 1 32) ++ (itoaB A.p.owner)))).size : Int) + (((bstr 1 32) ++ (itoaB A.p.amount)).size : Int) := size_app rfl rfl
     refine wS (.string (((((itoaB A.p.reeve) ++ ((bstr 1 32) ++ (itoaB A.p.number))) ++ ((bstr 1 32) ++ (itoaB A.p.tick))) ++ (bstr 6 111559248541472))) :: .string (itoaB A.p.of.number) :: .string ((bstr 1 32) ++ (itoaB A.p.of.number)) :: .string ((((((itoaB A.p.reeve) ++ ((bstr 1 32) ++ (itoaB A.p.number))) ++ ((bstr 1 32) ++ (itoaB A.p.tick))) ++ (bstr 6 111559248541472)) ++ ((bstr 1 32) ++ (itoaB A.p.of.number)))) :: .string (itoaB A.p.owner) :: .string ((bstr 1 32) ++ (itoaB A.p.owner)) :: .string (((((((itoaB A.p.reeve) ++ ((bstr 1 32) ++ (itoaB A.p.number))) ++ ((bstr 1 32) ++ (itoaB A.p.tick))) ++ (bstr 6 111559248541472)) ++ ((bstr 1 32) ++ (itoaB A.p.of.number))) ++ ((bstr 1 32) ++ (itoaB A.p.owner)))) :: .string (itoaB A.p.amount) :: .string ((bstr 1 32) ++ (itoaB A.p.amount)) :: .string ((((((((itoaB A.p.reeve) ++ ((bstr 1 32) ++ (itoaB A.p.number))) ++ ((bstr 1 32) ++ (itoaB A.p.tick))) ++ (bstr 6 111559248541472)) ++ ((bstr 1 32) ++ (itoaB A.p.of.number))) ++ ((bstr 1 32) ++ (itoaB A.p.owner))) ++ ((bstr 1 32) ++ (itoaB A.p.amount)))) :: []) (wT .eql 4 (.int .u8 5) h21 (wE (⟨tagB .add, [18, .str 6 111559248541472], 19⟩) (fun _ => q_sadd rfl rfl rfl (size_le rfl (bstr_sz 6 111559248541472) (by omega))) (wE (⟨tagB .add, [.str 1 32, 20], 21⟩) (fun _ => q_sadd rfl rfl rfl (size_le (bstr_sz 1 32) rfl (by omega))) (wE (⟨tagB .add, [19, 21], 22⟩) (fun _ => q_sadd rfl rfl rfl (size_le rfl rfl (by omega))) (wE (⟨tagB .add, [.str 1 32, 23], 24⟩) (fun _ => q_sadd rfl rfl rfl (size_le (bstr_sz 1 32) rfl (by omega))) (wE (⟨tagB .add, [22, 24], 25⟩) (fun _ => q_sadd rfl rfl rfl (size_le rfl rfl (by omega))) (wE (⟨tagB .add, [.str 1 32, 26], 27⟩) (fun _ => q_sadd rfl rfl rfl (size_le (bstr_sz 1 32) rfl (by omega))) (wE (⟨tagB .add, [25, 27], 28⟩) (fun _ => q_sadd rfl rfl rfl (size_le rfl rfl (by omega))) (wC (⟨170, [.tup [8], .tup []], 20⟩) (fun _ => q_cV (h := fun w hw => by exact itoa_n (HS.old hw) _ (show -9223372036854775808 ≤ _ ∧ _ ≤ 9223372036854775807 by omega))) (wC (⟨170, [.tup [6], .tup []], 23⟩) (fun _ => q_cV (h := fun w hw => by exact itoa_n (HS.old hw) _ (show -9223372036854775808 ≤ _ ∧ _ ≤ 9223372036854775807 by omega))) (wC (⟨170, [.tup [11], .tup []], 26⟩) (fun _ => q_cV (h := fun w hw => by exact itoa_n (HS.old hw) _ (show -9223372036854775808 ≤ _ ∧ _ ≤ 9223372036854775807 by omega))) ?_)))))))))))
     exact wZ 28 [.agg [1, 2, 3, 4, 5, 6, 7, 8, 9, 10, 11]]
    ·have h22 : (((((itoaB A.p.reeve) ++ ((bstr 1 32) ++ (itoaB A.p.number))) ++ ((bstr 1 32) ++ (itoaB A.p.tick))) ++ (bstr 4 2036428832)).size : Int) = (((((itoaB A.p.reeve) ++ ((bstr 1 32) ++ (itoaB A.p.number))) ++ ((bstr 1 32) ++ (itoaB A.p.tick)))).size : Int) + 4 := size_app rfl (bstr_sz 4 2036428832)
     have h23 : ((itoaB A.p.of.number).size : Int) ≤ 9 := itoaB_size (show 0 ≤ A.p.of.number ∧ A.p.of.number ≤ 999999999 by omega)
     have h24 : (((bstr 1 32) ++ (itoaB A.p.of.number)).size : Int) = 1 + ((itoaB A.p.of.number).size : Int) := size_app (bstr_sz 1 32) rfl
     have h25 : ((((((itoaB A.p.reeve) ++ ((bstr 1 32) ++ (itoaB A.p.number))) ++ ((bstr 1 32) ++ (itoaB A.p.tick))) ++ (bstr 4 2036428832)) ++ ((bstr 1 32) ++ (itoaB A.p.of.number))).size : Int) = ((((((itoaB A.p.reeve) ++ ((bstr 1 32) ++ (itoaB A.p.number))) ++ ((bstr 1 32) ++ (itoaB A.p.tick))) ++ (bstr 4 2036428832))).size : Int) + (((bstr 1 32) ++ (itoaB A.p.of.number)).size : Int) := size_app rfl rfl
     have h26 : ((itoaB A.p.owner).size : Int) ≤ 9 := itoaB_size (show 0 ≤ A.p.owner ∧ A.p.owner ≤ 999999999 by omega)
     have h27 : (((bstr 1 32) ++ (itoaB A.p.owner)).size : Int) = 1 + ((itoaB A.p.owner).size : Int) := size_app (bstr_sz 1 32) rfl
     have h28 : (((((((itoaB A.p.reeve) ++ ((bstr 1 32) ++ (itoaB A.p.number))) ++ ((bstr 1 32) ++ (itoaB A.p.tick))) ++ (bstr 4 2036428832)) ++ ((bstr 1 32) ++ (itoaB A.p.of.number))) ++ ((bstr 1 32) ++ (itoaB A.p.owner))).size : Int) = (((((((itoaB A.p.reeve) ++ ((bstr 1 32) ++ (itoaB A.p.number))) ++ ((bstr 1 32) ++ (itoaB A.p.tick))) ++ (bstr 4 2036428832)) ++ ((bstr 1 32) ++ (itoaB A.p.of.number)))).size : Int) + (((bstr 1 32) ++ (itoaB A.p.owner)).size : Int) := size_app rfl rfl
     have h29 : ((itoaB A.p.amount).size : Int) ≤ 9 := itoaB_size (show 0 ≤ A.p.amount ∧ A.p.amount ≤ 999999999 by omega)
     have h30 : (((bstr 1 32) ++ (itoaB A.p.amount)).size : Int) = 1 + ((itoaB A.p.amount).size : Int) := size_app (bstr_sz 1 32) rfl
     have h31 : ((((((((itoaB A.p.reeve) ++ ((bstr 1 32) ++ (itoaB A.p.number))) ++ ((bstr 1 32) ++ (itoaB A.p.tick))) ++ (bstr 4 2036428832)) ++ ((bstr 1 32) ++ (itoaB A.p.of.number))) ++ ((bstr 1 32) ++ (itoaB A.p.owner))) ++ ((bstr 1 32) ++ (itoaB A.p.amount))).size : Int) = ((((((((itoaB A.p.reeve) ++ ((bstr 1 32) ++ (itoaB A.p.number))) ++ ((bstr 1 32) ++ (itoaB A.p.tick))) ++ (bstr 4 2036428832)) ++ ((bstr 1 32) ++ (itoaB A.p.of.number))) ++ ((bstr 1 32) ++ (itoaB A.p.owner)))).size : Int) + (((bstr 1 32) ++ (itoaB A.p.amount)).size : Int) := size_app rfl rfl
     refine wS (.string (((((itoaB A.p.reeve) ++ ((bstr 1 32) ++ (itoaB A.p.number))) ++ ((bstr 1 32) ++ (itoaB A.p.tick))) ++ (bstr 4 2036428832))) :: .string (itoaB A.p.of.number) :: .string ((bstr 1 32) ++ (itoaB A.p.of.number)) :: .string ((((((itoaB A.p.reeve) ++ ((bstr 1 32) ++ (itoaB A.p.number))) ++ ((bstr 1 32) ++ (itoaB A.p.tick))) ++ (bstr 4 2036428832)) ++ ((bstr 1 32) ++ (itoaB A.p.of.number)))) :: .string (itoaB A.p.owner) :: .string ((bstr 1 32) ++ (itoaB A.p.owner)) :: .string (((((((itoaB A.p.reeve) ++ ((bstr 1 32) ++ (itoaB A.p.number))) ++ ((bstr 1 32) ++ (itoaB A.p.tick))) ++ (bstr 4 2036428832)) ++ ((bstr 1 32) ++ (itoaB A.p.of.number))) ++ ((bstr 1 32) ++ (itoaB A.p.owner)))) :: .string (itoaB A.p.amount) :: .string ((bstr 1 32) ++ (itoaB A.p.amount)) :: .string ((((((((itoaB A.p.reeve) ++ ((bstr 1 32) ++ (itoaB A.p.number))) ++ ((bstr 1 32) ++ (itoaB A.p.tick))) ++ (bstr 4 2036428832)) ++ ((bstr 1 32) ++ (itoaB A.p.of.number))) ++ ((bstr 1 32) ++ (itoaB A.p.owner))) ++ ((bstr 1 32) ++ (itoaB A.p.amount)))) :: []) (wF .eql 4 (.int .u8 5) h21 (wE (⟨tagB .add, [18, .str 4 2036428832], 19⟩) (fun _ => q_sadd rfl rfl rfl (size_le rfl (bstr_sz 4 2036428832) (by omega))) (wE (⟨tagB .add, [.str 1 32, 20], 21⟩) (fun _ => q_sadd rfl rfl rfl (size_le (bstr_sz 1 32) rfl (by omega))) (wE (⟨tagB .add, [19, 21], 22⟩) (fun _ => q_sadd rfl rfl rfl (size_le rfl rfl (by omega))) (wE (⟨tagB .add, [.str 1 32, 23], 24⟩) (fun _ => q_sadd rfl rfl rfl (size_le (bstr_sz 1 32) rfl (by omega))) (wE (⟨tagB .add, [22, 24], 25⟩) (fun _ => q_sadd rfl rfl rfl (size_le rfl rfl (by omega))) (wE (⟨tagB .add, [.str 1 32, 26], 27⟩) (fun _ => q_sadd rfl rfl rfl (size_le (bstr_sz 1 32) rfl (by omega))) (wE (⟨tagB .add, [25, 27], 28⟩) (fun _ => q_sadd rfl rfl rfl (size_le rfl rfl (by omega))) (wC (⟨170, [.tup [8], .tup []], 20⟩) (fun _ => q_cV (h := fun w hw => by exact itoa_n (HS.old hw) _ (show -9223372036854775808 ≤ _ ∧ _ ≤ 9223372036854775807 by omega))) (wC (⟨170, [.tup [6], .tup []], 23⟩) (fun _ => q_cV (h := fun w hw => by exact itoa_n (HS.old hw) _ (show -9223372036854775808 ≤ _ ∧ _ ≤ 9223372036854775807 by omega))) (wC (⟨170, [.tup [11], .tup []], 26⟩) (fun _ => q_cV (h := fun w hw => by exact itoa_n (HS.old hw) _ (show -9223372036854775808 ≤ _ ∧ _ ≤ 9223372036854775807 by omega))) ?_)))))))))))
     split <;> rename_i h32
     ·refine wU 9 (J 0) h32 ?_
      split <;> rename_i h33
      ·refine wU 10 (J 0) h33 ?_
       exact wZ 28 [.agg [1, 2, 3, 4, 5, 6, 7, 8, 9, 10, 11]]
      ·have h34 : (((((((((itoaB A.p.reeve) ++ ((bstr 1 32) ++ (itoaB A.p.number))) ++ ((bstr 1 32) ++ (itoaB A.p.tick))) ++ (bstr 4 2036428832)) ++ ((bstr 1 32) ++ (itoaB A.p.of.number))) ++ ((bstr 1 32) ++ (itoaB A.p.owner))) ++ ((bstr 1 32) ++ (itoaB A.p.amount))) ++ (bstr 3 7954976)).size : Int) = (((((((((itoaB A.p.reeve) ++ ((bstr 1 32) ++ (itoaB A.p.number))) ++ ((bstr 1 32) ++ (itoaB A.p.tick))) ++ (bstr 4 2036428832)) ++ ((bstr 1 32) ++ (itoaB A.p.of.number))) ++ ((bstr 1 32) ++ (itoaB A.p.owner))) ++ ((bstr 1 32) ++ (itoaB A.p.amount)))).size : Int) + 3 := size_app rfl (bstr_sz 3 7954976)
       have h35 : ((itoaB A.p.by_.reeve).size : Int) ≤ 9 := itoaB_size (show 0 ≤ A.p.by_.reeve ∧ A.p.by_.reeve ≤ 999999999 by omega)
       have h36 : (((bstr 1 32) ++ (itoaB A.p.by_.reeve)).size : Int) = 1 + ((itoaB A.p.by_.reeve).size : Int) := size_app (bstr_sz 1 32) rfl
       have h37 : ((((((((((itoaB A.p.reeve) ++ ((bstr 1 32) ++ (itoaB A.p.number))) ++ ((bstr 1 32) ++ (itoaB A.p.tick))) ++ (bstr 4 2036428832)) ++ ((bstr 1 32) ++ (itoaB A.p.of.number))) ++ ((bstr 1 32) ++ (itoaB A.p.owner))) ++ ((bstr 1 32) ++ (itoaB A.p.amount))) ++ (bstr 3 7954976)) ++ ((bstr 1 32) ++ (itoaB A.p.by_.reeve))).size : Int) = ((((((((((itoaB A.p.reeve) ++ ((bstr 1 32) ++ (itoaB A.p.number))) ++ ((bstr 1 32) ++ (itoaB A.p.tick))) ++ (bstr 4 2036428832)) ++ ((bstr 1 32) ++ (itoaB A.p.of.number))) ++ ((bstr 1 32) ++ (itoaB A.p.owner))) ++ ((bstr 1 32) ++ (itoaB A.p.amount))) ++ (bstr 3 7954976))).size : Int) + (((bstr 1 32) ++ (itoaB A.p.by_.reeve)).size : Int) := size_app rfl rfl
       have h38 : ((itoaB A.p.by_.number).size : Int) ≤ 9 := itoaB_size (show 0 ≤ A.p.by_.number ∧ A.p.by_.number ≤ 999999999 by omega)
       have h39 : (((bstr 1 32) ++ (itoaB A.p.by_.number)).size : Int) = 1 + ((itoaB A.p.by_.number).size : Int) := size_app (bstr_sz 1 32) rfl
       have h40 : (((((((((((itoaB A.p.reeve) ++ ((bstr 1 32) ++ (itoaB A.p.number))) ++ ((bstr 1 32) ++ (itoaB A.p.tick))) ++ (bstr 4 2036428832)) ++ ((bstr 1 32) ++ (itoaB A.p.of.number))) ++ ((bstr 1 32) ++ (itoaB A.p.owner))) ++ ((bstr 1 32) ++ (itoaB A.p.amount))) ++ (bstr 3 7954976)) ++ ((bstr 1 32) ++ (itoaB A.p.by_.reeve))) ++ ((bstr 1 32) ++ (itoaB A.p.by_.number))).size : Int) = (((((((((((itoaB A.p.reeve) ++ ((bstr 1 32) ++ (itoaB A.p.number))) ++ ((bstr 1 32) ++ (itoaB A.p.tick))) ++ (bstr 4 2036428832)) ++ ((bstr 1 32) ++ (itoaB A.p.of.number))) ++ ((bstr 1 32) ++ (itoaB A.p.owner))) ++ ((bstr 1 32) ++ (itoaB A.p.amount))) ++ (bstr 3 7954976)) ++ ((bstr 1 32) ++ (itoaB A.p.by_.reeve)))).size : Int) + (((bstr 1 32) ++ (itoaB A.p.by_.number)).size : Int) := size_app rfl rfl
       refine wS (.string (((((((((itoaB A.p.reeve) ++ ((bstr 1 32) ++ (itoaB A.p.number))) ++ ((bstr 1 32) ++ (itoaB A.p.tick))) ++ (bstr 4 2036428832)) ++ ((bstr 1 32) ++ (itoaB A.p.of.number))) ++ ((bstr 1 32) ++ (itoaB A.p.owner))) ++ ((bstr 1 32) ++ (itoaB A.p.amount))) ++ (bstr 3 7954976))) :: .string (itoaB A.p.by_.reeve) :: .string ((bstr 1 32) ++ (itoaB A.p.by_.reeve)) :: .string ((((((((((itoaB A.p.reeve) ++ ((bstr 1 32) ++ (itoaB A.p.number))) ++ ((bstr 1 32) ++ (itoaB A.p.tick))) ++ (bstr 4 2036428832)) ++ ((bstr 1 32) ++ (itoaB A.p.of.number))) ++ ((bstr 1 32) ++ (itoaB A.p.owner))) ++ ((bstr 1 32) ++ (itoaB A.p.amount))) ++ (bstr 3 7954976)) ++ ((bstr 1 32) ++ (itoaB A.p.by_.reeve)))) :: .string (itoaB A.p.by_.number) :: .string ((bstr 1 32) ++ (itoaB A.p.by_.number)) :: .string (((((((((((itoaB A.p.reeve) ++ ((bstr 1 32) ++ (itoaB A.p.number))) ++ ((bstr 1 32) ++ (itoaB A.p.tick))) ++ (bstr 4 2036428832)) ++ ((bstr 1 32) ++ (itoaB A.p.of.number))) ++ ((bstr 1 32) ++ (itoaB A.p.owner))) ++ ((bstr 1 32) ++ (itoaB A.p.amount))) ++ (bstr 3 7954976)) ++ ((bstr 1 32) ++ (itoaB A.p.by_.reeve))) ++ ((bstr 1 32) ++ (itoaB A.p.by_.number)))) :: []) (wV 10 (J 0) h33 (wE (⟨tagB .add, [28, .str 3 7954976], 29⟩) (fun _ => q_sadd rfl rfl rfl (size_le rfl (bstr_sz 3 7954976) (by omega))) (wE (⟨tagB .add, [.str 1 32, 30], 31⟩) (fun _ => q_sadd rfl rfl rfl (size_le (bstr_sz 1 32) rfl (by omega))) (wE (⟨tagB .add, [29, 31], 32⟩) (fun _ => q_sadd rfl rfl rfl (size_le rfl rfl (by omega))) (wE (⟨tagB .add, [.str 1 32, 33], 34⟩) (fun _ => q_sadd rfl rfl rfl (size_le (bstr_sz 1 32) rfl (by omega))) (wE (⟨tagB .add, [32, 34], 35⟩) (fun _ => q_sadd rfl rfl rfl (size_le rfl rfl (by omega))) (wC (⟨170, [.tup [9], .tup []], 30⟩) (fun _ => q_cV (h := fun w hw => by exact itoa_n (HS.old hw) _ (show -9223372036854775808 ≤ _ ∧ _ ≤ 9223372036854775807 by omega))) (wC (⟨170, [.tup [10], .tup []], 33⟩) (fun _ => q_cV (h := fun w hw => by exact itoa_n (HS.old hw) _ (show -9223372036854775808 ≤ _ ∧ _ ≤ 9223372036854775807 by omega))) ?_))))))))
       exact wZ 35 [.agg [1, 2, 3, 4, 5, 6, 7, 8, 9, 10, 11]]
     ·have h33 : (((((((((itoaB A.p.reeve) ++ ((bstr 1 32) ++ (itoaB A.p.number))) ++ ((bstr 1 32) ++ (itoaB A.p.tick))) ++ (bstr 4 2036428832)) ++ ((bstr 1 32) ++ (itoaB A.p.of.number))) ++ ((bstr 1 32) ++ (itoaB A.p.owner))) ++ ((bstr 1 32) ++ (itoaB A.p.amount))) ++ (bstr 3 7954976)).size : Int) = (((((((((itoaB A.p.reeve) ++ ((bstr 1 32) ++ (itoaB A.p.number))) ++ ((bstr 1 32) ++ (itoaB A.p.tick))) ++ (bstr 4 2036428832)) ++ ((bstr 1 32) ++ (itoaB A.p.of.number))) ++ ((bstr 1 32) ++ (itoaB A.p.owner))) ++ ((bstr 1 32) ++ (itoaB A.p.amount)))).size : Int) + 3 := size_app rfl (bstr_sz 3 7954976)
      have h34 : ((itoaB A.p.by_.reeve).size : Int) ≤ 9 := itoaB_size (show 0 ≤ A.p.by_.reeve ∧ A.p.by_.reeve ≤ 999999999 by omega)
      have h35 : (((bstr 1 32) ++ (itoaB A.p.by_.reeve)).size : Int) = 1 + ((itoaB A.p.by_.reeve).size : Int) := size_app (bstr_sz 1 32) rfl
      have h36 : ((((((((((itoaB A.p.reeve) ++ ((bstr 1 32) ++ (itoaB A.p.number))) ++ ((bstr 1 32) ++ (itoaB A.p.tick))) ++ (bstr 4 2036428832)) ++ ((bstr 1 32) ++ (itoaB A.p.of.number))) ++ ((bstr 1 32) ++ (itoaB A.p.owner))) ++ ((bstr 1 32) ++ (itoaB A.p.amount))) ++ (bstr 3 7954976)) ++ ((bstr 1 32) ++ (itoaB A.p.by_.reeve))).size : Int) = ((((((((((itoaB A.p.reeve) ++ ((bstr 1 32) ++ (itoaB A.p.number))) ++ ((bstr 1 32) ++ (itoaB A.p.tick))) ++ (bstr 4 2036428832)) ++ ((bstr 1 32) ++ (itoaB A.p.of.number))) ++ ((bstr 1 32) ++ (itoaB A.p.owner))) ++ ((bstr 1 32) ++ (itoaB A.p.amount))) ++ (bstr 3 7954976))).size : Int) + (((bstr 1 32) ++ (itoaB A.p.by_.reeve)).size : Int) := size_app rfl rfl
      have h37 : ((itoaB A.p.by_.number).size : Int) ≤ 9 := itoaB_size (show 0 ≤ A.p.by_.number ∧ A.p.by_.number ≤ 999999999 by omega)
      have h38 : (((bstr 1 32) ++ (itoaB A.p.by_.number)).size : Int) = 1 + ((itoaB A.p.by_.number).size : Int) := size_app (bstr_sz 1 32) rfl
      have h39 : (((((((((((itoaB A.p.reeve) ++ ((bstr 1 32) ++ (itoaB A.p.number))) ++ ((bstr 1 32) ++ (itoaB A.p.tick))) ++ (bstr 4 2036428832)) ++ ((bstr 1 32) ++ (itoaB A.p.of.number))) ++ ((bstr 1 32) ++ (itoaB A.p.owner))) ++ ((bstr 1 32) ++ (itoaB A.p.amount))) ++ (bstr 3 7954976)) ++ ((bstr 1 32) ++ (itoaB A.p.by_.reeve))) ++ ((bstr 1 32) ++ (itoaB A.p.by_.number))).size : Int) = (((((((((((itoaB A.p.reeve) ++ ((bstr 1 32) ++ (itoaB A.p.number))) ++ ((bstr 1 32) ++ (itoaB A.p.tick))) ++ (bstr 4 2036428832)) ++ ((bstr 1 32) ++ (itoaB A.p.of.number))) ++ ((bstr 1 32) ++ (itoaB A.p.owner))) ++ ((bstr 1 32) ++ (itoaB A.p.amount))) ++ (bstr 3 7954976)) ++ ((bstr 1 32) ++ (itoaB A.p.by_.reeve)))).size : Int) + (((bstr 1 32) ++ (itoaB A.p.by_.number)).size : Int) := size_app rfl rfl
      refine wS (.string (((((((((itoaB A.p.reeve) ++ ((bstr 1 32) ++ (itoaB A.p.number))) ++ ((bstr 1 32) ++ (itoaB A.p.tick))) ++ (bstr 4 2036428832)) ++ ((bstr 1 32) ++ (itoaB A.p.of.number))) ++ ((bstr 1 32) ++ (itoaB A.p.owner))) ++ ((bstr 1 32) ++ (itoaB A.p.amount))) ++ (bstr 3 7954976))) :: .string (itoaB A.p.by_.reeve) :: .string ((bstr 1 32) ++ (itoaB A.p.by_.reeve)) :: .string ((((((((((itoaB A.p.reeve) ++ ((bstr 1 32) ++ (itoaB A.p.number))) ++ ((bstr 1 32) ++ (itoaB A.p.tick))) ++ (bstr 4 2036428832)) ++ ((bstr 1 32) ++ (itoaB A.p.of.number))) ++ ((bstr 1 32) ++ (itoaB A.p.owner))) ++ ((bstr 1 32) ++ (itoaB A.p.amount))) ++ (bstr 3 7954976)) ++ ((bstr 1 32) ++ (itoaB A.p.by_.reeve)))) :: .string (itoaB A.p.by_.number) :: .string ((bstr 1 32) ++ (itoaB A.p.by_.number)) :: .string (((((((((((itoaB A.p.reeve) ++ ((bstr 1 32) ++ (itoaB A.p.number))) ++ ((bstr 1 32) ++ (itoaB A.p.tick))) ++ (bstr 4 2036428832)) ++ ((bstr 1 32) ++ (itoaB A.p.of.number))) ++ ((bstr 1 32) ++ (itoaB A.p.owner))) ++ ((bstr 1 32) ++ (itoaB A.p.amount))) ++ (bstr 3 7954976)) ++ ((bstr 1 32) ++ (itoaB A.p.by_.reeve))) ++ ((bstr 1 32) ++ (itoaB A.p.by_.number)))) :: []) (wV 9 (J 0) h32 (wE (⟨tagB .add, [28, .str 3 7954976], 29⟩) (fun _ => q_sadd rfl rfl rfl (size_le rfl (bstr_sz 3 7954976) (by omega))) (wE (⟨tagB .add, [.str 1 32, 30], 31⟩) (fun _ => q_sadd rfl rfl rfl (size_le (bstr_sz 1 32) rfl (by omega))) (wE (⟨tagB .add, [29, 31], 32⟩) (fun _ => q_sadd rfl rfl rfl (size_le rfl rfl (by omega))) (wE (⟨tagB .add, [.str 1 32, 33], 34⟩) (fun _ => q_sadd rfl rfl rfl (size_le (bstr_sz 1 32) rfl (by omega))) (wE (⟨tagB .add, [32, 34], 35⟩) (fun _ => q_sadd rfl rfl rfl (size_le rfl rfl (by omega))) (wC (⟨170, [.tup [9], .tup []], 30⟩) (fun _ => q_cV (h := fun w hw => by exact itoa_n (HS.old hw) _ (show -9223372036854775808 ≤ _ ∧ _ ≤ 9223372036854775807 by omega))) (wC (⟨170, [.tup [10], .tup []], 33⟩) (fun _ => q_cV (h := fun w hw => by exact itoa_n (HS.old hw) _ (show -9223372036854775808 ≤ _ ∧ _ ≤ 9223372036854775807 by omega))) ?_))))))))
      exact wZ 35 [.agg [1, 2, 3, 4, 5, 6, 7, 8, 9, 10, 11]]
theorem pLine_n {p : Po} {w : World} (HS : StrW w) (h : ((0 ≤ p.reeve ∧ p.reeve ≤ 1000000) ∧ (0 ≤ p.number ∧ p.number ≤ 1000000) ∧ (0 ≤ p.tick ∧ p.tick ≤ 1000000) ∧ (0 ≤ p.cse ∧ p.cse ≤ 1000000) ∧ (0 ≤ p.owner ∧ p.owner ≤ 1000000) ∧ (0 ≤ p.of.reeve ∧ p.of.reeve ≤ 1000000) ∧ (0 ≤ p.of.number ∧ p.of.number ≤ 1000000) ∧ (0 ≤ p.by_.reeve ∧ p.by_.reeve ≤ 1000000) ∧ (0 ≤ p.by_.number ∧ p.by_.number ≤ 1000000) ∧ (0 ≤ p.amount ∧ p.amount ≤ 1000000)) ∧ (1 ≤ p.kind ∧ p.kind ≤ 5)) : Calls Tryz.prog 73 #[p.val] w fun e w' => e = .returned (.string (lineN p)) ∧ Chg (fun _ => False) w w' := by
 obtain ⟨⟨h1, h2, h3, h4, h5, h6, h7, h8, h9, h10⟩, h11⟩ := h
 have := pLine_any ⟨p⟩ w HS h1 h2 h3 h4 h5 h6 h7 h8 h9 h10 h11
 have e : pLine_r ⟨p⟩ w = lineN p := by
  unfold pLine_r lineN spB
  simp only [ByteArray.append_assoc]
  repeat' split
  all_goals first | rfl | (exfalso; omega)
 rw [e] at this
 exact this
structure pWrite_A where
 n : Int
 p : Po
def pWrite_r  (A : pWrite_A) (w : World) : ByteArray × Int := (if (checkN A.n A.p) = 0 then ((lineN A.p), 0) else ((bstr 0 0), (checkN A.n A.p)))
theorem pWrite_any  (A : pWrite_A) (w : World) (HS : StrW w) : Calls Tryz.prog 15 #[.int .i64 A.n, A.p.val] w fun e w' => e = .returned (.tuple #[.string ((pWrite_r A w).1), .int .i64 ((pWrite_r A w).2)]) ∧ Chg (fun _ => False) w w' := by
 unfold pWrite_r
 refine wGo (E := E0) (n := 8) (w := w) (L := id) ?_
 have h0 : checkN A.n A.p = 0 → (1 ≤ (A.p).kind ∧ (A.p).kind ≤ 5) ∧ (0 ≤ (A.p).reeve ∧ (A.p).reeve ≤ A.n - 1) ∧ (A.n = 3 ∨ A.n = 5) ∧ 1 ≤ (A.p).amount ∧ (A.p).amount ≤ 1000000 ∧ 1 ≤ (A.p).number ∧ (A.p).number ≤ 300 ∧ (((A.p).kind = 4 ∨ (A.p).kind = 5) → 1 ≤ (A.p).of.number ∧ (A.p).of.number < (A.p).number) := formN2 (n := A.n) (p := A.p)
 have h1 : checkN A.n A.p = 0 → ((0 ≤ (A.p).reeve ∧ (A.p).reeve ≤ 1000000) ∧ (0 ≤ (A.p).number ∧ (A.p).number ≤ 1000000) ∧ (0 ≤ (A.p).tick ∧ (A.p).tick ≤ 1000000) ∧ (0 ≤ (A.p).cse ∧ (A.p).cse ≤ 1000000) ∧ (0 ≤ (A.p).owner ∧ (A.p).owner ≤ 1000000) ∧ (0 ≤ (A.p).of.reeve ∧ (A.p).of.reeve ≤ 1000000) ∧ (0 ≤ (A.p).of.number ∧ (A.p).of.number ≤ 1000000) ∧ (0 ≤ (A.p).by_.reeve ∧ (A.p).by_.reeve ≤ 1000000) ∧ (0 ≤ (A.p).by_.number ∧ (A.p).by_.number ≤ 1000000) ∧ (0 ≤ (A.p).amount ∧ (A.p).amount ≤ 1000000)) ∧ (1 ≤ (A.p).kind ∧ (A.p).kind ≤ 5) := fun h => ⟨(formL (n := A.n) (p := A.p) h).1, (formL (n := A.n) (p := A.p) h).2.1⟩
 refine wS (.agg #[] :: I A.n :: poV A.p ++ I (checkN A.n A.p) :: []) (wC (⟨19, [.tup [1, .agg [2, 3, 4, 5, 6, 7, 8, 9, 10, 11, 12]], .tup []], 13⟩) (fun _ => q_cV (h := fun w hw => by exact pCheck_n _ _ _)) ?_)
 split <;> rename_i h2
 ·have h3 : ((lineN A.p).size : Int) ≤ 100 := lineN_size (show _ ∧ _ by omega)
  refine wS (.string (lineN A.p) :: []) (wF .neq 13 (J 0) (fun h => h h2) (wC (⟨73, [.tup [.agg [2, 3, 4, 5, 6, 7, 8, 9, 10, 11, 12]], .tup []], 14⟩) (fun _ => q_cV (h := fun w hw => by exact pLine_n (HS.old hw) (show ((0 ≤ (A.p).reeve ∧ (A.p).reeve ≤ 1000000) ∧ (0 ≤ (A.p).number ∧ (A.p).number ≤ 1000000) ∧ (0 ≤ (A.p).tick ∧ (A.p).tick ≤ 1000000) ∧ (0 ≤ (A.p).cse ∧ (A.p).cse ≤ 1000000) ∧ (0 ≤ (A.p).owner ∧ (A.p).owner ≤ 1000000) ∧ (0 ≤ (A.p).of.reeve ∧ (A.p).of.reeve ≤ 1000000) ∧ (0 ≤ (A.p).of.number ∧ (A.p).of.number ≤ 1000000) ∧ (0 ≤ (A.p).by_.reeve ∧ (A.p).by_.reeve ≤ 1000000) ∧ (0 ≤ (A.p).by_.number ∧ (A.p).by_.number ≤ 1000000) ∧ (0 ≤ (A.p).amount ∧ (A.p).amount ≤ 1000000)) ∧ (1 ≤ (A.p).kind ∧ (A.p).kind ≤ 5) by omega))) ?_))
  exact wZ (.tup [14, .int .i64 0]) [1, .agg [2, 3, 4, 5, 6, 7, 8, 9, 10, 11, 12]]
 ·refine wT .neq 13 (J 0) h2 ?_
  exact wZ (.tup [.str 0 0, 13]) [1, .agg [2, 3, 4, 5, 6, 7, 8, 9, 10, 11, 12]]
theorem pWrite_n {w : World} (HS : StrW w) (n : Int) (p : Po) : Calls Tryz.prog 15 #[.int .i64 n, p.val] w fun e w' => e = .returned (.tuple #[.string (writeN n p).1, .int .i64 (writeN n p).2]) ∧ Chg (fun _ => False) w w' := by
 have := pWrite_any ⟨n, p⟩ w HS
 exact this
structure pRLine_A where
 p : Po
def pRLine_r  (A : pRLine_A) (w : World) : ByteArray := (if A.p.kind = 1 then (((((itoaB A.p.reeve) ++ ((((bstr 1 32) ++ (itoaB A.p.number)) ++ (bstr 1 32)) ++ (itoaB A.p.tick))) ++ (bstr 5 435644098080)) ++ ((((((bstr 1 32) ++ (itoaB A.p.cse)) ++ (bstr 1 32)) ++ (itoaB A.p.owner)) ++ (bstr 1 32)) ++ (itoaB A.p.amount)))) else (if A.p.kind = 2 then (((((itoaB A.p.reeve) ++ ((((bstr 1 32) ++ (itoaB A.p.number)) ++ (bstr 1 32)) ++ (itoaB A.p.tick))) ++ (bstr 4 1701144096)) ++ ((((((bstr 1 32) ++ (itoaB A.p.cse)) ++ (bstr 1 32)) ++ (itoaB A.p.owner)) ++ (bstr 1 32)) ++ (itoaB A.p.amount)))) else (if A.p.kind = 3 then (((((itoaB A.p.reeve) ++ ((((bstr 1 32) ++ (itoaB A.p.number)) ++ (bstr 1 32)) ++ (itoaB A.p.tick))) ++ (bstr 5 435593245728)) ++ ((((((((bstr 1 32) ++ (itoaB A.p.of.reeve)) ++ (bstr 1 32)) ++ (itoaB A.p.of.number)) ++ (bstr 1 32)) ++ (itoaB A.p.owner)) ++ (bstr 1 32)) ++ (itoaB A.p.amount)))) else (if A.p.kind = 5 then (((((itoaB A.p.reeve) ++ ((((bstr 1 32) ++ (itoaB A.p.number)) ++ (bstr 1 32)) ++ (itoaB A.p.tick))) ++ (bstr 6 111559248541472)) ++ ((((((bstr 1 32) ++ (itoaB A.p.of.number)) ++ (bstr 1 32)) ++ (itoaB A.p.owner)) ++ (bstr 1 32)) ++ (itoaB A.p.amount)))) else (if A.p.by_.reeve = 0 then (if A.p.by_.number = 0 then (((((itoaB A.p.reeve) ++ ((((bstr 1 32) ++ (itoaB A.p.number)) ++ (bstr 1 32)) ++ (itoaB A.p.tick))) ++ (bstr 4 2036428832)) ++ ((((((bstr 1 32) ++ (itoaB A.p.of.number)) ++ (bstr 1 32)) ++ (itoaB A.p.owner)) ++ (bstr 1 32)) ++ (itoaB A.p.amount)))) else (((((((itoaB A.p.reeve) ++ ((((bstr 1 32) ++ (itoaB A.p.number)) ++ (bstr 1 32)) ++ (itoaB A.p.tick))) ++ (bstr 4 2036428832)) ++ ((((((bstr 1 32) ++ (itoaB A.p.of.number)) ++ (bstr 1 32)) ++ (itoaB A.p.owner)) ++ (bstr 1 32)) ++ (itoaB A.p.amount))) ++ (bstr 3 7954976)) ++ ((((bstr 1 32) ++ (itoaB A.p.by_.reeve)) ++ (bstr 1 32)) ++ (itoaB A.p.by_.number))))) else (((((((itoaB A.p.reeve) ++ ((((bstr 1 32) ++ (itoaB A.p.number)) ++ (bstr 1 32)) ++ (itoaB A.p.tick))) ++ (bstr 4 2036428832)) ++ ((((((bstr 1 32) ++ (itoaB A.p.of.number)) ++ (bstr 1 32)) ++ (itoaB A.p.owner)) ++ (bstr 1 32)) ++ (itoaB A.p.amount))) ++ (bstr 3 7954976)) ++ ((((bstr 1 32) ++ (itoaB A.p.by_.reeve)) ++ (bstr 1 32)) ++ (itoaB A.p.by_.number)))))))))
theorem pRLine_any  (A : pRLine_A) (w : World) (h0 : 0 ≤ A.p.reeve ∧ A.p.reeve ≤ 1000000) (h1 : 0 ≤ A.p.number ∧ A.p.number ≤ 1000000) (h2 : 0 ≤ A.p.tick ∧ A.p.tick ≤ 1000000) (h3 : 0 ≤ A.p.cse ∧ A.p.cse ≤ 1000000) (h4 : 0 ≤ A.p.owner ∧ A.p.owner ≤ 1000000) (h5 : 0 ≤ A.p.of.reeve ∧ A.p.of.reeve ≤ 1000000) (h6 : 0 ≤ A.p.of.number ∧ A.p.of.number ≤ 1000000) (h7 : 0 ≤ A.p.by_.reeve ∧ A.p.by_.reeve ≤ 1000000) (h8 : 0 ≤ A.p.by_.number ∧ A.p.by_.number ≤ 1000000) (h9 : 0 ≤ A.p.amount ∧ A.p.amount ≤ 1000000) (h10 : 1 ≤ A.p.kind ∧ A.p.kind ≤ 5) : Calls Tryz.prog 74 #[A.p.val] w fun e w' => e = .returned (.string (pRLine_r A w)) ∧ Chg (fun _ => False) w w' := by
 unfold pRLine_r
 refine wGo (E := E0) (n := 8) (w := w) (L := id) ?_
 have h11 : ((itoaB A.p.reeve).size : Int) ≤ 9 := itoaB_size (show 0 ≤ A.p.reeve ∧ A.p.reeve ≤ 999999999 by omega)
 have h12 : ((itoaB A.p.number).size : Int) ≤ 9 := itoaB_size (show 0 ≤ A.p.number ∧ A.p.number ≤ 999999999 by omega)
 have h13 : (((bstr 1 32) ++ (itoaB A.p.number)).size : Int) = 1 + ((itoaB A.p.number).size : Int) := size_app (bstr_sz 1 32) rfl
 have h14 : ((((bstr 1 32) ++ (itoaB A.p.number)) ++ (bstr 1 32)).size : Int) = (((bstr 1 32) ++ (itoaB A.p.number)).size : Int) + 1 := size_app rfl (bstr_sz 1 32)
 have h15 : ((itoaB A.p.tick).size : Int) ≤ 9 := itoaB_size (show 0 ≤ A.p.tick ∧ A.p.tick ≤ 999999999 by omega)
 have h16 : (((((bstr 1 32) ++ (itoaB A.p.number)) ++ (bstr 1 32)) ++ (itoaB A.p.tick)).size : Int) = (((((bstr 1 32) ++ (itoaB A.p.number)) ++ (bstr 1 32))).size : Int) + ((itoaB A.p.tick).size : Int) := size_app rfl rfl
 have h17 : (((itoaB A.p.reeve) ++ ((((bstr 1 32) ++ (itoaB A.p.number)) ++ (bstr 1 32)) ++ (itoaB A.p.tick))).size : Int) = ((itoaB A.p.reeve).size : Int) + ((((((bstr 1 32) ++ (itoaB A.p.number)) ++ (bstr 1 32)) ++ (itoaB A.p.tick))).size : Int) := size_app rfl rfl
 refine wS (.agg #[] :: poV A.p ++ .string (itoaB A.p.reeve) :: .string (itoaB A.p.number) :: .string ((bstr 1 32) ++ (itoaB A.p.number)) :: .string ((((bstr 1 32) ++ (itoaB A.p.number)) ++ (bstr 1 32))) :: .string (itoaB A.p.tick) :: .string (((((bstr 1 32) ++ (itoaB A.p.number)) ++ (bstr 1 32)) ++ (itoaB A.p.tick))) :: .string (((itoaB A.p.reeve) ++ ((((bstr 1 32) ++ (itoaB A.p.number)) ++ (bstr 1 32)) ++ (itoaB A.p.tick)))) :: []) (wE (⟨tagB .add, [.str 1 32, 13], 14⟩) (fun _ => q_sadd rfl rfl rfl (size_le (bstr_sz 1 32) rfl (by omega))) (wE (⟨tagB .add, [14, .str 1 32], 15⟩) (fun _ => q_sadd rfl rfl rfl (size_le rfl (bstr_sz 1 32) (by omega))) (wE (⟨tagB .add, [15, 16], 17⟩) (fun _ => q_sadd rfl rfl rfl (size_le rfl rfl (by omega))) (wE (⟨tagB .add, [12, 17], 18⟩) (fun _ => q_sadd rfl rfl rfl (size_le rfl rfl (by omega))) (wC (⟨171, [.tup [1], .tup []], 12⟩) (fun _ => q_cV (h := fun w hw => by exact digits_n (show 0 ≤ A.p.reeve ∧ A.p.reeve ≤ 999999999 by omega) _)) (wC (⟨171, [.tup [2], .tup []], 13⟩) (fun _ => q_cV (h := fun w hw => by exact digits_n (show 0 ≤ A.p.number ∧ A.p.number ≤ 999999999 by omega) _)) (wC (⟨171, [.tup [3], .tup []], 16⟩) (fun _ => q_cV (h := fun w hw => by exact digits_n (show 0 ≤ A.p.tick ∧ A.p.tick ≤ 999999999 by omega) _)) ?_)))))))
 split <;> rename_i h18
 ·have h19 : ((((itoaB A.p.reeve) ++ ((((bstr 1 32) ++ (itoaB A.p.number)) ++ (bstr 1 32)) ++ (itoaB A.p.tick))) ++ (bstr 5 435644098080)).size : Int) = ((((itoaB A.p.reeve) ++ ((((bstr 1 32) ++ (itoaB A.p.number)) ++ (bstr 1 32)) ++ (itoaB A.p.tick)))).size : Int) + 5 := size_app rfl (bstr_sz 5 435644098080)
  have h20 : ((itoaB A.p.cse).size : Int) ≤ 9 := itoaB_size (show 0 ≤ A.p.cse ∧ A.p.cse ≤ 999999999 by omega)
  have h21 : (((bstr 1 32) ++ (itoaB A.p.cse)).size : Int) = 1 + ((itoaB A.p.cse).size : Int) := size_app (bstr_sz 1 32) rfl
  have h22 : ((((bstr 1 32) ++ (itoaB A.p.cse)) ++ (bstr 1 32)).size : Int) = (((bstr 1 32) ++ (itoaB A.p.cse)).size : Int) + 1 := size_app rfl (bstr_sz 1 32)
  have h23 : ((itoaB A.p.owner).size : Int) ≤ 9 := itoaB_size (show 0 ≤ A.p.owner ∧ A.p.owner ≤ 999999999 by omega)
  have h24 : (((((bstr 1 32) ++ (itoaB A.p.cse)) ++ (bstr 1 32)) ++ (itoaB A.p.owner)).size : Int) = (((((bstr 1 32) ++ (itoaB A.p.cse)) ++ (bstr 1 32))).size : Int) + ((itoaB A.p.owner).size : Int) := size_app rfl rfl
  have h25 : ((((((bstr 1 32) ++ (itoaB A.p.cse)) ++ (bstr 1 32)) ++ (itoaB A.p.owner)) ++ (bstr 1 32)).size : Int) = ((((((bstr 1 32) ++ (itoaB A.p.cse)) ++ (bstr 1 32)) ++ (itoaB A.p.owner))).size : Int) + 1 := size_app rfl (bstr_sz 1 32)
  have h26 : ((itoaB A.p.amount).size : Int) ≤ 9 := itoaB_size (show 0 ≤ A.p.amount ∧ A.p.amount ≤ 999999999 by omega)
  have h27 : (((((((bstr 1 32) ++ (itoaB A.p.cse)) ++ (bstr 1 32)) ++ (itoaB A.p.owner)) ++ (bstr 1 32)) ++ (itoaB A.p.amount)).size : Int) = (((((((bstr 1 32) ++ (itoaB A.p.cse)) ++ (bstr 1 32)) ++ (itoaB A.p.owner)) ++ (bstr 1 32))).size : Int) + ((itoaB A.p.amount).size : Int) := size_app rfl rfl
  have h28 : (((((itoaB A.p.reeve) ++ ((((bstr 1 32) ++ (itoaB A.p.number)) ++ (bstr 1 32)) ++ (itoaB A.p.tick))) ++ (bstr 5 435644098080)) ++ ((((((bstr 1 32) ++ (itoaB A.p.cse)) ++ (bstr 1 32)) ++ (itoaB A.p.owner)) ++ (bstr 1 32)) ++ (itoaB A.p.amount))).size : Int) = (((((itoaB A.p.reeve) ++ ((((bstr 1 32) ++ (itoaB A.p.number)) ++ (bstr 1 32)) ++ (itoaB A.p.tick))) ++ (bstr 5 435644098080))).size : Int) + ((((((((bstr 1 32) ++ (itoaB A.p.cse)) ++ (bstr 1 32)) ++ (itoaB A.p.owner)) ++ (bstr 1 32)) ++ (itoaB A.p.amount))).size : Int) := size_app rfl rfl
  refine wS (.string ((((itoaB A.p.reeve) ++ ((((bstr 1 32) ++ (itoaB A.p.number)) ++ (bstr 1 32)) ++ (itoaB A.p.tick))) ++ (bstr 5 435644098080))) :: .string (itoaB A.p.cse) :: .string ((bstr 1 32) ++ (itoaB A.p.cse)) :: .string ((((bstr 1 32) ++ (itoaB A.p.cse)) ++ (bstr 1 32))) :: .string (itoaB A.p.owner) :: .string (((((bstr 1 32) ++ (itoaB A.p.cse)) ++ (bstr 1 32)) ++ (itoaB A.p.owner))) :: .string ((((((bstr 1 32) ++ (itoaB A.p.cse)) ++ (bstr 1 32)) ++ (itoaB A.p.owner)) ++ (bstr 1 32))) :: .string (itoaB A.p.amount) :: .string (((((((bstr 1 32) ++ (itoaB A.p.cse)) ++ (bstr 1 32)) ++ (itoaB A.p.owner)) ++ (bstr 1 32)) ++ (itoaB A.p.amount))) :: .string (((((itoaB A.p.reeve) ++ ((((bstr 1 32) ++ (itoaB A.p.number)) ++ (bstr 1 32)) ++ (itoaB A.p.tick))) ++ (bstr 5 435644098080)) ++ ((((((bstr 1 32) ++ (itoaB A.p.cse)) ++ (bstr 1 32)) ++ (itoaB A.p.owner)) ++ (bstr 1 32)) ++ (itoaB A.p.amount)))) :: []) (wT .eql 4 (.int .u8 1) h18 (wE (⟨tagB .add, [18, .str 5 435644098080], 19⟩) (fun _ => q_sadd rfl rfl rfl (size_le rfl (bstr_sz 5 435644098080) (by omega))) (wE (⟨tagB .add, [.str 1 32, 20], 21⟩) (fun _ => q_sadd rfl rfl rfl (size_le (bstr_sz 1 32) rfl (by omega))) (wE (⟨tagB .add, [21, .str 1 32], 22⟩) (fun _ => q_sadd rfl rfl rfl (size_le rfl (bstr_sz 1 32) (by omega))) (wE (⟨tagB .add, [22, 23], 24⟩) (fun _ => q_sadd rfl rfl rfl (size_le rfl rfl (by omega))) (wE (⟨tagB .add, [24, .str 1 32], 25⟩) (fun _ => q_sadd rfl rfl rfl (size_le rfl (bstr_sz 1 32) (by omega))) (wE (⟨tagB .add, [25, 26], 27⟩) (fun _ => q_sadd rfl rfl rfl (size_le rfl rfl (by omega))) (wE (⟨tagB .add, [19, 27], 28⟩) (fun _ => q_sadd rfl rfl rfl (size_le rfl rfl (by omega))) (wC (⟨171, [.tup [5], .tup []], 20⟩) (fun _ => q_cV (h := fun w hw => by exact digits_n (show 0 ≤ A.p.cse ∧ A.p.cse ≤ 999999999 by omega) _)) (wC (⟨171, [.tup [6], .tup []], 23⟩) (fun _ => q_cV (h := fun w hw => by exact digits_n (show 0 ≤ A.p.owner ∧ A.p.owner ≤ 999999999 by omega) _)) (wC (⟨171, [.tup [11], .tup []], 26⟩) (fun _ => q_cV (h := fun w hw => by exact digits_n (show 0 ≤ A.p.amount ∧ A.p.amount ≤ 999999999 by omega) _)) ?_)))))))))))
  exact wZ 28 [.agg [1, 2, 3, 4, 5, 6, 7, 8, 9, 10, 11]]
 ·refine wF .eql 4 (.int .u8 1) h18 ?_
  split <;> rename_i h19
  ·have h20 : ((((itoaB A.p.reeve) ++ ((((bstr 1 32) ++ (itoaB A.p.number)) ++ (bstr 1 32)) ++ (itoaB A.p.tick))) ++ (bstr 4 1701144096)).size : Int) = ((((itoaB A.p.reeve) ++ ((((bstr 1 32) ++ (itoaB A.p.number)) ++ (bstr 1 32)) ++ (itoaB A.p.tick)))).size : Int) + 4 := size_app rfl (bstr_sz 4 1701144096)
   have h21 : ((itoaB A.p.cse).size : Int) ≤ 9 := itoaB_size (show 0 ≤ A.p.cse ∧ A.p.cse ≤ 999999999 by omega)
   have h22 : (((bstr 1 32) ++ (itoaB A.p.cse)).size : Int) = 1 + ((itoaB A.p.cse).size : Int) := size_app (bstr_sz 1 32) rfl
   have h23 : ((((bstr 1 32) ++ (itoaB A.p.cse)) ++ (bstr 1 32)).size : Int) = (((bstr 1 32) ++ (itoaB A.p.cse)).size : Int) + 1 := size_app rfl (bstr_sz 1 32)
   have h24 : ((itoaB A.p.owner).size : Int) ≤ 9 := itoaB_size (show 0 ≤ A.p.owner ∧ A.p.owner ≤ 999999999 by omega)
   have h25 : (((((bstr 1 32) ++ (itoaB A.p.cse)) ++ (bstr 1 32)) ++ (itoaB A.p.owner)).size : Int) = (((((bstr 1 32) ++ (itoaB A.p.cse)) ++ (bstr 1 32))).size : Int) + ((itoaB A.p.owner).size : Int) := size_app rfl rfl
   have h26 : ((((((bstr 1 32) ++ (itoaB A.p.cse)) ++ (bstr 1 32)) ++ (itoaB A.p.owner)) ++ (bstr 1 32)).size : Int) = ((((((bstr 1 32) ++ (itoaB A.p.cse)) ++ (bstr 1 32)) ++ (itoaB A.p.owner))).size : Int) + 1 := size_app rfl (bstr_sz 1 32)
   have h27 : ((itoaB A.p.amount).size : Int) ≤ 9 := itoaB_size (show 0 ≤ A.p.amount ∧ A.p.amount ≤ 999999999 by omega)
   have h28 : (((((((bstr 1 32) ++ (itoaB A.p.cse)) ++ (bstr 1 32)) ++ (itoaB A.p.owner)) ++ (bstr 1 32)) ++ (itoaB A.p.amount)).size : Int) = (((((((bstr 1 32) ++ (itoaB A.p.cse)) ++ (bstr 1 32)) ++ (itoaB A.p.owner)) ++ (bstr 1 32))).size : Int) + ((itoaB A.p.amount).size : Int) := size_app rfl rfl
   have h29 : (((((itoaB A.p.reeve) ++ ((((bstr 1 32) ++ (itoaB A.p.number)) ++ (bstr 1 32)) ++ (itoaB A.p.tick))) ++ (bstr 4 1701144096)) ++ ((((((bstr 1 32) ++ (itoaB A.p.cse)) ++ (bstr 1 32)) ++ (itoaB A.p.owner)) ++ (bstr 1 32)) ++ (itoaB A.p.amount))).size : Int) = (((((itoaB A.p.reeve) ++ ((((bstr 1 32) ++ (itoaB A.p.number)) ++ (bstr 1 32)) ++ (itoaB A.p.tick))) ++ (bstr 4 1701144096))).size : Int) + ((((((((bstr 1 32) ++ (itoaB A.p.cse)) ++ (bstr 1 32)) ++ (itoaB A.p.owner)) ++ (bstr 1 32)) ++ (itoaB A.p.amount))).size : Int) := size_app rfl rfl
   refine wS (.string ((((itoaB A.p.reeve) ++ ((((bstr 1 32) ++ (itoaB A.p.number)) ++ (bstr 1 32)) ++ (itoaB A.p.tick))) ++ (bstr 4 1701144096))) :: .string (itoaB A.p.cse) :: .string ((bstr 1 32) ++ (itoaB A.p.cse)) :: .string ((((bstr 1 32) ++ (itoaB A.p.cse)) ++ (bstr 1 32))) :: .string (itoaB A.p.owner) :: .string (((((bstr 1 32) ++ (itoaB A.p.cse)) ++ (bstr 1 32)) ++ (itoaB A.p.owner))) :: .string ((((((bstr 1 32) ++ (itoaB A.p.cse)) ++ (bstr 1 32)) ++ (itoaB A.p.owner)) ++ (bstr 1 32))) :: .string (itoaB A.p.amount) :: .string (((((((bstr 1 32) ++ (itoaB A.p.cse)) ++ (bstr 1 32)) ++ (itoaB A.p.owner)) ++ (bstr 1 32)) ++ (itoaB A.p.amount))) :: .string (((((itoaB A.p.reeve) ++ ((((bstr 1 32) ++ (itoaB A.p.number)) ++ (bstr 1 32)) ++ (itoaB A.p.tick))) ++ (bstr 4 1701144096)) ++ ((((((bstr 1 32) ++ (itoaB A.p.cse)) ++ (bstr 1 32)) ++ (itoaB A.p.owner)) ++ (bstr 1 32)) ++ (itoaB A.p.amount)))) :: []) (wT .eql 4 (.int .u8 2) h19 (wE (⟨tagB .add, [18, .str 4 1701144096], 19⟩) (fun _ => q_sadd rfl rfl rfl (size_le rfl (bstr_sz 4 1701144096) (by omega))) (wE (⟨tagB .add, [.str 1 32, 20], 21⟩) (fun _ => q_sadd rfl rfl rfl (size_le (bstr_sz 1 32) rfl (by omega))) (wE (⟨tagB .add, [21, .str 1 32], 22⟩) (fun _ => q_sadd rfl rfl rfl (size_le rfl (bstr_sz 1 32) (by omega))) (wE (⟨tagB .add, [22, 23], 24⟩) (fun _ => q_sadd rfl rfl rfl (size_le rfl rfl (by omega))) (wE (⟨tagB .add, [24, .str 1 32], 25⟩) (fun _ => q_sadd rfl rfl rfl (size_le rfl (bstr_sz 1 32) (by omega))) (wE (⟨tagB .add, [25, 26], 27⟩) (fun _ => q_sadd rfl rfl rfl (size_le rfl rfl (by omega))) (wE (⟨tagB .add, [19, 27], 28⟩) (fun _ => q_sadd rfl rfl rfl (size_le rfl rfl (by omega))) (wC (⟨171, [.tup [5], .tup []], 20⟩) (fun _ => q_cV (h := fun w hw => by exact digits_n (show 0 ≤ A.p.cse ∧ A.p.cse ≤ 999999999 by omega) _)) (wC (⟨171, [.tup [6], .tup []], 23⟩) (fun _ => q_cV (h := fun w hw => by exact digits_n (show 0 ≤ A.p.owner ∧ A.p.owner ≤ 999999999 by omega) _)) (wC (⟨171, [.tup [11], .tup []], 26⟩) (fun _ => q_cV (h := fun w hw => by exact digits_n (show 0 ≤ A.p.amount ∧ A.p.amount ≤ 999999999 by omega) _)) ?_)))))))))))
   exact wZ 28 [.agg [1, 2, 3, 4, 5, 6, 7, 8, 9, 10, 11]]
  ·refine wF .eql 4 (.int .u8 2) h19 ?_
   split <;> rename_i h20
   ·have h21 : ((((itoaB A.p.reeve) ++ ((((bstr 1 32) ++ (itoaB A.p.number)) ++ (bstr 1 32)) ++ (itoaB A.p.tick))) ++ (bstr 5 435593245728)).size : Int) = ((((itoaB A.p.reeve) ++ ((((bstr 1 32) ++ (itoaB A.p.number)) ++ (bstr 1 32)) ++ (itoaB A.p.tick)))).size : Int) + 5 := size_app rfl (bstr_sz 5 435593245728)
    have h22 : ((itoaB A.p.of.reeve).size : Int) ≤ 9 := itoaB_size (show 0 ≤ A.p.of.reeve ∧ A.p.of.reeve ≤ 999999999 by omega)
    have h23 : (((bstr 1 32) ++ (itoaB A.p.of.reeve)).size : Int) = 1 + ((itoaB A.p.of.reeve).size : Int) := size_app (bstr_sz 1 32) rfl
    have h24 : ((((bstr 1 32) ++ (itoaB A.p.of.reeve)) ++ (bstr 1 32)).size : Int) = (((bstr 1 32) ++ (itoaB A.p.of.reeve)).size : Int) + 1 := size_app rfl (bstr_sz 1 32)
    have h25 : ((itoaB A.p.of.number).size : Int) ≤ 9 := itoaB_size (show 0 ≤ A.p.of.number ∧ A.p.of.number ≤ 999999999 by omega)
    have h26 : (((((bstr 1 32) ++ (itoaB A.p.of.reeve)) ++ (bstr 1 32)) ++ (itoaB A.p.of.number)).size : Int) = (((((bstr 1 32) ++ (itoaB A.p.of.reeve)) ++ (bstr 1 32))).size : Int) + ((itoaB A.p.of.number).size : Int) := size_app rfl rfl
    have h27 : ((((((bstr 1 32) ++ (itoaB A.p.of.reeve)) ++ (bstr 1 32)) ++ (itoaB A.p.of.number)) ++ (bstr 1 32)).size : Int) = ((((((bstr 1 32) ++ (itoaB A.p.of.reeve)) ++ (bstr 1 32)) ++ (itoaB A.p.of.number))).size : Int) + 1 := size_app rfl (bstr_sz 1 32)
    have h28 : ((itoaB A.p.owner).size : Int) ≤ 9 := itoaB_size (show 0 ≤ A.p.owner ∧ A.p.owner ≤ 999999999 by omega)
    have h29 : (((((((bstr 1 32) ++ (itoaB A.p.of.reeve)) ++ (bstr 1 32)) ++ (itoaB A.p.of.number)) ++ (bstr 1 32)) ++ (itoaB A.p.owner)).size : Int) = (((((((bstr 1 32) ++ (itoaB A.p.of.reeve)) ++ (bstr 1 32)) ++ (itoaB A.p.of.number)) ++ (bstr 1 32))).size : Int) + ((itoaB A.p.owner).size : Int) := size_app rfl rfl
    have h30 : ((((((((bstr 1 32) ++ (itoaB A.p.of.reeve)) ++ (bstr 1 32)) ++ (itoaB A.p.of.number)) ++ (bstr 1 32)) ++ (itoaB A.p.owner)) ++ (bstr 1 32)).size : Int) = ((((((((bstr 1 32) ++ (itoaB A.p.of.reeve)) ++ (bstr 1 32)) ++ (itoaB A.p.of.number)) ++ (bstr 1 32)) ++ (itoaB A.p.owner))).size : Int) + 1 := size_app rfl (bstr_sz 1 32)
    have h31 : ((itoaB A.p.amount).size : Int) ≤ 9 := itoaB_size (show 0 ≤ A.p.amount ∧ A.p.amount ≤ 999999999 by omega)
    have h32 : (((((((((bstr 1 32) ++ (itoaB A.p.of.reeve)) ++ (bstr 1 32)) ++ (itoaB A.p.of.number)) ++ (bstr 1 32)) ++ (itoaB A.p.owner)) ++ (bstr 1 32)) ++ (itoaB A.p.amount)).size : Int) = (((((((((bstr 1 32) ++ (itoaB A.p.of.reeve)) ++ (bstr 1 32)) ++ (itoaB A.p.of.number)) ++ (bstr 1 32)) ++ (itoaB A.p.owner)) ++ (bstr 1 32))).size : Int) + ((itoaB A.p.amount).size : Int) := size_app rfl rfl
    have h33 : (((((itoaB A.p.reeve) ++ ((((bstr 1 32) ++ (itoaB A.p.number)) ++ (bstr 1 32)) ++ (itoaB A.p.tick))) ++ (bstr 5 435593245728)) ++ ((((((((bstr 1 32) ++ (itoaB A.p.of.reeve)) ++ (bstr 1 32)) ++ (itoaB A.p.of.number)) ++ (bstr 1 32)) ++ (itoaB A.p.owner)) ++ (bstr 1 32)) ++ (itoaB A.p.amount))).size : Int) = (((((itoaB A.p.reeve) ++ ((((bstr 1 32) ++ (itoaB A.p.number)) ++ (bstr 1 32)) ++ (itoaB A.p.tick))) ++ (bstr 5 435593245728))).size : Int) + ((((((((((bstr 1 32) ++ (itoaB A.p.of.reeve)) ++ (bstr 1 32)) ++ (itoaB A.p.of.number)) ++ (bstr 1 32)) ++ (itoaB A.p.owner)) ++ (bstr 1 32)) ++ (itoaB A.p.amount))).size : Int) := size_app rfl rfl
    refine wS (.string ((((itoaB A.p.reeve) ++ ((((bstr 1 32) ++ (itoaB A.p.number)) ++ (bstr 1 32)) ++ (itoaB A.p.tick))) ++ (bstr 5 435593245728))) :: .string (itoaB A.p.of.reeve) :: .string ((bstr 1 32) ++ (itoaB A.p.of.reeve)) :: .string ((((bstr 1 32) ++ (itoaB A.p.of.reeve)) ++ (bstr 1 32))) :: .string (itoaB A.p.of.number) :: .string (((((bstr 1 32) ++ (itoaB A.p.of.reeve)) ++ (bstr 1 32)) ++ (itoaB A.p.of.number))) :: .string ((((((bstr 1 32) ++ (itoaB A.p.of.reeve)) ++ (bstr 1 32)) ++ (itoaB A.p.of.number)) ++ (bstr 1 32))) :: .string (itoaB A.p.owner) :: .string (((((((bstr 1 32) ++ (itoaB A.p.of.reeve)) ++ (bstr 1 32)) ++ (itoaB A.p.of.number)) ++ (bstr 1 32)) ++ (itoaB A.p.owner))) :: .string ((((((((bstr 1 32) ++ (itoaB A.p.of.reeve)) ++ (bstr 1 32)) ++ (itoaB A.p.of.number)) ++ (bstr 1 32)) ++ (itoaB A.p.owner)) ++ (bstr 1 32))) :: .string (itoaB A.p.amount) :: .string (((((((((bstr 1 32) ++ (itoaB A.p.of.reeve)) ++ (bstr 1 32)) ++ (itoaB A.p.of.number)) ++ (bstr 1 32)) ++ (itoaB A.p.owner)) ++ (bstr 1 32)) ++ (itoaB A.p.amount))) :: .string (((((itoaB A.p.reeve) ++ ((((bstr 1 32) ++ (itoaB A.p.number)) ++ (bstr 1 32)) ++ (itoaB A.p.tick))) ++ (bstr 5 435593245728)) ++ ((((((((bstr 1 32) ++ (itoaB A.p.of.reeve)) ++ (bstr 1 32)) ++ (itoaB A.p.of.number)) ++ (bstr 1 32)) ++ (itoaB A.p.owner)) ++ (bstr 1 32)) ++ (itoaB A.p.amount)))) :: []) (wT .eql 4 (.int .u8 3) h20 (wE (⟨tagB .add, [18, .str 5 435593245728], 19⟩) (fun _ => q_sadd rfl rfl rfl (size_le rfl (bstr_sz 5 435593245728) (by omega))) (wE (⟨tagB .add, [.str 1 32, 20], 21⟩) (fun _ => q_sadd rfl rfl rfl (size_le (bstr_sz 1 32) rfl (by omega))) (wE (⟨tagB .add, [21, .str 1 32], 22⟩) (fun _ => q_sadd rfl rfl rfl (size_le rfl (bstr_sz 1 32) (by omega))) (wE (⟨tagB .add, [22, 23], 24⟩) (fun _ => q_sadd rfl rfl rfl (size_le rfl rfl (by omega))) (wE (⟨tagB .add, [24, .str 1 32], 25⟩) (fun _ => q_sadd rfl rfl rfl (size_le rfl (bstr_sz 1 32) (by omega))) (wE (⟨tagB .add, [25, 26], 27⟩) (fun _ => q_sadd rfl rfl rfl (size_le rfl rfl (by omega))) (wE (⟨tagB .add, [27, .str 1 32], 28⟩) (fun _ => q_sadd rfl rfl rfl (size_le rfl (bstr_sz 1 32) (by omega))) (wE (⟨tagB .add, [28, 29], 30⟩) (fun _ => q_sadd rfl rfl rfl (size_le rfl rfl (by omega))) (wE (⟨tagB .add, [19, 30], 31⟩) (fun _ => q_sadd rfl rfl rfl (size_le rfl rfl (by omega))) (wC (⟨171, [.tup [7], .tup []], 20⟩) (fun _ => q_cV (h := fun w hw => by exact digits_n (show 0 ≤ A.p.of.reeve ∧ A.p.of.reeve ≤ 999999999 by omega) _)) (wC (⟨171, [.tup [8], .tup []], 23⟩) (fun _ => q_cV (h := fun w hw => by exact digits_n (show 0 ≤ A.p.of.number ∧ A.p.of.number ≤ 999999999 by omega) _)) (wC (⟨171, [.tup [6], .tup []], 26⟩) (fun _ => q_cV (h := fun w hw => by exact digits_n (show 0 ≤ A.p.owner ∧ A.p.owner ≤ 999999999 by omega) _)) (wC (⟨171, [.tup [11], .tup []], 29⟩) (fun _ => q_cV (h := fun w hw => by exact digits_n (show 0 ≤ A.p.amount ∧ A.p.amount ≤ 999999999 by omega) _)) ?_))))))))))))))
    exact wZ 31 [.agg [1, 2, 3, 4, 5, 6, 7, 8, 9, 10, 11]]
   ·refine wF .eql 4 (.int .u8 3) h20 ?_
    split <;> rename_i h21
    ·have h22 : ((((itoaB A.p.reeve) ++ ((((bstr 1 32) ++ (itoaB A.p.number)) ++ (bstr 1 32)) ++ (itoaB A.p.tick))) ++ (bstr 6 111559248541472)).size : Int) = ((((itoaB A.p.reeve) ++ ((((bstr 1 32) ++ (itoaB A.p.number)) ++ (bstr 1 32)) ++ (itoaB A.p.tick)))).size : Int) + 6 := size_app rfl (bstr_sz 6 111559248541472)
     have h23 : ((itoaB A.p.of.number).size : Int) ≤ 9 := itoaB_size (show 0 ≤ A.p.of.number ∧ A.p.of.number ≤ 999999999 by omega)
     have h24 : (((bstr 1 32) ++ (itoaB A.p.of.number)).size : Int) = 1 + ((itoaB A.p.of.number).size : Int) := size_app (bstr_sz 1 32) rfl
     have h25 : ((((bstr 1 32) ++ (itoaB A.p.of.number)) ++ (bstr 1 32)).size : Int) = (((bstr 1 32) ++ (itoaB A.p.of.number)).size : Int) + 1 := size_app rfl (bstr_sz 1 32)
     have h26 : ((itoaB A.p.owner).size : Int) ≤ 9 := itoaB_size (show 0 ≤ A.p.owner ∧ A.p.owner ≤ 999999999 by omega)
     have h27 : (((((bstr 1 32) ++ (itoaB A.p.of.number)) ++ (bstr 1 32)) ++ (itoaB A.p.owner)).size : Int) = (((((bstr 1 32) ++ (itoaB A.p.of.number)) ++ (bstr 1 32))).size : Int) + ((itoaB A.p.owner).size : Int) := size_app rfl rfl
     have h28 : ((((((bstr 1 32) ++ (itoaB A.p.of.number)) ++ (bstr 1 32)) ++ (itoaB A.p.owner)) ++ (bstr 1 32)).size : Int) = ((((((bstr 1 32) ++ (itoaB A.p.of.number)) ++ (bstr 1 32)) ++ (itoaB A.p.owner))).size : Int) + 1 := size_app rfl (bstr_sz 1 32)
     have h29 : ((itoaB A.p.amount).size : Int) ≤ 9 := itoaB_size (show 0 ≤ A.p.amount ∧ A.p.amount ≤ 999999999 by omega)
     have h30 : (((((((bstr 1 32) ++ (itoaB A.p.of.number)) ++ (bstr 1 32)) ++ (itoaB A.p.owner)) ++ (bstr 1 32)) ++ (itoaB A.p.amount)).size : Int) = (((((((bstr 1 32) ++ (itoaB A.p.of.number)) ++ (bstr 1 32)) ++ (itoaB A.p.owner)) ++ (bstr 1 32))).size : Int) + ((itoaB A.p.amount).size : Int) := size_app rfl rfl
     have h31 : (((((itoaB A.p.reeve) ++ ((((bstr 1 32) ++ (itoaB A.p.number)) ++ (bstr 1 32)) ++ (itoaB A.p.tick))) ++ (bstr 6 111559248541472)) ++ ((((((bstr 1 32) ++ (itoaB A.p.of.number)) ++ (bstr 1 32)) ++ (itoaB A.p.owner)) ++ (bstr 1 32)) ++ (itoaB A.p.amount))).size : Int) = (((((itoaB A.p.reeve) ++ ((((bstr 1 32) ++ (itoaB A.p.number)) ++ (bstr 1 32)) ++ (itoaB A.p.tick))) ++ (bstr 6 111559248541472))).size : Int) + ((((((((bstr 1 32) ++ (itoaB A.p.of.number)) ++ (bstr 1 32)) ++ (itoaB A.p.owner)) ++ (bstr 1 32)) ++ (itoaB A.p.amount))).size : Int) := size_app rfl rfl
     refine wS (.string ((((itoaB A.p.reeve) ++ ((((bstr 1 32) ++ (itoaB A.p.number)) ++ (bstr 1 32)) ++ (itoaB A.p.tick))) ++ (bstr 6 111559248541472))) :: .string (itoaB A.p.of.number) :: .string ((bstr 1 32) ++ (itoaB A.p.of.number)) :: .string ((((bstr 1 32) ++ (itoaB A.p.of.number)) ++ (bstr 1 32))) :: .string (itoaB A.p.owner) :: .string (((((bstr 1 32) ++ (itoaB A.p.of.number)) ++ (bstr 1 32)) ++ (itoaB A.p.owner))) :: .string ((((((bstr 1 32) ++ (itoaB A.p.of.number)) ++ (bstr 1 32)) ++ (itoaB A.p.owner)) ++ (bstr 1 32))) :: .string (itoaB A.p.amount) :: .string (((((((bstr 1 32) ++ (itoaB A.p.of.number)) ++ (bstr 1 32)) ++ (itoaB A.p.owner)) ++ (bstr 1 32)) ++ (itoaB A.p.amount))) :: .string (((((itoaB A.p.reeve) ++ ((((bstr 1 32) ++ (itoaB A.p.number)) ++ (bstr 1 32)) ++ (itoaB A.p.tick))) ++ (bstr 6 111559248541472)) ++ ((((((bstr 1 32) ++ (itoaB A.p.of.number)) ++ (bstr 1 32)) ++ (itoaB A.p.owner)) ++ (bstr 1 32)) ++ (itoaB A.p.amount)))) :: []) (wT .eql 4 (.int .u8 5) h21 (wE (⟨tagB .add, [18, .str 6 111559248541472], 19⟩) (fun _ => q_sadd rfl rfl rfl (size_le rfl (bstr_sz 6 111559248541472) (by omega))) (wE (⟨tagB .add, [.str 1 32, 20], 21⟩) (fun _ => q_sadd rfl rfl rfl (size_le (bstr_sz 1 32) rfl (by omega))) (wE (⟨tagB .add, [21, .str 1 32], 22⟩) (fun _ => q_sadd rfl rfl rfl (size_le rfl (bstr_sz 1 32) (by omega))) (wE (⟨tagB .add, [22, 23], 24⟩) (fun _ => q_sadd rfl rfl rfl (size_le rfl rfl (by omega))) (wE (⟨tagB .add, [24, .str 1 32], 25⟩) (fun _ => q_sadd rfl rfl rfl (size_le rfl (bstr_sz 1 32) (by omega))) (wE (⟨tagB .add, [25, 26], 27⟩) (fun _ => q_sadd rfl rfl rfl (size_le rfl rfl (by omega))) (wE (⟨tagB .add, [19, 27], 28⟩) (fun _ => q_sadd rfl rfl rfl (size_le rfl rfl (by omega))) (wC (⟨171, [.tup [8], .tup []], 20⟩) (fun _ => q_cV (h := fun w hw => by exact digits_n (show 0 ≤ A.p.of.number ∧ A.p.of.number ≤ 999999999 by omega) _)) (wC (⟨171, [.tup [6], .tup []], 23⟩) (fun _ => q_cV (h := fun w hw => by exact digits_n (show 0 ≤ A.p.owner ∧ A.p.owner ≤ 999999999 by omega) _)) (wC (⟨171, [.tup [11], .tup []], 26⟩) (fun _ => q_cV (h := fun w hw => by exact digits_n (show 0 ≤ A.p.amount ∧ A.p.amount ≤ 999999999 by omega) _)) ?_)))))))))))
     exact wZ 28 [.agg [1, 2, 3, 4, 5, 6, 7, 8, 9, 10, 11]]
    ·have h22 : ((((itoaB A.p.reeve) ++ ((((bstr 1 32) ++ (itoaB A.p.number)) ++ (bstr 1 32)) ++ (itoaB A.p.tick))) ++ (bstr 4 2036428832)).size : Int) = ((((itoaB A.p.reeve) ++ ((((bstr 1 32) ++ (itoaB A.p.number)) ++ (bstr 1 32)) ++ (itoaB A.p.tick)))).size : Int) + 4 := size_app rfl (bstr_sz 4 2036428832)
     have h23 : ((itoaB A.p.of.number).size : Int) ≤ 9 := itoaB_size (show 0 ≤ A.p.of.number ∧ A.p.of.number ≤ 999999999 by omega)
     have h24 : (((bstr 1 32) ++ (itoaB A.p.of.number)).size : Int) = 1 + ((itoaB A.p.of.number).size : Int) := size_app (bstr_sz 1 32) rfl
     have h25 : ((((bstr 1 32) ++ (itoaB A.p.of.number)) ++ (bstr 1 32)).size : Int) = (((bstr 1 32) ++ (itoaB A.p.of.number)).size : Int) + 1 := size_app rfl (bstr_sz 1 32)
     have h26 : ((itoaB A.p.owner).size : Int) ≤ 9 := itoaB_size (show 0 ≤ A.p.owner ∧ A.p.owner ≤ 999999999 by omega)
     have h27 : (((((bstr 1 32) ++ (itoaB A.p.of.number)) ++ (bstr 1 32)) ++ (itoaB A.p.owner)).size : Int) = (((((bstr 1 32) ++ (itoaB A.p.of.number)) ++ (bstr 1 32))).size : Int) + ((itoaB A.p.owner).size : Int) := size_app rfl rfl
     have h28 : ((((((bstr 1 32) ++ (itoaB A.p.of.number)) ++ (bstr 1 32)) ++ (itoaB A.p.owner)) ++ (bstr 1 32)).size : Int) = ((((((bstr 1 32) ++ (itoaB A.p.of.number)) ++ (bstr 1 32)) ++ (itoaB A.p.owner))).size : Int) + 1 := size_app rfl (bstr_sz 1 32)
     have h29 : ((itoaB A.p.amount).size : Int) ≤ 9 := itoaB_size (show 0 ≤ A.p.amount ∧ A.p.amount ≤ 999999999 by omega)
     have h30 : (((((((bstr 1 32) ++ (itoaB A.p.of.number)) ++ (bstr 1 32)) ++ (itoaB A.p.owner)) ++ (bstr 1 32)) ++ (itoaB A.p.amount)).size : Int) = (((((((bstr 1 32) ++ (itoaB A.p.of.number)) ++ (bstr 1 32)) ++ (itoaB A.p.owner)) ++ (bstr 1 32))).size : Int) + ((itoaB A.p.amount).size : Int) := size_app rfl rfl
     have h31 : (((((itoaB A.p.reeve) ++ ((((bstr 1 32) ++ (itoaB A.p.number)) ++ (bstr 1 32)) ++ (itoaB A.p.tick))) ++ (bstr 4 2036428832)) ++ ((((((bstr 1 32) ++ (itoaB A.p.of.number)) ++ (bstr 1 32)) ++ (itoaB A.p.owner)) ++ (bstr 1 32)) ++ (itoaB A.p.amount))).size : Int) = (((((itoaB A.p.reeve) ++ ((((bstr 1 32) ++ (itoaB A.p.number)) ++ (bstr 1 32)) ++ (itoaB A.p.tick))) ++ (bstr 4 2036428832))).size : Int) + ((((((((bstr 1 32) ++ (itoaB A.p.of.number)) ++ (bstr 1 32)) ++ (itoaB A.p.owner)) ++ (bstr 1 32)) ++ (itoaB A.p.amount))).size : Int) := size_app rfl rfl
     refine wS (.string ((((itoaB A.p.reeve) ++ ((((bstr 1 32) ++ (itoaB A.p.number)) ++ (bstr 1 32)) ++ (itoaB A.p.tick))) ++ (bstr 4 2036428832))) :: .string (itoaB A.p.of.number) :: .string ((bstr 1 32) ++ (itoaB A.p.of.number)) :: .string ((((bstr 1 32) ++ (itoaB A.p.of.number)) ++ (bstr 1 32))) :: .string (itoaB A.p.owner) :: .string (((((bstr 1 32) ++ (itoaB A.p.of.number)) ++ (bstr 1 32)) ++ (itoaB A.p.owner))) :: .string ((((((bstr 1 32) ++ (itoaB A.p.of.number)) ++ (bstr 1 32)) ++ (itoaB A.p.owner)) ++ (bstr 1 32))) :: .string (itoaB A.p.amount) :: .string (((((((bstr 1 32) ++ (itoaB A.p.of.number)) ++ (bstr 1 32)) ++ (itoaB A.p.owner)) ++ (bstr 1 32)) ++ (itoaB A.p.amount))) :: .string (((((itoaB A.p.reeve) ++ ((((bstr 1 32) ++ (itoaB A.p.number)) ++ (bstr 1 32)) ++ (itoaB A.p.tick))) ++ (bstr 4 2036428832)) ++ ((((((bstr 1 32) ++ (itoaB A.p.of.number)) ++ (bstr 1 32)) ++ (itoaB A.p.owner)) ++ (bstr 1 32)) ++ (itoaB A.p.amount)))) :: []) (wF .eql 4 (.int .u8 5) h21 (wE (⟨tagB .add, [18, .str 4 2036428832], 19⟩) (fun _ => q_sadd rfl rfl rfl (size_le rfl (bstr_sz 4 2036428832) (by omega))) (wE (⟨tagB .add, [.str 1 32, 20], 21⟩) (fun _ => q_sadd rfl rfl rfl (size_le (bstr_sz 1 32) rfl (by omega))) (wE (⟨tagB .add, [21, .str 1 32], 22⟩) (fun _ => q_sadd rfl rfl rfl (size_le rfl (bstr_sz 1 32) (by omega))) (wE (⟨tagB .add, [22, 23], 24⟩) (fun _ => q_sadd rfl rfl rfl (size_le rfl rfl (by omega))) (wE (⟨tagB .add, [24, .str 1 32], 25⟩) (fun _ => q_sadd rfl rfl rfl (size_le rfl (bstr_sz 1 32) (by omega))) (wE (⟨tagB .add, [25, 26], 27⟩) (fun _ => q_sadd rfl rfl rfl (size_le rfl rfl (by omega))) (wE (⟨tagB .add, [19, 27], 28⟩) (fun _ => q_sadd rfl rfl rfl (size_le rfl rfl (by omega))) (wC (⟨171, [.tup [8], .tup []], 20⟩) (fun _ => q_cV (h := fun w hw => by exact digits_n (show 0 ≤ A.p.of.number ∧ A.p.of.number ≤ 999999999 by omega) _)) (wC (⟨171, [.tup [6], .tup []], 23⟩) (fun _ => q_cV (h := fun w hw => by exact digits_n (show 0 ≤ A.p.owner ∧ A.p.owner ≤ 999999999 by omega) _)) (wC (⟨171, [.tup [11], .tup []], 26⟩) (fun _ => q_cV (h := fun w hw => by exact digits_n (show 0 ≤ A.p.amount ∧ A.p.amount ≤ 999999999 by omega) _)) ?_)))))))))))
     split <;> rename_i h32
     ·refine wU 9 (J 0) h32 ?_
      split <;> rename_i h33
      ·refine wU 10 (J 0) h33 ?_
       exact wZ 28 [.agg [1, 2, 3, 4, 5, 6, 7, 8, 9, 10, 11]]
      ·have h34 : ((((((itoaB A.p.reeve) ++ ((((bstr 1 32) ++ (itoaB A.p.number)) ++ (bstr 1 32)) ++ (itoaB A.p.tick))) ++ (bstr 4 2036428832)) ++ ((((((bstr 1 32) ++ (itoaB A.p.of.number)) ++ (bstr 1 32)) ++ (itoaB A.p.owner)) ++ (bstr 1 32)) ++ (itoaB A.p.amount))) ++ (bstr 3 7954976)).size : Int) = ((((((itoaB A.p.reeve) ++ ((((bstr 1 32) ++ (itoaB A.p.number)) ++ (bstr 1 32)) ++ (itoaB A.p.tick))) ++ (bstr 4 2036428832)) ++ ((((((bstr 1 32) ++ (itoaB A.p.of.number)) ++ (bstr 1 32)) ++ (itoaB A.p.owner)) ++ (bstr 1 32)) ++ (itoaB A.p.amount)))).size : Int) + 3 := size_app rfl (bstr_sz 3 7954976)
       have h35 : ((itoaB A.p.by_.reeve).size : Int) ≤ 9 := itoaB_size (show 0 ≤ A.p.by_.reeve ∧ A.p.by_.reeve ≤ 999999999 by omega)
       have h36 : (((bstr 1 32) ++ (itoaB A.p.by_.reeve)).size : Int) = 1 + ((itoaB A.p.by_.reeve).size : Int) := size_app (bstr_sz 1 32) rfl
       have h37 : ((((bstr 1 32) ++ (itoaB A.p.by_.reeve)) ++ (bstr 1 32)).size : Int) = (((bstr 1 32) ++ (itoaB A.p.by_.reeve)).size : Int) + 1 := size_app rfl (bstr_sz 1 32)
       have h38 : ((itoaB A.p.by_.number).size : Int) ≤ 9 := itoaB_size (show 0 ≤ A.p.by_.number ∧ A.p.by_.number ≤ 999999999 by omega)
       have h39 : (((((bstr 1 32) ++ (itoaB A.p.by_.reeve)) ++ (bstr 1 32)) ++ (itoaB A.p.by_.number)).size : Int) = (((((bstr 1 32) ++ (itoaB A.p.by_.reeve)) ++ (bstr 1 32))).size : Int) + ((itoaB A.p.by_.number).size : Int) := size_app rfl rfl
       have h40 : (((((((itoaB A.p.reeve) ++ ((((bstr 1 32) ++ (itoaB A.p.number)) ++ (bstr 1 32)) ++ (itoaB A.p.tick))) ++ (bstr 4 2036428832)) ++ ((((((bstr 1 32) ++ (itoaB A.p.of.number)) ++ (bstr 1 32)) ++ (itoaB A.p.owner)) ++ (bstr 1 32)) ++ (itoaB A.p.amount))) ++ (bstr 3 7954976)) ++ ((((bstr 1 32) ++ (itoaB A.p.by_.reeve)) ++ (bstr 1 32)) ++ (itoaB A.p.by_.number))).size : Int) = (((((((itoaB A.p.reeve) ++ ((((bstr 1 32) ++ (itoaB A.p.number)) ++ (bstr 1 32)) ++ (itoaB A.p.tick))) ++ (bstr 4 2036428832)) ++ ((((((bstr 1 32) ++ (itoaB A.p.of.number)) ++ (bstr 1 32)) ++ (itoaB A.p.owner)) ++ (bstr 1 32)) ++ (itoaB A.p.amount))) ++ (bstr 3 7954976))).size : Int) + ((((((bstr 1 32) ++ (itoaB A.p.by_.reeve)) ++ (bstr 1 32)) ++ (itoaB A.p.by_.number))).size : Int) := size_app rfl rfl
       refine wS (.string ((((((itoaB A.p.reeve) ++ ((((bstr 1 32) ++ (itoaB A.p.number)) ++ (bstr 1 32)) ++ (itoaB A.p.tick))) ++ (bstr 4 2036428832)) ++ ((((((bstr 1 32) ++ (itoaB A.p.of.number)) ++ (bstr 1 32)) ++ (itoaB A.p.owner)) ++ (bstr 1 32)) ++ (itoaB A.p.amount))) ++ (bstr 3 7954976))) :: .string (itoaB A.p.by_.reeve) :: .string ((bstr 1 32) ++ (itoaB A.p.by_.reeve)) :: .string ((((bstr 1 32) ++ (itoaB A.p.by_.reeve)) ++ (bstr 1 32))) :: .string (itoaB A.p.by_.number) :: .string (((((bstr 1 32) ++ (itoaB A.p.by_.reeve)) ++ (bstr 1 32)) ++ (itoaB A.p.by_.number))) :: .string (((((((itoaB A.p.reeve) ++ ((((bstr 1 32) ++ (itoaB A.p.number)) ++ (bstr 1 32)) ++ (itoaB A.p.tick))) ++ (bstr 4 2036428832)) ++ ((((((bstr 1 32) ++ (itoaB A.p.of.number)) ++ (bstr 1 32)) ++ (itoaB A.p.owner)) ++ (bstr 1 32)) ++ (itoaB A.p.amount))) ++ (bstr 3 7954976)) ++ ((((bstr 1 32) ++ (itoaB A.p.by_.reeve)) ++ (bstr 1 32)) ++ (itoaB A.p.by_.number)))) :: []) (wV 10 (J 0) h33 (wE (⟨tagB .add, [28, .str 3 7954976], 29⟩) (fun _ => q_sadd rfl rfl rfl (size_le rfl (bstr_sz 3 7954976) (by omega))) (wE (⟨tagB .add, [.str 1 32, 30], 31⟩) (fun _ => q_sadd rfl rfl rfl (size_le (bstr_sz 1 32) rfl (by omega))) (wE (⟨tagB .add, [31, .str 1 32], 32⟩) (fun _ => q_sadd rfl rfl rfl (size_le rfl (bstr_sz 1 32) (by omega))) (wE (⟨tagB .add, [32, 33], 34⟩) (fun _ => q_sadd rfl rfl rfl (size_le rfl rfl (by omega))) (wE (⟨tagB .add, [29, 34], 35⟩) (fun _ => q_sadd rfl rfl rfl (size_le rfl rfl (by omega))) (wC (⟨171, [.tup [9], .tup []], 30⟩) (fun _ => q_cV (h := fun w hw => by exact digits_n (show 0 ≤ A.p.by_.reeve ∧ A.p.by_.reeve ≤ 999999999 by omega) _)) (wC (⟨171, [.tup [10], .tup []], 33⟩) (fun _ => q_cV (h := fun w hw => by exact digits_n (show 0 ≤ A.p.by_.number ∧ A.p.by_.number ≤ 999999999 by omega) _)) ?_))))))))
       exact wZ 35 [.agg [1, 2, 3, 4, 5, 6, 7, 8, 9, 10, 11]]
     ·have h33 : ((((((itoaB A.p.reeve) ++ ((((bstr 1 32) ++ (itoaB A.p.number)) ++ (bstr 1 32)) ++ (itoaB A.p.tick))) ++ (bstr 4 2036428832)) ++ ((((((bstr 1 32) ++ (itoaB A.p.of.number)) ++ (bstr 1 32)) ++ (itoaB A.p.owner)) ++ (bstr 1 32)) ++ (itoaB A.p.amount))) ++ (bstr 3 7954976)).size : Int) = ((((((itoaB A.p.reeve) ++ ((((bstr 1 32) ++ (itoaB A.p.number)) ++ (bstr 1 32)) ++ (itoaB A.p.tick))) ++ (bstr 4 2036428832)) ++ ((((((bstr 1 32) ++ (itoaB A.p.of.number)) ++ (bstr 1 32)) ++ (itoaB A.p.owner)) ++ (bstr 1 32)) ++ (itoaB A.p.amount)))).size : Int) + 3 := size_app rfl (bstr_sz 3 7954976)
      have h34 : ((itoaB A.p.by_.reeve).size : Int) ≤ 9 := itoaB_size (show 0 ≤ A.p.by_.reeve ∧ A.p.by_.reeve ≤ 999999999 by omega)
      have h35 : (((bstr 1 32) ++ (itoaB A.p.by_.reeve)).size : Int) = 1 + ((itoaB A.p.by_.reeve).size : Int) := size_app (bstr_sz 1 32) rfl
      have h36 : ((((bstr 1 32) ++ (itoaB A.p.by_.reeve)) ++ (bstr 1 32)).size : Int) = (((bstr 1 32) ++ (itoaB A.p.by_.reeve)).size : Int) + 1 := size_app rfl (bstr_sz 1 32)
      have h37 : ((itoaB A.p.by_.number).size : Int) ≤ 9 := itoaB_size (show 0 ≤ A.p.by_.number ∧ A.p.by_.number ≤ 999999999 by omega)
      have h38 : (((((bstr 1 32) ++ (itoaB A.p.by_.reeve)) ++ (bstr 1 32)) ++ (itoaB A.p.by_.number)).size : Int) = (((((bstr 1 32) ++ (itoaB A.p.by_.reeve)) ++ (bstr 1 32))).size : Int) + ((itoaB A.p.by_.number).size : Int) := size_app rfl rfl
      have h39 : (((((((itoaB A.p.reeve) ++ ((((bstr 1 32) ++ (itoaB A.p.number)) ++ (bstr 1 32)) ++ (itoaB A.p.tick))) ++ (bstr 4 2036428832)) ++ ((((((bstr 1 32) ++ (itoaB A.p.of.number)) ++ (bstr 1 32)) ++ (itoaB A.p.owner)) ++ (bstr 1 32)) ++ (itoaB A.p.amount))) ++ (bstr 3 7954976)) ++ ((((bstr 1 32) ++ (itoaB A.p.by_.reeve)) ++ (bstr 1 32)) ++ (itoaB A.p.by_.number))).size : Int) = (((((((itoaB A.p.reeve) ++ ((((bstr 1 32) ++ (itoaB A.p.number)) ++ (bstr 1 32)) ++ (itoaB A.p.tick))) ++ (bstr 4 2036428832)) ++ ((((((bstr 1 32) ++ (itoaB A.p.of.number)) ++ (bstr 1 32)) ++ (itoaB A.p.owner)) ++ (bstr 1 32)) ++ (itoaB A.p.amount))) ++ (bstr 3 7954976))).size : Int) + ((((((bstr 1 32) ++ (itoaB A.p.by_.reeve)) ++ (bstr 1 32)) ++ (itoaB A.p.by_.number))).size : Int) := size_app rfl rfl
      refine wS (.string ((((((itoaB A.p.reeve) ++ ((((bstr 1 32) ++ (itoaB A.p.number)) ++ (bstr 1 32)) ++ (itoaB A.p.tick))) ++ (bstr 4 2036428832)) ++ ((((((bstr 1 32) ++ (itoaB A.p.of.number)) ++ (bstr 1 32)) ++ (itoaB A.p.owner)) ++ (bstr 1 32)) ++ (itoaB A.p.amount))) ++ (bstr 3 7954976))) :: .string (itoaB A.p.by_.reeve) :: .string ((bstr 1 32) ++ (itoaB A.p.by_.reeve)) :: .string ((((bstr 1 32) ++ (itoaB A.p.by_.reeve)) ++ (bstr 1 32))) :: .string (itoaB A.p.by_.number) :: .string (((((bstr 1 32) ++ (itoaB A.p.by_.reeve)) ++ (bstr 1 32)) ++ (itoaB A.p.by_.number))) :: .string (((((((itoaB A.p.reeve) ++ ((((bstr 1 32) ++ (itoaB A.p.number)) ++ (bstr 1 32)) ++ (itoaB A.p.tick))) ++ (bstr 4 2036428832)) ++ ((((((bstr 1 32) ++ (itoaB A.p.of.number)) ++ (bstr 1 32)) ++ (itoaB A.p.owner)) ++ (bstr 1 32)) ++ (itoaB A.p.amount))) ++ (bstr 3 7954976)) ++ ((((bstr 1 32) ++ (itoaB A.p.by_.reeve)) ++ (bstr 1 32)) ++ (itoaB A.p.by_.number)))) :: []) (wV 9 (J 0) h32 (wE (⟨tagB .add, [28, .str 3 7954976], 29⟩) (fun _ => q_sadd rfl rfl rfl (size_le rfl (bstr_sz 3 7954976) (by omega))) (wE (⟨tagB .add, [.str 1 32, 30], 31⟩) (fun _ => q_sadd rfl rfl rfl (size_le (bstr_sz 1 32) rfl (by omega))) (wE (⟨tagB .add, [31, .str 1 32], 32⟩) (fun _ => q_sadd rfl rfl rfl (size_le rfl (bstr_sz 1 32) (by omega))) (wE (⟨tagB .add, [32, 33], 34⟩) (fun _ => q_sadd rfl rfl rfl (size_le rfl rfl (by omega))) (wE (⟨tagB .add, [29, 34], 35⟩) (fun _ => q_sadd rfl rfl rfl (size_le rfl rfl (by omega))) (wC (⟨171, [.tup [9], .tup []], 30⟩) (fun _ => q_cV (h := fun w hw => by exact digits_n (show 0 ≤ A.p.by_.reeve ∧ A.p.by_.reeve ≤ 999999999 by omega) _)) (wC (⟨171, [.tup [10], .tup []], 33⟩) (fun _ => q_cV (h := fun w hw => by exact digits_n (show 0 ≤ A.p.by_.number ∧ A.p.by_.number ≤ 999999999 by omega) _)) ?_))))))))
      exact wZ 35 [.agg [1, 2, 3, 4, 5, 6, 7, 8, 9, 10, 11]]
theorem pRLine_n {p : Po} {w : World} (w_ : Unit) (h : ((0 ≤ p.reeve ∧ p.reeve ≤ 1000000) ∧ (0 ≤ p.number ∧ p.number ≤ 1000000) ∧ (0 ≤ p.tick ∧ p.tick ≤ 1000000) ∧ (0 ≤ p.cse ∧ p.cse ≤ 1000000) ∧ (0 ≤ p.owner ∧ p.owner ≤ 1000000) ∧ (0 ≤ p.of.reeve ∧ p.of.reeve ≤ 1000000) ∧ (0 ≤ p.of.number ∧ p.of.number ≤ 1000000) ∧ (0 ≤ p.by_.reeve ∧ p.by_.reeve ≤ 1000000) ∧ (0 ≤ p.by_.number ∧ p.by_.number ≤ 1000000) ∧ (0 ≤ p.amount ∧ p.amount ≤ 1000000)) ∧ (1 ≤ p.kind ∧ p.kind ≤ 5)) : Calls Tryz.prog 74 #[p.val] w fun e w' => e = .returned (.string (lineN p)) ∧ Chg (fun _ => False) w w' := by
 obtain ⟨⟨h1, h2, h3, h4, h5, h6, h7, h8, h9, h10⟩, h11⟩ := h
 have := pRLine_any ⟨p⟩ w h1 h2 h3 h4 h5 h6 h7 h8 h9 h10 h11
 have e : pRLine_r ⟨p⟩ w = lineN p := by
  unfold pRLine_r lineN spB
  simp only [ByteArray.append_assoc]
  repeat' split
  all_goals first | rfl | (exfalso; omega)
 rw [e] at this
 exact this
structure pRWrite_A where
 n : Int
 p : Po
def pRWrite_r  (A : pRWrite_A) (w : World) : ByteArray × Int := (if (checkN A.n A.p) = 0 then ((lineN A.p), 0) else ((bstr 0 0), (checkN A.n A.p)))
theorem pRWrite_any  (A : pRWrite_A) (w : World) : Calls Tryz.prog 16 #[.int .i64 A.n, A.p.val] w fun e w' => e = .returned (.tuple #[.string ((pRWrite_r A w).1), .int .i64 ((pRWrite_r A w).2)]) ∧ Chg (fun _ => False) w w' := by
 unfold pRWrite_r
 refine wGo (E := E0) (n := 8) (w := w) (L := id) ?_
 have h0 : checkN A.n A.p = 0 → (1 ≤ (A.p).kind ∧ (A.p).kind ≤ 5) ∧ (0 ≤ (A.p).reeve ∧ (A.p).reeve ≤ A.n - 1) ∧ (A.n = 3 ∨ A.n = 5) ∧ 1 ≤ (A.p).amount ∧ (A.p).amount ≤ 1000000 ∧ 1 ≤ (A.p).number ∧ (A.p).number ≤ 300 ∧ (((A.p).kind = 4 ∨ (A.p).kind = 5) → 1 ≤ (A.p).of.number ∧ (A.p).of.number < (A.p).number) := formN2 (n := A.n) (p := A.p)
 have h1 : checkN A.n A.p = 0 → ((0 ≤ (A.p).reeve ∧ (A.p).reeve ≤ 1000000) ∧ (0 ≤ (A.p).number ∧ (A.p).number ≤ 1000000) ∧ (0 ≤ (A.p).tick ∧ (A.p).tick ≤ 1000000) ∧ (0 ≤ (A.p).cse ∧ (A.p).cse ≤ 1000000) ∧ (0 ≤ (A.p).owner ∧ (A.p).owner ≤ 1000000) ∧ (0 ≤ (A.p).of.reeve ∧ (A.p).of.reeve ≤ 1000000) ∧ (0 ≤ (A.p).of.number ∧ (A.p).of.number ≤ 1000000) ∧ (0 ≤ (A.p).by_.reeve ∧ (A.p).by_.reeve ≤ 1000000) ∧ (0 ≤ (A.p).by_.number ∧ (A.p).by_.number ≤ 1000000) ∧ (0 ≤ (A.p).amount ∧ (A.p).amount ≤ 1000000)) ∧ (1 ≤ (A.p).kind ∧ (A.p).kind ≤ 5) := fun h => ⟨(formL (n := A.n) (p := A.p) h).1, (formL (n := A.n) (p := A.p) h).2.1⟩
 refine wS (.agg #[] :: I A.n :: poV A.p ++ I (checkN A.n A.p) :: []) (wC (⟨20, [.tup [1, .agg [2, 3, 4, 5, 6, 7, 8, 9, 10, 11, 12]], .tup []], 13⟩) (fun _ => q_cV (h := fun w hw => by exact rCheck_n _ _ _)) ?_)
 split <;> rename_i h2
 ·have h3 : ((lineN A.p).size : Int) ≤ 100 := lineN_size (show _ ∧ _ by omega)
  refine wS (.string (lineN A.p) :: []) (wF .neq 13 (J 0) (fun h => h h2) (wC (⟨74, [.tup [.agg [2, 3, 4, 5, 6, 7, 8, 9, 10, 11, 12]], .tup []], 14⟩) (fun _ => q_cV (h := fun w hw => by exact pRLine_n () (show ((0 ≤ (A.p).reeve ∧ (A.p).reeve ≤ 1000000) ∧ (0 ≤ (A.p).number ∧ (A.p).number ≤ 1000000) ∧ (0 ≤ (A.p).tick ∧ (A.p).tick ≤ 1000000) ∧ (0 ≤ (A.p).cse ∧ (A.p).cse ≤ 1000000) ∧ (0 ≤ (A.p).owner ∧ (A.p).owner ≤ 1000000) ∧ (0 ≤ (A.p).of.reeve ∧ (A.p).of.reeve ≤ 1000000) ∧ (0 ≤ (A.p).of.number ∧ (A.p).of.number ≤ 1000000) ∧ (0 ≤ (A.p).by_.reeve ∧ (A.p).by_.reeve ≤ 1000000) ∧ (0 ≤ (A.p).by_.number ∧ (A.p).by_.number ≤ 1000000) ∧ (0 ≤ (A.p).amount ∧ (A.p).amount ≤ 1000000)) ∧ (1 ≤ (A.p).kind ∧ (A.p).kind ≤ 5) by omega))) ?_))
  exact wZ (.tup [14, .int .i64 0]) [1, .agg [2, 3, 4, 5, 6, 7, 8, 9, 10, 11, 12]]
 ·refine wT .neq 13 (J 0) h2 ?_
  exact wZ (.tup [.str 0 0, 13]) [1, .agg [2, 3, 4, 5, 6, 7, 8, 9, 10, 11, 12]]
theorem pRWrite_n (n : Int) (p : Po) (w : World) : Calls Tryz.prog 16 #[.int .i64 n, p.val] w fun e w' => e = .returned (.tuple #[.string (writeN n p).1, .int .i64 (writeN n p).2]) ∧ Chg (fun _ => False) w w' := by
 have := pRWrite_any ⟨n, p⟩ w
 exact this
end Go.Proofs.YtocabeobfbhajaaGreatDoor.Sx
end
section
namespace Go.Proofs.YtocabeobfbhajaaGreatDoor.Sx
open Go Go.Proofs Go.Proofs.YtocabeobfbhajaaGreatDoor
variable {n a b c k d e f g h i j : Int}
theorem pLine_c {w : World} (HS : StrW w) (hh : ((0 ≤ a ∧ a ≤ 1000000) ∧ (0 ≤ b ∧ b ≤ 1000000) ∧ (0 ≤ c ∧ c ≤ 1000000) ∧ (0 ≤ d ∧ d ≤ 1000000) ∧ (0 ≤ e ∧ e ≤ 1000000) ∧ (0 ≤ f ∧ f ≤ 1000000) ∧ (0 ≤ g ∧ g ≤ 1000000) ∧ (0 ≤ h ∧ h ≤ 1000000) ∧ (0 ≤ i ∧ i ≤ 1000000) ∧ (0 ≤ j ∧ j ≤ 1000000)) ∧ (1 ≤ k ∧ k ≤ 5)) : Calls Tryz.prog 73 #[.agg #[.int .i64 a, .int .i64 b, .int .i64 c, .int .u8 k, .int .i64 d, .int .i64 e, .int .i64 f, .int .i64 g, .int .i64 h, .int .i64 i, .int .i64 j]] w fun e' w' => e' = .returned (.string (lineN (⟨a, b, c, k, d, e, ⟨f, g⟩, ⟨h, i⟩, j⟩ : Po))) ∧ Chg (fun _ => False) w w' := pLine_n (p := (⟨a, b, c, k, d, e, ⟨f, g⟩, ⟨h, i⟩, j⟩ : Po)) HS hh
theorem pFormed_c (n : Int) (w : World) : Calls Tryz.prog 81 #[.int .i64 n, .agg #[.int .i64 a, .int .i64 b, .int .i64 c, .int .u8 k, .int .i64 d, .int .i64 e, .int .i64 f, .int .i64 g, .int .i64 h, .int .i64 i, .int .i64 j]] w fun e' w' => e' = .returned (.bool (decide (checkN n (⟨a, b, c, k, d, e, ⟨f, g⟩, ⟨h, i⟩, j⟩ : Po) = 0))) ∧ Chg (fun _ => False) w w' := pFormed_n n (⟨a, b, c, k, d, e, ⟨f, g⟩, ⟨h, i⟩, j⟩ : Po) w
theorem formL_c (hh : checkN n (⟨a, b, c, k, d, e, ⟨f, g⟩, ⟨h, i⟩, j⟩ : Po) = 0) : ((0 ≤ a ∧ a ≤ 1000000) ∧ (0 ≤ b ∧ b ≤ 1000000) ∧ (0 ≤ c ∧ c ≤ 1000000) ∧ (0 ≤ d ∧ d ≤ 1000000) ∧ (0 ≤ e ∧ e ≤ 1000000) ∧ (0 ≤ f ∧ f ≤ 1000000) ∧ (0 ≤ g ∧ g ≤ 1000000) ∧ (0 ≤ h ∧ h ≤ 1000000) ∧ (0 ≤ i ∧ i ≤ 1000000) ∧ (0 ≤ j ∧ j ≤ 1000000)) ∧ (1 ≤ k ∧ k ≤ 5) := ⟨(formL hh).1, (formL hh).2.1⟩
theorem lineN_c (hh : ((0 ≤ a ∧ a ≤ 1000000) ∧ (0 ≤ b ∧ b ≤ 1000000) ∧ (0 ≤ c ∧ c ≤ 1000000) ∧ (0 ≤ d ∧ d ≤ 1000000) ∧ (0 ≤ e ∧ e ≤ 1000000) ∧ (0 ≤ f ∧ f ≤ 1000000) ∧ (0 ≤ g ∧ g ≤ 1000000) ∧ (0 ≤ h ∧ h ≤ 1000000) ∧ (0 ≤ i ∧ i ≤ 1000000) ∧ (0 ≤ j ∧ j ≤ 1000000)) ∧ (1 ≤ k ∧ k ≤ 5)) : (((lineN (⟨a, b, c, k, d, e, ⟨f, g⟩, ⟨h, i⟩, j⟩ : Po)).size : Nat) : Int) ≤ 100 := lineN_size (p := (⟨a, b, c, k, d, e, ⟨f, g⟩, ⟨h, i⟩, j⟩ : Po)) hh.1
end Go.Proofs.YtocabeobfbhajaaGreatDoor.Sx
end
section
namespace Go.Proofs.YtocabeobfbhajaaGreatDoor.Sx
open Go
section
variable {E : Env} {n : Nat} {w : World} {L : List Value → List Value} {t q : List QE} {m : List QL} {p : List LE}
theorem wI {c : Prop} [Decidable c] {α : Type} {F : α → Prop} {a b : α} (h1 : c → Wy E n w L t q m p (F a)) (h2 : ¬ c → Wy E n w L t q m p (F b)) : Wy E n w L t q m p (F (if c then a else b)) := by
 by_cases h : c
 ·rw [if_pos h]; exact h1 h
 ·rw [if_neg h]; exact h2 h
end
section
variable {n : Nat} {w : World} {L : List Value → List Value} {t c : List QE} {m : List QL} {p : List LE}
theorem wY {f : Nat} {xs : List Value} {x : Value} (v : AV) (vs : List AV) (hv : vvs (syL (L [])) vs = some xs := by rfl) (ho : onesL vs xs = true := by rfl)
  (h : isR v (funA (Ev E0 n (L []) w t c m p) (drwA (Ev E0 n (L []) w t c m p)) 200 200 (.fn f) vs ⟨Mm.lf, n, 0⟩) = true := by as_aux_lemma => kernel_rfl) (hx : vt (syL (L [])) v = some x := by rfl) : Wy E0 n w L t c m p (Calls E0.P f xs.toArray w fun e w' => e = .returned x ∧ Chg (fun _ => False) w w') :=
 wRet ok0 200 200 vs rfl hv ho h hx
end
end Go.Proofs.YtocabeobfbhajaaGreatDoor.Sx
end
