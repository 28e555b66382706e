/- Plain data for a reckoner of known runs: trees that are keyed by numbers, bytes that are packed into one number. No program is named here. -/
import GoSem.Core.Value
set_option linter.unusedVariables false
namespace Go.Proofs.YtocabeobfbhajaaGreatDoor.Sx
noncomputable section
open Go

/-- A tree keyed by numbers: 0 here, odd ones to the left, even ones to the right. -/
inductive Tr (α : Type) where
  | lf
  | nd (l : Tr α) (v : Option α) (r : Tr α)
variable {α : Type}
/-- The way to a place. (Told once for each number: the kernel keeps it.) -/
inductive K where
  | e
  | o (k : K)
  | i (k : K)
noncomputable def toK (f : Nat) : Nat → K :=
  Nat.rec (motive := fun _ => Nat → K) (fun _ => .e) (fun _ ih k => Bool.rec (motive := fun _ => K) (Bool.rec (motive := fun _ => K) (.i (ih (Nat.sub (Nat.div k 2) 1))) (.o (ih (Nat.div k 2))) (Nat.beq (Nat.mod k 2) 1)) .e (Nat.beq k 0)) f
noncomputable def getK (k : K) : Tr α → Option α :=
  K.rec (motive := fun _ => Tr α → Option α) (fun t => Tr.rec (motive := fun _ => Option α) none (fun _ v _ _ _ => v) t) (fun _ ih t => Tr.rec (motive := fun _ => Option α) none (fun l _ _ _ _ => ih l) t)
    (fun _ ih t => Tr.rec (motive := fun _ => Option α) none (fun _ _ r _ _ => ih r) t) k
noncomputable def putK (x : Option α) (k : K) : Tr α → Tr α :=
  K.rec (motive := fun _ => Tr α → Tr α) (fun t => Tr.rec (motive := fun _ => Tr α) (.nd .lf x .lf) (fun l _ r _ _ => .nd l x r) t)
    (fun _ ih t => Tr.rec (motive := fun _ => Tr α) (.nd (ih .lf) none .lf) (fun l v r _ _ => .nd (ih l) v r) t)
    (fun _ ih t => Tr.rec (motive := fun _ => Tr α) (.nd .lf none (ih .lf)) (fun l v r _ _ => .nd l v (ih r)) t) k
noncomputable def Tr.get (t : Tr α) (k : Nat) : Option α := Bool.rec (motive := fun _ => Option α) none (getK (toK 41 k) t) (Nat.ble k 2199023255550)
/-- What is put at a key: none takes it away. -/
noncomputable def Tr.put (x : Option α) (f : Nat) (t : Tr α) (k : Nat) : Tr α := putK x (toK f k) t
theorem brec {β : Type} (a b : Nat) (e t : β) : (Bool.rec (motive := fun _ => β) e t (Nat.beq a b)) = if a = b then t else e := by
  by_cases h : a = b
  · subst h; rw [if_pos rfl, Nat.beq_refl]
  · rw [if_neg h]
    have : Nat.beq a b = false := by
      cases hb : Nat.beq a b with
      | false => rfl
      | true => exact absurd (Nat.eq_of_beq_eq_true hb) h
    rw [this]
theorem getK_lf : ∀ k : K, getK k (.lf : Tr α) = none
  | .e => rfl
  | .o _ => rfl
  | .i _ => rfl
theorem Tr.get_lf (k : Nat) : (Tr.lf : Tr α).get k = none := by
  unfold Tr.get
  rw [getK_lf]
  cases Nat.ble k 2199023255550 <;> rfl
theorem getK_putK (x : Option α) : ∀ (k j : K) (t : Tr α), (j = k → getK j (putK x k t) = x) ∧ (j ≠ k → getK j (putK x k t) = getK j t)
  | .e, j, t => by
    constructor
    · rintro rfl; cases t <;> rfl
    · intro h
      cases j with
      | e => exact absurd rfl h
      | o j => cases t with
        | lf => exact getK_lf j
        | nd l v r => rfl
      | i j => cases t with
        | lf => exact getK_lf j
        | nd l v r => rfl
  | .o k, j, t => by
    constructor
    · rintro rfl
      cases t with
      | lf => exact (getK_putK x k k .lf).1 rfl
      | nd l v r => exact (getK_putK x k k l).1 rfl
    · intro h
      cases j with
      | e => cases t <;> rfl
      | o j =>
        have hj : j ≠ k := fun e => h (by rw [e])
        cases t with
        | lf => exact ((getK_putK x k j .lf).2 hj).trans (getK_lf j)
        | nd l v r => exact (getK_putK x k j l).2 hj
      | i j => cases t with
        | lf => exact getK_lf j
        | nd l v r => rfl
  | .i k, j, t => by
    constructor
    · rintro rfl
      cases t with
      | lf => exact (getK_putK x k k .lf).1 rfl
      | nd l v r => exact (getK_putK x k k r).1 rfl
    · intro h
      cases j with
      | e => cases t <;> rfl
      | o j => cases t with
        | lf => exact getK_lf j
        | nd l v r => rfl
      | i j =>
        have hj : j ≠ k := fun e => h (by rw [e])
        cases t with
        | lf => exact ((getK_putK x k j .lf).2 hj).trans (getK_lf j)
        | nd l v r => exact (getK_putK x k j r).2 hj
def fromK : K → Nat
  | .e => 0
  | .o k => 2 * fromK k + 1
  | .i k => 2 * fromK k + 2
theorem fromK_toK : ∀ (f k : Nat), k < 2 ^ f - 1 → fromK (toK f k) = k
  | 0, k, h => by simp at h
  | f + 1, k, h => by
    have e : 2 ^ (f + 1) = 2 * 2 ^ f := by rw [Nat.pow_succ, Nat.mul_comm]
    have hs : toK (f + 1) k = Bool.rec (motive := fun _ => K) (Bool.rec (motive := fun _ => K) (.i (toK f (k / 2 - 1))) (.o (toK f (k / 2))) (Nat.beq (k % 2) 1)) .e (Nat.beq k 0) := rfl
    rw [hs, brec, brec]
    by_cases h0 : k = 0
    · rw [if_pos h0]; subst h0; rfl
    · rw [if_neg h0]
      by_cases h1 : k % 2 = 1
      · rw [if_pos h1]
        simp only [fromK]
        rw [fromK_toK f (k / 2) (by omega)]; omega
      · rw [if_neg h1]
        simp only [fromK]
        rw [fromK_toK f (k / 2 - 1) (by omega)]; omega
theorem toK_inj {j k : Nat} (hj : j ≤ 2199023255550) (hk : k ≤ 2199023255550) (h : toK 41 j = toK 41 k) : j = k := by
  rw [← fromK_toK 41 j (by omega), h, fromK_toK 41 k (by omega)]
theorem Tr.get_put (x : Option α) (f : Nat) (t : Tr α) (k j : Nat) (h : k < 2 ^ f - 1) (hf : f = 41 := by rfl) : (Tr.put x f t k).get j = if j = k then x else t.get j := by
  subst hf
  have hk : k ≤ 2199023255550 := by omega
  unfold Tr.get Tr.put
  by_cases hj : j ≤ 2199023255550
  · rw [show Nat.ble j 2199023255550 = true from Nat.ble_eq_true_of_le hj]
    dsimp only
    by_cases e : j = k
    · subst e; rw [if_pos rfl, (getK_putK x _ _ t).1 rfl]
    · rw [if_neg e, (getK_putK x _ _ t).2 fun h' => e (toK_inj hj hk h')]
  · have hb : Nat.ble j 2199023255550 = false := by
      cases hb : Nat.ble j 2199023255550 with
      | false => rfl
      | true => exact absurd (Nat.le_of_ble_eq_true hb) hj
    rw [hb, if_neg (by omega)]

/-! ### Bytes that are packed into one number, the first one lowest -/
def unpack : Nat → Nat → List UInt8
  | 0, _ => []
  | n + 1, N => UInt8.ofNat N :: unpack n (N / 256)
def pack : List UInt8 → Nat
  | [] => 0
  | b :: r => Nat.add b.toNat (Nat.mul 256 (pack r))
theorem unpack_length : ∀ (n N : Nat), (unpack n N).length = n
  | 0, _ => rfl
  | n + 1, N => by simp [unpack, unpack_length n]
theorem ofNat_mod (N : Nat) : UInt8.ofNat (N % 256) = UInt8.ofNat N := by
  apply UInt8.toNat_inj.1; simp
theorem unpack_get : ∀ (n N i : Nat), i < n → (unpack n N)[i]? = some (UInt8.ofNat (N / 256 ^ i))
  | 0, _, _, h => by omega
  | n + 1, N, 0, _ => by simp [unpack]
  | n + 1, N, i + 1, h => by
    simp only [unpack, List.getElem?_cons_succ]
    rw [unpack_get n _ i (by omega), Nat.div_div_eq_div_mul, Nat.pow_succ, Nat.mul_comm]
theorem unpack_pack : ∀ (l : List UInt8), unpack l.length (pack l) = l
  | [] => rfl
  | b :: r => by
    have hb : b.toNat < 256 := b.toNat_lt
    simp only [List.length_cons, unpack, pack, Nat.add_eq, Nat.mul_eq]
    rw [show (b.toNat + 256 * pack r) / 256 = pack r by omega, unpack_pack r]
    congr 1
    rw [← ofNat_mod, show (b.toNat + 256 * pack r) % 256 = b.toNat by omega]
    simp
theorem unpack_mod : ∀ (n N : Nat), unpack n (N % 256 ^ n) = unpack n N
  | 0, _ => rfl
  | n + 1, N => by
    simp only [unpack]
    have e : 256 ^ (n + 1) = 256 * 256 ^ n := by rw [Nat.pow_succ, Nat.mul_comm]
    congr 1
    · rw [← ofNat_mod, e, Nat.mod_mul_right_mod, ofNat_mod]
    · rw [e, Nat.mod_mul_right_div_self, unpack_mod n]
theorem unpack_append : ∀ (n m A B : Nat), unpack (n + m) (A % 256 ^ n + 256 ^ n * B) = unpack n A ++ unpack m B
  | 0, m, A, B => by simp [unpack, Nat.mod_one]
  | n + 1, m, A, B => by
    rw [show n + 1 + m = (n + m) + 1 by omega]
    simp only [unpack, List.cons_append]
    have e : 256 ^ (n + 1) = 256 * 256 ^ n := by rw [Nat.pow_succ, Nat.mul_comm]
    have e1 : A % 256 ^ (n + 1) = A % 256 + 256 * (A / 256 % 256 ^ n) := by rw [e, Nat.mod_mul]
    have e2 : 256 ^ (n + 1) * B = 256 * (256 ^ n * B) := by rw [e, Nat.mul_assoc]
    have hlt : A % 256 < 256 := Nat.mod_lt _ (by omega)
    congr 1
    · rw [e1, e2, ← ofNat_mod, show (A % 256 + 256 * (A / 256 % 256 ^ n) + 256 * (256 ^ n * B)) % 256 = A % 256 by omega, ofNat_mod]
    · rw [← unpack_append n m (A / 256) B, e1, e2]
      congr 1
      omega
theorem unpack_drop : ∀ (n k N : Nat), k ≤ n → (unpack n N).drop k = unpack (n - k) (N / 256 ^ k)
  | n, 0, N, _ => by simp
  | 0, k + 1, N, h => by omega
  | n + 1, k + 1, N, h => by
    simp only [unpack, List.drop_succ_cons]
    rw [unpack_drop n k _ (by omega), Nat.div_div_eq_div_mul, Nat.pow_succ, Nat.mul_comm (256 ^ k), show n + 1 - (k + 1) = n - k by omega]
theorem unpack_take : ∀ (n k N : Nat), k ≤ n → (unpack n N).take k = unpack k N
  | n, 0, N, _ => by simp [unpack]
  | 0, k + 1, N, h => by omega
  | n + 1, k + 1, N, h => by
    simp only [unpack, List.take_succ_cons]
    rw [unpack_take n k _ (by omega)]
theorem unpack_inj : ∀ (n A B : Nat), unpack n A = unpack n B → A % 256 ^ n = B % 256 ^ n
  | 0, A, B, _ => by simp [Nat.mod_one]
  | n + 1, A, B, h => by
    simp only [unpack, List.cons.injEq] at h
    have e : 256 ^ (n + 1) = 256 * 256 ^ n := by rw [Nat.pow_succ, Nat.mul_comm]
    have h1 : A % 256 = B % 256 := by have := congrArg UInt8.toNat h.1; simpa using this
    have h2 := unpack_inj n _ _ h.2
    rw [e, Nat.mod_mul, Nat.mod_mul, h1, h2]
/-- A stretch of packed bytes. -/
def bsub (N lo n : Nat) : Nat := Nat.mod (Nat.div N (Nat.pow 256 lo)) (Nat.pow 256 n)
theorem unpack_bsub (m N lo n : Nat) (h : lo + n ≤ m) : unpack n (bsub N lo n) = ((unpack m N).drop lo).take n := by
  rw [unpack_drop m lo N (by omega), unpack_take _ _ _ (by omega)]
  show unpack n ((N / 256 ^ lo) % 256 ^ n) = _
  rw [unpack_mod]
/-- Two runs of packed bytes, one behind the other. -/
def bcat (n A B : Nat) : Nat := Nat.add (Nat.mod A (Nat.pow 256 n)) (Nat.mul (Nat.pow 256 n) B)
theorem unpack_bcat (n m A B : Nat) : unpack (n + m) (bcat n A B) = unpack n A ++ unpack m B := unpack_append n m A B
def bget (N i : Nat) : Nat := Nat.mod (Nat.div N (Nat.pow 256 i)) 256
theorem unpack_bget (n N i : Nat) (h : i < n) : (unpack n N)[i]? = some (UInt8.ofNat (bget N i)) := by
  rw [unpack_get n N i h]; show _ = some (UInt8.ofNat ((N / 256 ^ i) % 256)); rw [ofNat_mod]
theorem bget_lt (N i : Nat) : bget N i < 256 := Nat.mod_lt _ (by omega)
def beqb (n A B : Nat) : Bool := Nat.beq (Nat.mod A (Nat.pow 256 n)) (Nat.mod B (Nat.pow 256 n))
theorem beqb_iff (n A B : Nat) : beqb n A B = true ↔ unpack n A = unpack n B := by
  unfold beqb
  rw [Nat.beq_eq]
  exact ⟨fun h => by rw [← unpack_mod n A, ← unpack_mod n B]; exact congrArg _ h, fun h => unpack_inj n A B h⟩
end
end Go.Proofs.YtocabeobfbhajaaGreatDoor.Sx
