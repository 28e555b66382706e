/- A region that draws its order: what stands before what, and what is apart. No program is named here. -/
import Derived.Test.YtocabeobfbhajaaGreatDoorSxZ2
set_option linter.unusedVariables false
set_option linter.unusedSimpArgs false
namespace Go.Proofs.YtocabeobfbhajaaGreatDoor.Sx
noncomputable section
open Go Go.RowKit

/-- One bit of a number. -/
def bit (m i : Nat) : Bool := Nat.beq (Nat.mod (Nat.shiftRight m i) 2) 1
theorem bit_eq (m i : Nat) : bit m i = m.testBit i := by
  unfold bit
  rw [Nat.testBit_eq_decide_div_mod_eq]
  have e1 : Nat.mod (Nat.shiftRight m i) 2 = m / 2 ^ i % 2 := by
    show (m >>> i) % 2 = _
    rw [Nat.shiftRight_eq_div_pow]
  rw [e1]
  cases hb : Nat.beq (m / 2 ^ i % 2) 1 with
  | true => have := Nat.eq_of_beq_eq_true hb; simp [this]
  | false => have := beq_false_ne hb; simp [this]
/-- A bit more. -/
def addBit (m i : Nat) : Nat := Nat.lor m (Nat.shiftLeft 1 i)
theorem bit_or (m n j : Nat) : bit (Nat.lor m n) j = (bit m j || bit n j) := by
  rw [bit_eq, bit_eq, bit_eq]; exact Nat.testBit_or ..
theorem bit_zero (j : Nat) : bit 0 j = false := by rw [bit_eq]; exact Nat.zero_testBit j
theorem bit_addBit (m i j : Nat) : bit (addBit m i) j = (bit m j || decide (j = i)) := by
  unfold addBit
  rw [bit_or]
  congr 1
  rw [bit_eq]
  show (1 <<< i).testBit j = _
  rw [Nat.one_shiftLeft, Nat.testBit_two_pow]
  by_cases h : j = i
  · subst h; simp
  · simp [h, Ne.symm h]
theorem bit_and {m n j : Nat} (h : Nat.land m n = 0) (h1 : bit m j = true) (h2 : bit n j = true) : False := by
  rw [bit_eq] at h1 h2
  have : (m &&& n).testBit j = true := by rw [Nat.testBit_and, h1, h2]; rfl
  rw [show m &&& n = 0 from h, Nat.zero_testBit] at this
  cases this

/-! ### What stands before -/
/-- What an operation stands behind. -/
def edg (acc : List Nat) : List Edge → Nat → R Nat
  | [], m => .ok m
  | e :: r, m => match Region.binds .any e with
    | false => edg acc r m
    | true => match acc[e.on]? with
      | some b => edg acc r (addBit (Nat.lor m b) e.on)
      | none => .no 600
def mks : List Oper → List Nat → R (List Nat)
  | [], acc => .ok acc
  | o :: r, acc => (edg acc o.after.toList 0).bind fun m => mks r (acc ++ [m])
theorem edg_bit {acc : List Nat} : ∀ (l : List Edge) (m r : Nat), edg acc l m = .ok r → ∀ i, bit r i = true → bit m i = true ∨ ∃ e ∈ l, Region.binds .any e = true ∧ ∃ b, acc[e.on]? = some b ∧ (i = e.on ∨ bit b i = true)
  | [], m, r, h, i, hi => by cases h; exact .inl hi
  | e :: l, m, r, h, i, hi => by
    unfold edg at h
    split at h
    · rcases edg_bit l m r h i hi with h1 | ⟨e', he, h1⟩
      · exact .inl h1
      · exact .inr ⟨e', List.mem_cons_of_mem _ he, h1⟩
    · rename_i hb
      split at h
      case h_2 => cases h
      rename_i b hacc
      rcases edg_bit l _ r h i hi with h1 | ⟨e', he, h1⟩
      · rw [bit_addBit, bit_or] at h1
        simp only [Bool.or_eq_true, decide_eq_true_eq] at h1
        rcases h1 with (h1 | h1) | h1
        · exact .inl h1
        · exact .inr ⟨e, List.mem_cons_self, hb, b, hacc, .inr h1⟩
        · exact .inr ⟨e, List.mem_cons_self, hb, b, hacc, .inl h1⟩
      · exact .inr ⟨e', List.mem_cons_of_mem _ he, h1⟩
theorem edg_on {acc : List Nat} : ∀ (l : List Edge) (m r : Nat), edg acc l m = .ok r → ∀ e ∈ l, Region.binds .any e = true → e.on < acc.length
  | e :: l, m, r, h, e', he, hb => by
    unfold edg at h
    split at h
    · rename_i hb'
      rcases List.mem_cons.1 he with rfl | he
      · rw [hb] at hb'; cases hb'
      · exact edg_on l m r h e' he hb
    · split at h
      case h_2 => cases h
      rename_i b hacc
      rcases List.mem_cons.1 he with rfl | he
      · exact (List.getElem?_eq_some_iff.1 hacc).1
      · exact edg_on l _ r h e' he hb
theorem mks_ok : ∀ (l : List Oper) (acc ms : List Nat), mks l acc = .ok ms → ms.length = acc.length + l.length ∧ (∀ i, i < acc.length → ms[i]? = acc[i]?) ∧
    ∀ i o, l[i]? = some o → ∃ m, ms[acc.length + i]? = some m ∧ edg (ms.take (acc.length + i)) o.after.toList 0 = .ok m
  | [], acc, ms, h => by cases h; exact ⟨by simp, fun _ _ => rfl, fun i o hi => by simp at hi⟩
  | o :: r, acc, ms, h => by
    obtain ⟨m, h1, h⟩ := R.bind_ok h
    obtain ⟨g1, g2, g3⟩ := mks_ok r (acc ++ [m]) ms h
    simp only [List.length_append, List.length_cons, List.length_nil] at g1 g2 g3
    have hpre : ∀ i, i < acc.length → ms[i]? = acc[i]? := fun i hi => by rw [g2 i (by omega), List.getElem?_append_left hi]
    refine ⟨by simp only [List.length_cons]; omega, hpre, fun i o' hi => ?_⟩
    cases i with
    | zero =>
      simp only [List.getElem?_cons_zero, Option.some.injEq] at hi
      subst hi
      refine ⟨m, by rw [g2 _ (by omega)]; simp, ?_⟩
      have : ms.take (acc.length + 0) = acc := by
        refine List.ext_getElem? fun j => ?_
        rw [List.getElem?_take]
        split
        · exact hpre j (by omega)
        · rw [List.getElem?_eq_none (by omega)]
      rw [this]; exact h1
    | succ i =>
      obtain ⟨m', k1, k2⟩ := g3 i o' (by simpa using hi)
      exact ⟨m', by rw [show acc.length + (i + 1) = acc.length + 0 + 1 + i by omega]; exact k1, by rw [show acc.length + (i + 1) = acc.length + 0 + 1 + i by omega]; exact k2⟩
/-- i stands before j. -/
def bfm (ms : List Nat) (j i : Nat) : Bool := match ms[j]? with
  | some m => bit m i
  | none => false
theorem bfm_of {ms : List Nat} {j i m : Nat} (h : ms[j]? = some m) : bfm ms j i = bit m i := by unfold bfm; rw [h]
section
variable {all : List Oper} {ms : List Nat} (h : mks all [] = .ok ms)
include h
theorem mks_len : ms.length = all.length := by have := (mks_ok all [] ms h).1; simpa using this
theorem mks_at {i : Nat} {o : Oper} (hi : all[i]? = some o) : ∃ m, ms[i]? = some m ∧ edg (ms.take i) o.after.toList 0 = .ok m := by
  have := (mks_ok all [] ms h).2.2 i o hi
  simpa using this
theorem mks_on {i : Nat} {o : Oper} (hi : all[i]? = some o) : ∀ e ∈ o.after, Region.binds .any e = true → e.on < i := by
  intro e he hb
  obtain ⟨m, h1, h2⟩ := mks_at h hi
  have := edg_on _ _ _ h2 e (by simpa using he) hb
  rw [List.length_take] at this
  omega
theorem bfm_step {j i : Nat} (hb : bfm ms j i = true) : ∃ o, all[j]? = some o ∧ ∃ e ∈ o.after, Region.binds .any e = true ∧ e.on < j ∧ (i = e.on ∨ bfm ms e.on i = true) := by
  unfold bfm at hb
  split at hb
  case h_2 => cases hb
  rename_i m hm
  have hj : j < all.length := by rw [← mks_len h]; exact (List.getElem?_eq_some_iff.1 hm).1
  refine ⟨all[j], List.getElem?_eq_getElem hj, ?_⟩
  obtain ⟨m', h1, h2⟩ := mks_at h (List.getElem?_eq_getElem hj)
  rw [hm] at h1; cases h1
  rcases edg_bit _ _ _ h2 i hb with h3 | ⟨e, he, hbe, b, hacc, h3⟩
  · rw [bit_zero] at h3; cases h3
  · rw [List.getElem?_take] at hacc
    split at hacc
    case isFalse => cases hacc
    rename_i hlt
    refine ⟨e, by simpa using he, hbe, hlt, ?_⟩
    rw [bfm_of hacc]; exact h3
theorem bfm_lt : ∀ {j i : Nat}, bfm ms j i = true → i < j := by
  intro j
  induction j using Nat.strongRecOn with
  | _ j ih =>
    intro i hb
    obtain ⟨o, _, e, _, _, hlt, h1⟩ := bfm_step h hb
    rcases h1 with h1 | h1
    · omega
    · have := ih _ hlt h1; omega
theorem bfm_before {ops : Array Oper} (hall : ops.toList = all) (D : Nat → Bool) (hcl : ∀ j o, ops[j]? = some o → D j = true → ∀ e ∈ o.after, Region.binds .any e = true → D e.on = true) :
    ∀ j o, ops[j]? = some o → (∀ e ∈ o.after, Region.binds .any e = true → D e.on = true) → ∀ i, bfm ms j i = true → D i = true := by
  intro j
  induction j using Nat.strongRecOn with
  | _ j ih =>
    intro o ho hD i hb
    obtain ⟨o', ho', e, he, hbe, hlt, h1⟩ := bfm_step h hb
    rw [← hall, Array.getElem?_toList, ho] at ho'
    cases ho'
    have hDe := hD e he hbe
    rcases h1 with h1 | h1
    · rw [h1]; exact hDe
    · have hlt' : e.on < ops.size := by
        have := (Array.getElem?_eq_some_iff.1 ho).1
        omega
      exact ih e.on hlt ops[e.on] (Array.getElem?_eq_getElem hlt') (hcl _ _ (Array.getElem?_eq_getElem hlt') hDe) i h1
end
/-! ### What is apart -/
def tmB : List Operand → Nat → Nat
  | [], m => m
  | x :: r, m => match x with
    | .tmp t => tmB r (addBit m t)
    | _ => tmB r m
def dsB (d : Option Tmp) (m : Nat) : Nat := match d with
  | some d => addBit m d
  | none => m
/-- The slots that an operation looks at. -/
def rdB (all : List Oper) (o : Oper) : Nat := dsB (gdst all o) (tmB o.op.operands.toList 0)
theorem tmB_bit (t : Nat) : ∀ (l : List Operand) (m : Nat), bit (tmB l m) t = true ↔ bit m t = true ∨ Operand.tmp t ∈ l
  | [], m => by simp [tmB]
  | x :: r, m => by
    unfold tmB
    split
    · rename_i u
      rw [tmB_bit t r, bit_addBit]
      simp only [Bool.or_eq_true, decide_eq_true_eq, List.mem_cons, Operand.tmp.injEq]
      constructor
      · rintro ((h | h) | h)
        · exact .inl h
        · exact .inr (.inl h)
        · exact .inr (.inr h)
      · rintro (h | h | h)
        · exact .inl (.inl h)
        · exact .inl (.inr h)
        · exact .inr h
    · rename_i hx
      rw [tmB_bit t r]
      simp only [List.mem_cons]
      constructor
      · rintro (h | h)
        · exact .inl h
        · exact .inr (.inr h)
      · rintro (h | h | h)
        · exact .inl h
        · exact absurd h.symm (hx t)
        · exact .inr h
theorem dsB_bit (d : Option Tmp) (m t : Nat) : bit (dsB d m) t = true ↔ bit m t = true ∨ d = some t := by
  unfold dsB
  split
  · rename_i u
    rw [bit_addBit, Bool.or_eq_true, decide_eq_true_eq, Option.some.injEq]
    constructor
    · rintro (h | h)
      · exact .inl h
      · exact .inr h.symm
    · rintro (h | h)
      · exact .inl h
      · exact .inr h.symm
  · simp
theorem rdB_bit {all : List Oper} {o : Oper} {t : Nat} : bit (rdB all o) t = true ↔ Operand.tmp t ∈ o.op.operands ∨ gdst all o = some t := by
  unfold rdB
  rw [dsB_bit, tmB_bit, bit_zero]
  simp
/-- An operation against those before it. -/
def apt1 (m rj dj : Nat) : Nat → List (Nat × Nat) → Bool
  | _, [] => true
  | i, (ri, di) :: r => match bit m i with
    | true => apt1 m rj dj (Nat.succ i) r
    | false => match Nat.beq (Nat.lor (Nat.land di (Nat.lor rj dj)) (Nat.land dj ri)) 0 with
      | true => apt1 m rj dj (Nat.succ i) r
      | false => false
def apt (all : List Oper) : List Oper → List Nat → List (Nat × Nat) → Bool
  | [], _, _ => true
  | _ :: _, [], _ => false
  | o :: r, m :: ms, acc => match apt1 m (rdB all o) (dsB o.dst 0) 0 acc with
    | true => apt all r ms (acc ++ [(rdB all o, dsB o.dst 0)])
    | false => false
theorem apt1_ok {m rj dj : Nat} : ∀ (l : List (Nat × Nat)) (i : Nat), apt1 m rj dj i l = true → ∀ k ri di, l[k]? = some (ri, di) → bit m (i + k) = false → Nat.land di (Nat.lor rj dj) = 0 ∧ Nat.land dj ri = 0
  | (r0, d0) :: r, i, h, k, ri, di, hk, hb => by
    unfold apt1 at h
    cases k with
    | zero =>
      simp only [List.getElem?_cons_zero, Option.some.injEq, Prod.mk.injEq] at hk
      obtain ⟨rfl, rfl⟩ := hk
      rw [Nat.add_zero] at hb
      rw [hb] at h
      dsimp only at h
      split at h
      · rename_i h0
        have h0 := Nat.eq_of_beq_eq_true h0
        exact Nat.or_eq_zero_iff.1 h0
      · cases h
    | succ k =>
      have hk' : r[k]? = some (ri, di) := by simpa using hk
      have hb' : bit m (Nat.succ i + k) = false := by rw [show Nat.succ i + k = i + (k + 1) by omega]; exact hb
      split at h
      · exact apt1_ok r _ h k ri di hk' hb'
      · split at h
        · exact apt1_ok r _ h k ri di hk' hb'
        · cases h
theorem apt_ok {all : List Oper} (l : List Oper) : ∀ (ms : List Nat) (pre : List Oper), apt all l ms (pre.map fun o => (rdB all o, dsB o.dst 0)) = true →
    ∀ j oj m, l[j]? = some oj → ms[j]? = some m → ∀ i oi, i < pre.length + j → (pre ++ l)[i]? = some oi → bit m i = false →
      Nat.land (dsB oi.dst 0) (Nat.lor (rdB all oj) (dsB oj.dst 0)) = 0 ∧ Nat.land (dsB oj.dst 0) (rdB all oi) = 0 := by
  induction l with
  | nil => intro ms pre h j oj m hj; simp at hj
  | cons o r ih =>
    intro ms pre h j oj m hj hm i oi hi hoi hb
    cases ms with
    | nil => simp at hm
    | cons m0 ms =>
      unfold apt at h
      split at h
      case h_2 => cases h
      rename_i h1
      cases j with
      | zero =>
        simp only [List.getElem?_cons_zero, Option.some.injEq] at hj hm
        subst hj; subst hm
        refine apt1_ok _ 0 h1 i (rdB all oi) (dsB oi.dst 0) ?_ (by rw [Nat.zero_add]; exact hb)
        rw [List.getElem?_append_left (by omega)] at hoi
        rw [List.getElem?_map, hoi]; rfl
      | succ j =>
        have h' : apt all r ms ((pre ++ [o]).map fun o => (rdB all o, dsB o.dst 0)) = true := by rw [List.map_append]; exact h
        exact ih ms (pre ++ [o]) h' j oj m (by simpa using hj) (by simpa using hm) i oi (by simp; omega) (by simpa using hoi) hb
end
end Go.Proofs.YtocabeobfbhajaaGreatDoor.Sx
