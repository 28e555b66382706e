/- The reckoner's operations on values: two operands, one operand. No program is named here. -/
import Derived.Test.YtocabeobfbhajaaGreatDoorSxF
set_option linter.unusedVariables false
set_option linter.unusedSimpArgs false
namespace Go.Proofs.YtocabeobfbhajaaGreatDoor.Sx
noncomputable section
open Go Go.RowKit
variable {P : Program}

def notB : Bool → Bool
  | true => false
  | false => true
theorem notB_eq (b : Bool) : notB b = !b := by cases b <;> rfl
/-- Division and what is left, towards zero. -/
def quoI : Int → Int → Int
  | .ofNat a, .ofNat b => .ofNat (Nat.div a b)
  | a, b => Int.tdiv a b
theorem quoI_eq (a b : Int) : quoI a b = a.tdiv b := by cases a <;> cases b <;> rfl
def remI : Int → Int → Int
  | .ofNat a, .ofNat b => .ofNat (Nat.mod a b)
  | a, b => Int.tmod a b
theorem remI_eq (a b : Int) : remI a b = a.tmod b := by cases a <;> cases b <;> rfl
def intA (op : BinOp) (k : IntKind) (m n : Int) : R AV := match op with
  | .add => .ok (.int k (wrapA k (addI m n)))
  | .sub => .ok (.int k (wrapA k (subI m n)))
  | .mul => .ok (.int k (wrapA k (mulI m n)))
  | .quo => match eqI n (.ofNat 0) with
    | true => .no 60
    | false => .ok (.int k (wrapA k (quoI m n)))
  | .rem => match eqI n (.ofNat 0) with
    | true => .no 61
    | false => .ok (.int k (remI m n))
  | .and => .ok (.int k (k.wrap (BitVec.ofInt k.bits m &&& BitVec.ofInt k.bits n).toNat))
  | .or => .ok (.int k (k.wrap (BitVec.ofInt k.bits m ||| BitVec.ofInt k.bits n).toNat))
  | .xor => .ok (.int k (k.wrap (BitVec.ofInt k.bits m ^^^ BitVec.ofInt k.bits n).toNat))
  | .andNot => .ok (.int k (k.wrap (BitVec.ofInt k.bits m &&& ~~~ BitVec.ofInt k.bits n).toNat))
  | .eql => .ok (.bool (eqI m n))
  | .neq => .ok (.bool (notB (eqI m n)))
  | .lss => .ok (.bool (notB (leI n m)))
  | .leq => .ok (.bool (leI m n))
  | .gtr => .ok (.bool (notB (leI m n)))
  | .geq => .ok (.bool (leI n m))
  | _ => .no 62
theorem intA_ok {op : BinOp} {k : IntKind} {m n : Int} {t : TypeId} {c : AV} (h : intA op k m n = .ok c) (σ : Sg) (w : World) : ∃ z, (binOp op t (.int k m) (.int k n)).run P w = .ok z w ∧ V σ c z := by
  unfold intA at h
  split at h
  case h_4 => split at h; · cases h
              rename_i h0
              rw [eqI_eq] at h0
              have h0' : n ≠ 0 := by simpa using h0
              cases h
              exact ⟨.int k (k.wrap (m.tdiv n)), by simp [binOp, Op.intDiv, h0'], by simp [V, wrapA_eq, quoI_eq]⟩
  case h_5 => split at h; · cases h
              rename_i h0
              rw [eqI_eq] at h0
              have h0' : n ≠ 0 := by simpa using h0
              cases h
              exact ⟨.int k (m.tmod n), by simp [binOp, Op.intDiv, h0'], by simp [V, remI_eq]⟩
  case h_16 => cases h
  case h_10 => cases h; exact ⟨.bool (m == n), by simp only [binOp, ne_eq, not_true_eq_false, if_false, Op.intCmp, Sem.run_pure], by simp only [V, eqI_eq, Value.bool.injEq]; rfl⟩
  case h_11 => cases h; exact ⟨.bool (m != n), by simp only [binOp, ne_eq, not_true_eq_false, if_false, Op.intCmp, Sem.run_pure], by simp only [V, eqI_eq, notB_eq, Value.bool.injEq]; rfl⟩
  case h_12 => cases h; exact ⟨.bool (m < n), by simp only [binOp, ne_eq, not_true_eq_false, if_false, Op.intCmp, Sem.run_pure], by simp only [V, leI_eq, notB_eq, Value.bool.injEq]; rw [Bool.eq_iff_iff]; simp⟩
  case h_13 => cases h; exact ⟨.bool (m ≤ n), by simp only [binOp, ne_eq, not_true_eq_false, if_false, Op.intCmp, Sem.run_pure], by simp only [V, leI_eq]⟩
  case h_14 => cases h; exact ⟨.bool (m > n), by simp only [binOp, ne_eq, not_true_eq_false, if_false, Op.intCmp, Sem.run_pure], by simp only [V, leI_eq, notB_eq, Value.bool.injEq]; rw [Bool.eq_iff_iff]; simp⟩
  case h_15 => cases h; exact ⟨.bool (m ≥ n), by simp only [binOp, ne_eq, not_true_eq_false, if_false, Op.intCmp, Sem.run_pure], by simp only [V, leI_eq, ge_iff_le]⟩
  case h_1 => cases h; exact ⟨.int k (k.wrap (m + n)), by simp [binOp, Op.intArith], by simp [V, wrapA_eq, addI_eq]⟩
  case h_2 => cases h; exact ⟨.int k (k.wrap (m - n)), by simp [binOp, Op.intArith], by simp [V, wrapA_eq, subI_eq]⟩
  case h_3 => cases h; exact ⟨.int k (k.wrap (m * n)), by simp [binOp, Op.intArith], by simp [V, wrapA_eq, mulI_eq]⟩
  all_goals (cases h; exact ⟨_, by simp only [binOp, ne_eq, not_true_eq_false, if_false, Op.intBits, Sem.run_pure]; rfl, by simp only [V]⟩)
def powN (n : Nat) : Nat := Nat.pow 2 n
def bitsN : IntKind → Nat
  | .i8 | .u8 => 8 | .i16 | .u16 => 16 | .i32 | .u32 => 32 | .i64 | .u64 => 64
theorem bitsN_eq (k : IntKind) : bitsN k = k.bits := by cases k <;> rfl
def minN (a b : Nat) : Nat := match Nat.ble a b with
  | true => a
  | false => b
theorem minN_eq (a b : Nat) : minN a b = min a b := by
  unfold minN
  cases h : Nat.ble a b with
  | true => have := Nat.le_of_ble_eq_true h; simp only; omega
  | false => have := ble_false h; simp only; omega
def shA (op : BinOp) (k : IntKind) (m : Int) (y : Int) : R AV := match y with
  | .ofNat y => match op with
    | .shl => .ok (.int k (wrapA k (mulI m (.ofNat (powN (minN y (bitsN k)))))))
    | .shr => .ok (.int k (match m with
      | .ofNat a => .ofNat (Nat.div a (powN (minN y (bitsN k))))
      | m => Int.fdiv m (.ofNat (powN (minN y (bitsN k))))))
    | _ => .no 63
  | _ => .no 64
theorem shA_ok {op : BinOp} {k k' : IntKind} {m n : Int} {t : TypeId} {c : AV} (h : shA op k m n = .ok c) (σ : Sg) (w : World) : ∃ z, (binOp op t (.int k m) (.int k' n)).run P w = .ok z w ∧ V σ c z := by
  unfold shA at h
  split at h
  case h_2 => cases h
  rename_i y
  have e1 : min (Int.ofNat y).toNat k.bits = minN y (bitsN k) := by rw [minN_eq, bitsN_eq]; rfl
  have e2 : ¬ (Int.ofNat y < 0) := by simp
  split at h
  case h_3 => cases h
  · cases h
    refine ⟨.int k (k.wrap (m * 2 ^ minN y (bitsN k))), ?_, ?_⟩
    · simp only [binOp, Op.shift, e2, if_false, e1, Sem.run_pure]
    · simp only [V, wrapA_eq, mulI_eq]
      congr 3
  · cases h
    refine ⟨.int k (m.fdiv (2 ^ minN y (bitsN k))), ?_, ?_⟩
    · simp only [binOp, Op.shift, e2, if_false, e1, Sem.run_pure]
    · simp only [V]
      have e3 : ((2 : Int) ^ minN y (bitsN k)) = Int.ofNat (powN (minN y (bitsN k))) := by unfold powN; simp
      rw [e3]
      cases m with
      | ofNat a =>
        cases a with
        | zero => simp only [Int.fdiv, Int.ofNat_eq_natCast]; rw [show Nat.div 0 (powN (minN y (bitsN k))) = 0 from Nat.zero_div _]; rfl
        | succ a => rfl
      | negSucc a => rfl

/-! ### Strings -/
def ltS (n N m M : Nat) : Bool := Op.bytesLess (unpack n N) (unpack m M)
def orB : Bool → Bool → Bool
  | true, _ => true
  | false, b => b
theorem orB_eq (a b : Bool) : orB a b = (a || b) := by cases a <;> cases b <;> rfl
def strOpA (op : BinOp) (n N m M : Nat) : R AV := match op with
  | .add => match Nat.ble (Nat.add n m) 9223372036854775807 with
    | true => .ok (.str (Nat.add n m) (bcat n N M))
    | false => .no 65
  | .eql => .ok (.bool (strEq n N m M))
  | .neq => .ok (.bool (notB (strEq n N m M)))
  | .lss => .ok (.bool (ltS n N m M))
  | .leq => .ok (.bool (orB (ltS n N m M) (strEq n N m M)))
  | .gtr => .ok (.bool (notB (orB (ltS n N m M) (strEq n N m M))))
  | .geq => .ok (.bool (notB (ltS n N m M)))
  | _ => .no 66
def bstr (n N : Nat) : ByteArray := ⟨(unpack n N).toArray⟩
theorem bstr_size (n N : Nat) : (bstr n N).size = n := by show (unpack n N).toArray.size = n; simp [unpack_length]
theorem bstr_append (n N m M : Nat) : bstr n N ++ bstr m M = bstr (n + m) (bcat n N M) := by
  apply ByteArray.ext
  rw [ByteArray.data_append]
  show (unpack n N).toArray ++ (unpack m M).toArray = (unpack (n + m) (bcat n N M)).toArray
  rw [unpack_bcat]; simp
theorem strOpA_ok {op : BinOp} {n N m M : Nat} {t : TypeId} {c : AV} (h : strOpA op n N m M = .ok c) (σ : Sg) (w : World) : ∃ z, (binOp op t (.string (bstr n N)) (.string (bstr m M))).run P w = .ok z w ∧ V σ c z := by
  have heq : ((bstr n N).toList == (bstr m M).toList) = strEq n N m M := by
    rw [show (bstr n N).toList = unpack n N from toList_mk _, show (bstr m M).toList = unpack m M from toList_mk _, strEq_ok, Bool.eq_iff_iff]; simp
  have hlt : Op.bytesLess (bstr n N).toList (bstr m M).toList = ltS n N m M := by
    rw [show (bstr n N).toList = unpack n N from toList_mk _, show (bstr m M).toList = unpack m M from toList_mk _]; rfl
  unfold strOpA at h
  split at h
  case h_8 => cases h
  case h_1 =>
    split at h
    case h_2 => cases h
    rename_i hb
    cases h
    have hb' : n + m ≤ 9223372036854775807 := Nat.le_of_ble_eq_true hb
    refine ⟨.string (bstr (n + m) (bcat n N M)), ?_, by simp only [V]; rfl⟩
    simp only [binOp, Op.stringOp, bstr_size, bstr_append]
    have e : IntKind.i64.max = 9223372036854775807 := by decide
    rw [if_neg (by rw [e]; omega)]
    rfl
  case h_2 => cases h; exact ⟨.bool (strEq n N m M), by simp only [binOp, Op.stringOp, heq, Sem.run_pure], by simp only [V]⟩
  case h_3 => cases h; exact ⟨.bool (!strEq n N m M), by simp only [binOp, Op.stringOp, heq, Sem.run_pure], by simp only [V, notB_eq]⟩
  case h_4 => cases h; exact ⟨.bool (ltS n N m M), by simp only [binOp, Op.stringOp, hlt, Sem.run_pure], by simp only [V]⟩
  case h_5 => cases h; exact ⟨.bool (ltS n N m M || strEq n N m M), by simp only [binOp, Op.stringOp, hlt, heq, Sem.run_pure], by simp only [V, orB_eq]⟩
  case h_6 => cases h; exact ⟨.bool (!(ltS n N m M || strEq n N m M)), by simp only [binOp, Op.stringOp, hlt, heq, Sem.run_pure], by simp only [V, orB_eq, notB_eq]⟩
  case h_7 => cases h; exact ⟨.bool (!ltS n N m M), by simp only [binOp, Op.stringOp, hlt, Sem.run_pure], by simp only [V, notB_eq]⟩

/-! ### == -/
def isNone {α : Type} : Option α → Bool
  | none => true
  | some _ => false
def isCst : Operand → Bool
  | .const _ => true
  | _ => false
def cmpA (P : Program) (t : TypeId) (cst : Bool) (a b : AV) : R Bool := match P.underlying t with
  | some .bool => eqV P 3 t a b
  | some (.struct _) => match P.eqGuardType P.depth t with
    | false => eqV P 20 t a b
    | true => .no 67
  | some (.array _ _) => match P.eqGuardType P.depth t with
    | false => eqV P 20 t a b
    | true => .no 68
  | some (.pointer e) => match a, b with
    | .np, .np => .ok true
    | .np, .ptr _ _ => .ok false
    | .ptr _ _, .np => .ok false
    | .ptr x o, .ptr y u => match Nat.beq x y, P.info? e with
      | true, some i => match i.size with
        | 0 => .no 69
        | _ + 1 => .ok (Nat.beq o u)
      | _, _ => .no 70
    | _, _ => .no 71
  | some (.slice _) => match a, b with
    | .ns, .ns => .ok true
    | .ns, .sl _ _ _ _ _ => .ok false
    | .sl _ _ _ _ _, .ns => .ok false
    | _, _ => .no 72
  | some (.map _ _) => match a, b with
    | .nm, .nm => .ok true
    | .nm, .mp _ => .ok false
    | .mp _, .nm => .ok false
    | _, _ => .no 73
  | some (.func _ _ _) => match a, b with
    | .nf, .nf => .ok true
    | .nf, .fn _ _ _ => .ok false
    | .fn _ _ _, .nf => .ok false
    | _, _ => .no 74
  | some (.interface _) => match a, b with
    | .ni, .ni => match cst with
      | true => .ok true
      | false => .no 75
    | .ni, .ifc _ _ => .ok false
    | .ifc _ _, .ni => .ok false
    | .ifc tx x, .ifc ty y => match Nat.beq tx ty with
      | false => .ok false
      | true => match P.info? tx with
        | some i => match i.comparable with
          | true => eqV P 20 tx x y
          | false => .no 76
        | none => .no 77
    | _, _ => .no 78
  | _ => .no 79
theorem beq_false_ne {a b : Nat} (h : Nat.beq a b = false) : a ≠ b := fun e => by subst e; rw [Nat.beq_refl] at h; cases h
theorem cmpA_ok {t : TypeId} {x y : Operand} {a b : AV} {r : Bool} {σ : Sg} {u v : Value} (op : BinOp) (h : cmpA P t (orB (isCst x) (isCst y)) a b = .ok r) (hu : V σ a u) (hv : V σ b v) (w : World) :
    (eqGuard op t x y u v).run P w = .ok () w ∧ (Op.equal t u v).run P w = .ok r w := by
  unfold cmpA at h
  split at h
  case h_9 => cases h
  case h_1 ht =>
    refine ⟨?_, eqV_ok 3 10000 t a b r u v (by omega) h hu hv⟩
    simp only [eqV, ht] at h
    split at h
    case h_2 => cases h
    simp only [V] at hu hv
    subst hu; subst hv
    cases op <;> rfl
  case h_2 ht =>
    split at h
    case h_2 => cases h
    rename_i hg
    refine ⟨?_, eqV_ok 20 10000 t a b r u v (by omega) h hu hv⟩
    simp only [eqV, ht] at h
    split at h
    case h_2 => cases h
    simp only [V] at hu hv
    obtain ⟨l, _, rfl⟩ := hu
    obtain ⟨m, _, rfl⟩ := hv
    exact run_eqGuard_agg w op t x y _ _ hg
  case h_3 ht =>
    split at h
    case h_2 => cases h
    rename_i hg
    refine ⟨?_, eqV_ok 20 10000 t a b r u v (by omega) h hu hv⟩
    simp only [eqV, ht] at h
    split at h
    case h_2 => cases h
    simp only [V] at hu hv
    obtain ⟨l, _, rfl⟩ := hu
    obtain ⟨m, _, rfl⟩ := hv
    exact run_eqGuard_agg w op t x y _ _ hg
  case h_4 e ht =>
    have hg : ∀ p q, (eqGuard op t x y (.pointer p) (.pointer q)).run P w = .ok () w := by intro p q; cases op <;> rfl
    split at h
    case h_5 => cases h
    · cases h; simp only [V] at hu hv; subst hu; subst hv
      exact ⟨hg _ _, by rw [Op.equal, Op.maxDepth, Op.equalIn, Sem.run_bind, run_underlying ht, Result.andThen_ok]; rfl⟩
    · cases h; simp only [V] at hu hv; subst hu; obtain ⟨p, _, rfl⟩ := hv
      exact ⟨hg _ _, by rw [Op.equal, Op.maxDepth, Op.equalIn, Sem.run_bind, run_underlying ht, Result.andThen_ok]; rfl⟩
    · cases h; simp only [V] at hu hv; subst hv; obtain ⟨p, _, rfl⟩ := hu
      exact ⟨hg _ _, by rw [Op.equal, Op.maxDepth, Op.equalIn, Sem.run_bind, run_underlying ht, Result.andThen_ok]; rfl⟩
    · rename_i bx o by_ ou
      split at h
      case h_2 => cases h
      rename_i i hxy hi
      split at h
      case h_1 => cases h
      rename_i sz hsz
      cases h
      have exy := beq_iff.1 hxy
      subst exy
      simp only [V] at hu hv
      obtain ⟨p, hp, rfl⟩ := hu
      obtain ⟨q, hq, rfl⟩ := hv
      rw [hp] at hq; cases hq
      refine ⟨hg _ _, ?_⟩
      have e1 : i.size ≠ 0 := by omega
      rw [Op.equal, Op.maxDepth, Op.equalIn, Sem.run_bind, run_underlying ht, Result.andThen_ok]
      simp only [Sem.run_bind, Result.andThen_ok, run_sizeOf hi, ne_eq, e1, not_false_eq_true, if_true, sameAddr, BEq.rfl, Sem.run_pure]
      congr 1
      rw [Bool.eq_iff_iff, beq_iff]
      simp
  case h_5 e ht =>
    have hg : ∀ p n c q m d, (eqGuard op t x y (.slice p n c) (.slice q m d)).run P w = .ok () w := by intros; cases op <;> rfl
    split at h
    case h_4 => cases h
    · cases h; simp only [V] at hu hv; subst hu; subst hv
      exact ⟨hg _ _ _ _ _ _, by rw [Op.equal, Op.maxDepth, Op.equalIn, Sem.run_bind, run_underlying ht, Result.andThen_ok]; rfl⟩
    · cases h; simp only [V] at hu hv; subst hu; obtain ⟨p, κ, _, rfl, _⟩ := hv
      exact ⟨hg _ _ _ _ _ _, by rw [Op.equal, Op.maxDepth, Op.equalIn, Sem.run_bind, run_underlying ht, Result.andThen_ok]; rfl⟩
    · cases h; simp only [V] at hu hv; subst hv; obtain ⟨p, κ, _, rfl, _⟩ := hu
      exact ⟨hg _ _ _ _ _ _, by rw [Op.equal, Op.maxDepth, Op.equalIn, Sem.run_bind, run_underlying ht, Result.andThen_ok]; rfl⟩
  case h_6 e ht =>
    have hg : ∀ p q, (eqGuard op t x y (.map p) (.map q)).run P w = .ok () w := by intros; cases op <;> rfl
    split at h
    case h_4 => cases h
    · cases h; simp only [V] at hu hv; subst hu; subst hv
      exact ⟨hg _ _, by rw [Op.equal, Op.maxDepth, Op.equalIn, Sem.run_bind, run_underlying ht, Result.andThen_ok]; rfl⟩
    · cases h; simp only [V] at hu hv; subst hu; obtain ⟨p, _, rfl⟩ := hv
      exact ⟨hg _ _, by rw [Op.equal, Op.maxDepth, Op.equalIn, Sem.run_bind, run_underlying ht, Result.andThen_ok]; rfl⟩
    · cases h; simp only [V] at hu hv; subst hv; obtain ⟨p, _, rfl⟩ := hu
      exact ⟨hg _ _, by rw [Op.equal, Op.maxDepth, Op.equalIn, Sem.run_bind, run_underlying ht, Result.andThen_ok]; rfl⟩
  case h_7 e ht =>
    split at h
    case h_4 => cases h
    · cases h; simp only [V] at hu hv; subst hu; subst hv
      exact ⟨by cases op <;> rfl, by rw [Op.equal, Op.maxDepth, Op.equalIn, Sem.run_bind, run_underlying ht, Result.andThen_ok]; rfl⟩
    · cases h; simp only [V] at hu hv; subst hu; obtain ⟨_, _, _, _, rfl⟩ := hv
      exact ⟨by cases op <;> rfl, by rw [Op.equal, Op.maxDepth, Op.equalIn, Sem.run_bind, run_underlying ht, Result.andThen_ok]; rfl⟩
    · cases h; simp only [V] at hu hv; subst hv; obtain ⟨_, _, _, _, rfl⟩ := hu
      exact ⟨by cases op <;> rfl, by rw [Op.equal, Op.maxDepth, Op.equalIn, Sem.run_bind, run_underlying ht, Result.andThen_ok]; rfl⟩
  case h_8 ht =>
    split at h
    case h_5 => cases h
    · split at h
      case h_2 => cases h
      rename_i hc
      cases h; simp only [V] at hu hv; subst hu; subst hv
      refine ⟨?_, by rw [Op.equal, Op.maxDepth, Op.equalIn, Sem.run_bind, run_underlying ht, Result.andThen_ok]; rfl⟩
      cases x <;> cases y <;> first | (cases op <;> rfl) | (exfalso; revert hc; simp [isCst, orB]; done)
    · cases h; simp only [V] at hu hv; subst hu; obtain ⟨_, _, rfl⟩ := hv
      exact ⟨by cases op <;> rfl, by rw [Op.equal, Op.maxDepth, Op.equalIn, Sem.run_bind, run_underlying ht, Result.andThen_ok]; rfl⟩
    · cases h; simp only [V] at hu hv; subst hv; obtain ⟨_, _, rfl⟩ := hu
      exact ⟨by cases op <;> rfl, by rw [Op.equal, Op.maxDepth, Op.equalIn, Sem.run_bind, run_underlying ht, Result.andThen_ok]; rfl⟩
    · rename_i tx ax ty ay
      simp only [V] at hu hv
      obtain ⟨ux, hux, rfl⟩ := hu
      obtain ⟨vy, hvy, rfl⟩ := hv
      refine ⟨by cases op <;> rfl, ?_⟩
      split at h
      · rename_i hxy
        cases h
        have hne := beq_false_ne hxy
        rw [Op.equal, Op.maxDepth, Op.equalIn, Sem.run_bind, run_underlying ht, Result.andThen_ok]
        simp only [ne_eq, hne, not_false_eq_true, if_true, Sem.run_pure]
      · rename_i hxy
        have exy := beq_iff.1 hxy
        subst exy
        split at h
        case h_2 => cases h
        rename_i i hi
        split at h
        case h_2 => cases h
        rename_i hcmp
        have := eqV_ok (w := w) 20 9999 tx ax ay r ux vy (by omega) h hux hvy
        rw [Op.equal, Op.maxDepth, Op.equalIn]
        simp only [Sem.run_bind, run_underlying ht, Result.andThen_ok, ne_eq, not_true_eq_false, if_false, typeInfo, run_program, hi, Sem.run_pure, hcmp, Bool.not_true, Bool.false_eq_true]
        exact this
end
end Go.Proofs.YtocabeobfbhajaaGreatDoor.Sx
