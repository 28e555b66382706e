/- The reckoner's operations that only reckon. No program is named here. -/
import Derived.Test.YtocabeobfbhajaaGreatDoorSxG
set_option linter.unusedVariables false
set_option linter.unusedSimpArgs false
namespace Go.Proofs.YtocabeobfbhajaaGreatDoor.Sx
noncomputable section
open Go Go.RowKit
variable {P : Program}

def notNum : AV → Bool
  | .int _ _ | .str _ _ | .sym _ | .top => false
  | _ => true
def binA (P : Program) (op : BinOp) (t : TypeId) (cst : Bool) (a b : AV) : R AV := match a, b with
  | .int k m, .int k' n => match op with
    | .shl => shA .shl k m n
    | .shr => shA .shr k m n
    | op => match kindEq k k' with
      | true => intA op k m n
      | false => .no 80
  | .str n N, .str m M => strOpA op n N m M
  | a, b => match notNum a with
    | true => match op with
      | .eql => (cmpA P t cst a b).bind fun r => .ok (.bool r)
      | .neq => (cmpA P t cst a b).bind fun r => .ok (.bool (notB r))
      | _ => .no 81
    | false => .no 84
theorem run_guard_int (op : BinOp) (t : TypeId) (x y : Operand) (k k' : IntKind) (m n : Int) (w : World) : (eqGuard op t x y (.int k m) (.int k' n)).run P w = .ok () w := by cases op <;> rfl
theorem run_guard_str (op : BinOp) (t : TypeId) (x y : Operand) (m n : ByteArray) (w : World) : (eqGuard op t x y (.string m) (.string n)).run P w = .ok () w := by cases op <;> rfl
theorem run_bin_eql {t : TypeId} {u v : Value} (w : World) {r : Bool} (h : (Op.equal t u v).run P w = .ok r w) (h1 : ∀ k n, u ≠ .int k n) (h2 : ∀ s, u ≠ .string s) (h3 : ∀ k n, u ≠ .float k n) (h4 : ∀ k n m, u ≠ .complex k n m) :
    (binOp .eql t u v).run P w = .ok (.bool r) w ∧ (binOp .neq t u v).run P w = .ok (.bool (!r)) w := by
  cases u <;> first
    | exact absurd rfl (h1 _ _)
    | exact absurd rfl (h2 _)
    | exact absurd rfl (h3 _ _)
    | exact absurd rfl (h4 _ _ _)
    | (constructor <;> (simp only [binOp]; rw [Sem.run_bind, h]; rfl))
theorem binA_ok {op : BinOp} {t : TypeId} {x y : Operand} {a b c : AV} {σ : Sg} {u v : Value} (h : binA P op t (orB (isCst x) (isCst y)) a b = .ok c) (hu : V σ a u) (hv : V σ b v) (w : World) :
    ∃ z, (do eqGuard op t x y u v; binOp op t u v : Sem Value).run P w = .ok z w ∧ V σ c z := by
  unfold binA at h
  split at h
  · rename_i k m k' n
    simp only [V] at hu hv
    subst hu; subst hv
    rw [Sem.run_bind, run_guard_int, Result.andThen_ok]
    split at h
    · exact shA_ok h σ w
    · exact shA_ok h σ w
    · split at h
      case h_2 => cases h
      rename_i hk
      have := kindEq_ok hk
      subst this
      exact intA_ok h σ w
  · rename_i n N m M
    simp only [V] at hu hv
    subst hu; subst hv
    rw [Sem.run_bind, run_guard_str, Result.andThen_ok]
    exact strOpA_ok h σ w
  · rename_i hi hs
    split at h
    case h_2 => cases h
    rename_i hnn
    have key : (∀ k n, u ≠ .int k n) ∧ (∀ s, u ≠ .string s) ∧ (∀ k n, u ≠ .float k n) ∧ (∀ k n m, u ≠ .complex k n m) := by
      cases a <;> simp [notNum] at hnn <;> simp only [V] at hu
      case ptr => obtain ⟨p, _, rfl⟩ := hu; exact ⟨by simp, by simp, by simp, by simp⟩
      case sl => obtain ⟨p, κ, _, rfl, _⟩ := hu; exact ⟨by simp, by simp, by simp, by simp⟩
      case mp => obtain ⟨p, _, rfl⟩ := hu; exact ⟨by simp, by simp, by simp, by simp⟩
      case yl => obtain ⟨p, _, rfl⟩ := hu; exact ⟨by simp, by simp, by simp, by simp⟩
      case fn => obtain ⟨_, _, _, _, rfl⟩ := hu; exact ⟨by simp, by simp, by simp, by simp⟩
      case ifc => obtain ⟨_, _, rfl⟩ := hu; exact ⟨by simp, by simp, by simp, by simp⟩
      case agg => obtain ⟨_, _, rfl⟩ := hu; exact ⟨by simp, by simp, by simp, by simp⟩
      case tup => obtain ⟨_, _, rfl⟩ := hu; exact ⟨by simp, by simp, by simp, by simp⟩
      all_goals (subst hu; exact ⟨by simp, by simp, by simp, by simp⟩)
    obtain ⟨k1, k2, k3, k4⟩ := key
    split at h
    case h_3 => cases h
    · obtain ⟨r, h1, h⟩ := R.bind_ok h
      cases h
      obtain ⟨e1, e2⟩ := cmpA_ok (P := P) .eql h1 hu hv w
      refine ⟨.bool r, ?_, by simp only [V]⟩
      rw [Sem.run_bind, e1, Result.andThen_ok]
      exact (run_bin_eql w e2 k1 k2 k3 k4).1
    · obtain ⟨r, h1, h⟩ := R.bind_ok h
      cases h
      obtain ⟨e1, e2⟩ := cmpA_ok (P := P) .neq h1 hu hv w
      refine ⟨.bool (!r), ?_, by simp only [V, notB_eq]⟩
      rw [Sem.run_bind, e1, Result.andThen_ok]
      exact (run_bin_eql w e2 k1 k2 k3 k4).2
/-- One operand. -/
def unA (op : UnOp) (a : AV) : R AV := match op, a with
  | .neg, .int k n => .ok (.int k (wrapA k (subI 0 n)))
  | .not, .bool b => .ok (.bool (notB b))
  | .xor, .int k n => intA .xor k (match k with | .i8 | .i16 | .i32 | .i64 => -1 | _ => .ofNat (hiN k)) n
  | _, _ => .no 82
theorem unA_ok {op : UnOp} {a c : AV} {σ : Sg} {u : Value} (h : unA op a = .ok c) (hu : V σ a u) (w : World) : ∃ z, (Op.unary op u).run P w = .ok z w ∧ V σ c z := by
  unfold unA at h
  split at h
  case h_4 => cases h
  · rename_i k n; cases h; simp only [V] at hu; subst hu
    exact ⟨.int k (k.wrap (0 - n)), by simp [Op.unary, Op.intArith], by simp [V, wrapA_eq, subI_eq]⟩
  · rename_i b; cases h; simp only [V] at hu; subst hu
    exact ⟨.bool (!b), rfl, by simp [V, notB_eq]⟩
  · rename_i k n; simp only [V] at hu; subst hu
    cases h
    have e : (match k with | .i8 | .i16 | .i32 | .i64 => (-1 : Int) | _ => .ofNat (hiN k)) = if k.signed then -1 else k.max := by cases k <;> rfl
    refine ⟨.int k (k.wrap (BitVec.ofInt k.bits (if k.signed then -1 else k.max) ^^^ BitVec.ofInt k.bits n).toNat), ?_, ?_⟩
    · simp only [Op.unary, Op.intBits, Sem.run_pure]
    · simp only [V]; rw [e]
/-- A value of another type. -/
def convA (P : Program) (src dst : TypeId) (a : AV) : R AV := match P.underlying src, P.underlying dst, a with
  | some _, some (.int k), .int _ n => .ok (.int k (wrapA k n))
  | some _, some .string, .str n N => .ok (.str n N)
  | _, _, _ => .no 83
theorem convA_ok {src dst : TypeId} {a c : AV} {σ : Sg} {u : Value} (h : convA P src dst a = .ok c) (hu : V σ a u) (w : World) : ∃ z, (convert src dst u).run P w = .ok z w ∧ V σ c z := by
  unfold convA at h
  split at h
  case h_3 => cases h
  · rename_i k k' n hs hd; cases h; simp only [V] at hu; subst hu
    exact ⟨.int k (k.wrap n), by simp [convert, run_underlying hs, run_underlying hd, Conv.intToInt], by simp [V, wrapA_eq]⟩
  · rename_i d n N hs hd; cases h; simp only [V] at hu; subst hu
    refine ⟨.string (bstr n N), ?_, by simp only [V]; rfl⟩
    unfold convert
    rw [Sem.run_bind, run_underlying hs, Result.andThen_ok, Sem.run_bind, run_underlying hd, Result.andThen_ok]
    cases d <;> rfl
end
end Go.Proofs.YtocabeobfbhajaaGreatDoor.Sx
