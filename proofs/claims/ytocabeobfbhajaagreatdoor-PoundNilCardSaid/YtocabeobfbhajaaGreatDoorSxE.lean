/- The reckoner's operations on values: constants, numbers, strings. No program is named here. -/
import Derived.Test.YtocabeobfbhajaaGreatDoorSxR
import Derived.Laws.StructEq
import Derived.WalkSpells
import Derived.WalkLawsBesides
set_option linter.unusedVariables false
set_option linter.unusedSimpArgs false
namespace Go.Proofs.YtocabeobfbhajaaGreatDoor.Sx
noncomputable section
open Go Go.RowKit

/-! ### Constants -/
def strA (s : ByteArray) : AV := .str s.size (pack s.data.toList)
theorem strA_ok (σ : Sg) (s : ByteArray) : V σ (strA s) (.string s) := by
  unfold strA
  simp only [V]
  congr 1
  apply ByteArray.ext
  have h := unpack_pack s.data.toList
  rw [Array.length_toList] at h
  show s.data = (unpack s.data.size (pack s.data.toList)).toArray
  rw [h]
def ofS : Value → R AV
  | .bool b => .ok (.bool b)
  | .int k n => .ok (.int k n)
  | .string s => .ok (strA s)
  | .pointer none => .ok .np
  | .slice none n c => match n, c with
    | 0, 0 => .ok .ns
    | _, _ => .no 30
  | .map none => .ok .nm
  | .nilFunc => .ok .nf
  | .nilIface => .ok .ni
  | _ => .no 31
theorem ofS_ok {v : Value} {a : AV} (h : ofS v = .ok a) (σ : Sg) : V σ a v := by
  unfold ofS at h
  split at h
  case h_5 => split at h <;> cases h <;> simp [V]
  all_goals first | cases h; done | (cases h; first | exact strA_ok σ _ | simp [V])
def ofCs : List Value → R (List AV)
  | [] => .ok []
  | v :: r => (ofS v).bind fun a => (ofCs r).bind fun t => .ok (ccons a t)
theorem ofCs_ok : ∀ {l : List Value} {t : List AV}, ofCs l = .ok t → ∀ σ, Cs σ t l
  | [], t, h, σ => by cases h; simp [Cs]
  | v :: r, t, h, σ => by
    obtain ⟨a, h1, h⟩ := R.bind_ok h
    obtain ⟨u, h2, h⟩ := R.bind_ok h
    cases h
    exact Cs_ccons (C1_V (ofS_ok h1 σ)) (ofCs_ok h2 σ)
def ofV : Value → R AV
  | .agg cs => (ofCs cs.toList).bind fun t => .ok (.agg t)
  | .tuple vs => match vs.toList with
    | [] => .ok (.tup [])
    | _ => .no 32
  | v => ofS v
theorem ofV_ok {v : Value} {a : AV} (h : ofV v = .ok a) (σ : Sg) : V σ a v := by
  unfold ofV at h
  split at h
  · rename_i cs
    obtain ⟨t, h1, h⟩ := R.bind_ok h
    cases h
    simp only [V]
    exact ⟨_, ofCs_ok h1 σ, by rw [Array.toArray_toList]⟩
  · rename_i vs
    split at h
    · rename_i e
      cases h
      simp only [V, Vs]
      exact ⟨[], rfl, by rw [← e, Array.toArray_toList]⟩
    · cases h
  · exact ofS_ok h σ

/-! ### Operands -/
def Rd (x : Operand) (t : Nat) : Prop := x = .tmp t
noncomputable def opd (G : Nat) (T : Tm) : Operand → R AV
  | .tmp t => .ok (tget T t)
  | .const v => ofV v
  | .global g => match Nat.ble (Nat.succ g) G with
    | true => .ok (.ptr g 0)
    | false => .no 33
  | .func f => .ok (.fn (.func f) [] [])
/-- What an operand is held to stand for. -/
structure Od (G : Nat) (σ : Sg) (T : Nat → AV) (a : Act) (x : Operand) : Prop where
  tmp : ∀ t, x = .tmp t → V σ (T t) (a.tmps.getD t undef)
  glob : ∀ g, g < G → σ.bl g = some (g, 0)
theorem opd_ok {G : Nat} {σ : Sg} {T : Tm} {a : Act} {x : Operand} {v : AV} (h : opd G T x = .ok v) (d : Od G σ (tget T) a x) : V σ v (a.eval x) := by
  unfold opd at h
  split at h
  · rename_i t; cases h; exact d.tmp t rfl
  · exact ofV_ok h σ
  · rename_i g
    split at h
    · rename_i hb
      cases h
      simp only [V, Act.eval]
      exact ⟨(g, 0), d.glob g (Nat.le_of_ble_eq_true hb), rfl⟩
    · cases h
  · cases h; simp [V, Vs, Act.eval]

/-! ### Numbers -/
def hiN : IntKind → Nat
  | .i8 => 127 | .i16 => 32767 | .i32 => 2147483647 | .i64 => 9223372036854775807
  | .u8 => 255 | .u16 => 65535 | .u32 => 4294967295 | .u64 => 18446744073709551615
def modN : IntKind → Nat
  | .i8 | .u8 => 256 | .i16 | .u16 => 65536 | .i32 | .u32 => 4294967296 | .i64 | .u64 => 18446744073709551616
/-- n mod m, for a number n. -/
def imodN (n : Int) (m : Nat) : Nat := match n with
  | .ofNat a => Nat.mod a m
  | .negSucc a => Nat.sub m (Nat.succ (Nat.mod a m))
def wrapA (k : IntKind) (n : Int) : Int :=
  match n with
  | .ofNat m => match Nat.ble m (hiN k) with
    | true => .ofNat m
    | false => let r := Nat.mod m (modN k); match Nat.ble r (hiN k) with
      | true => .ofNat r
      | false => .negSucc (Nat.sub (Nat.sub (modN k) r) 1)
  | .negSucc m => let r := Nat.sub (modN k) (Nat.succ (Nat.mod m (modN k))); match Nat.ble r (hiN k) with
      | true => .ofNat r
      | false => .negSucc (Nat.sub (Nat.sub (modN k) r) 1)
theorem wrapA_eq (k : IntKind) (n : Int) : wrapA k n = k.wrap n := by
  have key : ∀ (r : Nat), r < modN k → k.wrap r = match Nat.ble r (hiN k) with
      | true => .ofNat r
      | false => .negSucc (Nat.sub (Nat.sub (modN k) r) 1) := by
    intro r hr
    cases hb : Nat.ble r (hiN k) with
    | true =>
      have hb' := Nat.le_of_ble_eq_true hb
      simp only [Int.ofNat_eq_natCast]
      cases k <;> simp only [hiN, modN] at hb' hr <;> simp [IntKind.wrap, IntKind.bits, IntKind.signed] <;> omega
    | false =>
      have hb' := ble_false hb
      simp only [Nat.sub_eq, Int.negSucc_eq]
      cases k <;> simp only [hiN, modN] at hb' hr <;> simp [IntKind.wrap, IntKind.bits, IntKind.signed, modN] <;> omega
  have hmod : ∀ (n : Int) (r : Nat), (r : Int) = n % (modN k : Int) → k.wrap n = k.wrap r := by
    intro n r h
    have e : ((modN k : Nat) : Int) = 2 ^ k.bits := by cases k <;> rfl
    have : (r : Int) % (2 ^ k.bits : Int) = n % (2 ^ k.bits : Int) := by rw [h, e, Int.emod_emod]
    unfold IntKind.wrap
    rw [this]
  have hpos : 0 < modN k := by cases k <;> simp [modN]
  unfold wrapA
  cases n with
  | ofNat m =>
    dsimp only
    cases hb : Nat.ble m (hiN k) with
    | true =>
      have hb' := Nat.le_of_ble_eq_true hb
      have := key m (by cases k <;> simp only [hiN, modN] at * <;> omega)
      rw [hb] at this
      exact this.symm
    | false =>
      dsimp only
      rw [hmod (Int.ofNat m) (m % modN k) (by simp), key _ (Nat.mod_lt _ hpos)]
      rfl
  | negSucc m =>
    dsimp only
    have hlt := Nat.mod_lt m hpos
    rw [hmod (Int.negSucc m) (modN k - Nat.succ (m % modN k)) (by
      rw [Int.negSucc_emod m (by omega)]
      omega), key _ (by omega)]
    rfl
def eqI : Int → Int → Bool
  | .ofNat a, .ofNat b => Nat.beq a b
  | .negSucc a, .negSucc b => Nat.beq a b
  | _, _ => false
theorem beq_iff {a b : Nat} : Nat.beq a b = true ↔ a = b := ⟨Nat.eq_of_beq_eq_true, fun h => by subst h; exact Nat.beq_refl a⟩
theorem eqI_eq (a b : Int) : eqI a b = decide (a = b) := by
  rw [Bool.eq_iff_iff, decide_eq_true_iff]
  cases a <;> cases b <;> simp [eqI, beq_iff] <;> omega
def leI : Int → Int → Bool
  | .ofNat a, .ofNat b => Nat.ble a b
  | .negSucc a, .negSucc b => Nat.ble b a
  | .negSucc _, .ofNat _ => true
  | .ofNat _, .negSucc _ => false
theorem ble_iff {a b : Nat} : Nat.ble a b = true ↔ a ≤ b := ⟨Nat.le_of_ble_eq_true, Nat.ble_eq_true_of_le⟩
theorem leI_eq (a b : Int) : leI a b = decide (a ≤ b) := by
  rw [Bool.eq_iff_iff, decide_eq_true_iff]
  cases a <;> cases b <;> simp [leI, ble_iff] <;> omega
def addI : Int → Int → Int
  | .ofNat a, .ofNat b => .ofNat (Nat.add a b)
  | a, b => Int.add a b
theorem addI_eq (a b : Int) : addI a b = a + b := by cases a <;> cases b <;> rfl
def subI : Int → Int → Int
  | .ofNat a, .ofNat b => match Nat.ble b a with
    | true => .ofNat (Nat.sub a b)
    | false => .negSucc (Nat.sub (Nat.sub b a) 1)
  | a, b => Int.sub a b
theorem subI_eq (a b : Int) : subI a b = a - b := by
  unfold subI
  split
  · rename_i a b
    cases h : Nat.ble b a with
    | true => have := Nat.le_of_ble_eq_true h; simp only [Nat.sub_eq, Int.ofNat_eq_natCast]; omega
    | false => have := ble_false h; simp only [Nat.sub_eq, Int.ofNat_eq_natCast, Int.negSucc_eq]; omega
  · rfl
def mulI : Int → Int → Int
  | .ofNat a, .ofNat b => .ofNat (Nat.mul a b)
  | a, b => Int.mul a b
theorem mulI_eq (a b : Int) : mulI a b = a * b := by cases a <;> cases b <;> rfl
end
end Go.Proofs.YtocabeobfbhajaaGreatDoor.Sx
