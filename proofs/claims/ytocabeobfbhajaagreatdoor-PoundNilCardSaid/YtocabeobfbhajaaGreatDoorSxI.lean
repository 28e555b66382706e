/- The reckoner's operations that only reckon: addresses, parts, slices, interfaces. No program is named here. -/
import Derived.Test.YtocabeobfbhajaaGreatDoorSxH
set_option linter.unusedVariables false
set_option linter.unusedSimpArgs false
namespace Go.Proofs.YtocabeobfbhajaaGreatDoor.Sx
noncomputable section
open Go Go.RowKit
variable {P : Program}

/-- The size in cells of a type. -/
def szA (P : Program) (t : TypeId) : R Nat := match P.info? t with
  | some i => .ok i.size
  | none => .no 100
theorem szA_ok {t : TypeId} {n : Nat} (h : szA P t = .ok n) (w : World) : (sizeOf t).run P w = .ok n w := by
  unfold szA at h
  split at h
  · rename_i i hi; cases h; exact run_sizeOf hi w
  · cases h
def fieldAtA (P : Program) (s : TypeId) (a : AV) (f : Nat) : R AV := match P.underlying s with
  | some (.struct fs) => match fs.toList[f]? with
    | some fd => (szA P fd.type).bind fun n => match n with
      | 0 => .no 101
      | _ + 1 => match a with
        | .ptr b o => .ok (.ptr b (Nat.add o fd.offset))
        | _ => .no 102
    | none => .no 103
  | _ => .no 104
theorem addr_add (b o n : Nat) : (⟨b, o, none⟩ : Addr).add n = ⟨b, o + n, none⟩ := Addr.add_mid b o n
theorem fieldAtA_ok {s : TypeId} {a c : AV} {f : Nat} {σ : Sg} {u : Value} (h : fieldAtA P s a f = .ok c) (hu : V σ a u) (w : World) : ∃ z, (Instr.fieldAt s u f).run P w = .ok z w ∧ V σ c z := by
  unfold fieldAtA at h
  split at h
  case h_2 => cases h
  rename_i fs hs
  split at h
  case h_2 => cases h
  rename_i fd hf
  obtain ⟨n, h1, h⟩ := R.bind_ok h
  split at h
  case h_1 => cases h
  split at h
  case h_2 => cases h
  rename_i b o _
  cases h
  simp only [V] at hu
  obtain ⟨p, hp, rfl⟩ := hu
  refine ⟨.pointer (some ⟨p.1, p.2 + o + fd.offset, none⟩), ?_, by simp only [V]; exact ⟨p, hp, by rw [Nat.add_eq, Nat.add_assoc]⟩⟩
  have hf' : fs[f]? = some fd := by rw [← Array.getElem?_toList]; exact hf
  unfold Instr.fieldAt
  rw [Sem.run_bind, run_underlying hs, Result.andThen_ok]
  simp only [hf', Sem.run_bind, Instr.sureAddr, Sem.run_pure, Result.andThen_ok, fieldPlace, szA_ok h1, Nat.add_eq_zero_iff, Nat.succ_ne_self, and_false, if_false, addr_add]
  simp [addr_add]
def fieldA (P : Program) (t : TypeId) (a : AV) (f : Nat) : R AV := match P.underlying t with
  | some (.struct fs) => match fs.toList[f]? with
    | some fd => match a with
      | .agg cs => partA P fd.type cs fd.offset
      | _ => .no 105
    | none => .no 106
  | _ => .no 107
theorem fieldA_ok {s : TypeId} {a c : AV} {f : Nat} {σ : Sg} {u : Value} (h : fieldA P s a f = .ok c) (hu : V σ a u) (w : World) : ∃ z, (Instr.field s u f).run P w = .ok z w ∧ V σ c z := by
  unfold fieldA at h
  split at h
  case h_2 => cases h
  rename_i fs hs
  split at h
  case h_2 => cases h
  rename_i fd hf
  split at h
  case h_2 => cases h
  rename_i cs
  simp only [V] at hu
  obtain ⟨l, hl, rfl⟩ := hu
  obtain ⟨x, h1, h2⟩ := partA_ok h hl w
  have hf' : fs[f]? = some fd := by rw [← Array.getElem?_toList]; exact hf
  refine ⟨x, ?_, h2⟩
  unfold Instr.field
  rw [Sem.run_bind, run_underlying hs, Result.andThen_ok]
  simp only [hf', Sem.run_bind, asAgg, Sem.run_pure, Result.andThen_ok, h1]
/-- An index. -/
def idxA : AV → R Nat
  | .int _ (.ofNat i) => .ok i
  | _ => .no 108
theorem idxA_ok {a : AV} {i : Nat} {σ : Sg} {u : Value} (h : idxA a = .ok i) (hu : V σ a u) : ∃ k, u = .int k (i : Int) := by
  unfold idxA at h
  split at h
  · cases h; simp only [V] at hu; subst hu; exact ⟨_, rfl⟩
  · cases h
def indexAtA (P : Program) (t : TypeId) (a i : AV) : R AV := (idxA i).bind fun i => match P.underlying t, a with
  | some (.array n e), .ptr b o => match Nat.ble (Nat.succ i) n with
    | true => (szA P e).bind fun s => .ok (.ptr b (Nat.add o (Nat.mul i s)))
    | false => .no 109
  | some (.slice e), .sl b o n c x => match Nat.ble (Nat.succ i) n with
    | true => (szA P e).bind fun s => .ok (.ptr b (Nat.add o (Nat.mul i s)))
    | false => .no 110
  | _, _ => .no 111
theorem indexAtA_ok {t : TypeId} {a i c : AV} {σ : Sg} {u v : Value} (h : indexAtA P t a i = .ok c) (hu : V σ a u) (hv : V σ i v) (w : World) : ∃ z, (Instr.indexAt t u v).run P w = .ok z w ∧ V σ c z := by
  obtain ⟨j, h1, h⟩ := R.bind_ok h
  obtain ⟨k, rfl⟩ := idxA_ok h1 hv
  split at h
  case h_3 => cases h
  · rename_i n e b o ht _
    split at h
    case h_2 => cases h
    rename_i hb
    have hb' : j < n := Nat.le_of_ble_eq_true hb
    obtain ⟨s, h2, h⟩ := R.bind_ok h
    cases h
    simp only [V] at hu
    obtain ⟨p, hp, rfl⟩ := hu
    refine ⟨.pointer (some ⟨p.1, p.2 + o + j * s, none⟩), ?_, by simp only [V]; exact ⟨p, hp, by rw [Nat.add_eq, Nat.mul_eq, Nat.add_assoc]⟩⟩
    have hl : (0 : Int) ≤ (j : Int) ∧ (j : Int) < (n : Int) := ⟨by omega, by omega⟩
    simp only [Instr.indexAt, asIntOf, Sem.run_bind, Sem.run_pure, Result.andThen_ok, run_underlying ht, Instr.sureAddr, hl, and_self, if_true, szA_ok h2, Int.toNat_natCast, addr_add]
  · rename_i e b o n c x ht _
    split at h
    case h_2 => cases h
    rename_i hb
    have hb' : j < n := Nat.le_of_ble_eq_true hb
    obtain ⟨s, h2, h⟩ := R.bind_ok h
    cases h
    simp only [V] at hu
    obtain ⟨p, κ, hp, rfl, _⟩ := hu
    refine ⟨.pointer (some ⟨p.1, p.2 + o + j * s, none⟩), ?_, by simp only [V]; exact ⟨p, hp, by rw [Nat.add_eq, Nat.mul_eq, Nat.add_assoc]⟩⟩
    have hl : (0 : Int) ≤ (j : Int) ∧ (j : Int) < (n : Int) := ⟨by omega, by omega⟩
    simp only [Instr.indexAt, asIntOf, Sem.run_bind, Sem.run_pure, Result.andThen_ok, run_underlying ht, hl, and_self, if_true, szA_ok h2, Int.toNat_natCast, addr_add]
def indexA (P : Program) (t : TypeId) (a i : AV) : R AV := (idxA i).bind fun i => match P.underlying t, a with
  | some (.array n e), .agg cs => match Nat.ble (Nat.succ i) n with
    | true => (szA P e).bind fun s => partA P e cs (Nat.mul i s)
    | false => .no 112
  | some .string, .str n N => match Nat.ble (Nat.succ i) n with
    | true => .ok (.int .u8 (.ofNat (bget N i)))
    | false => .no 113
  | _, _ => .no 114
theorem bstr_get (n N i : Nat) (h : i < n) : (bstr n N)[i]? = some (UInt8.ofNat (bget N i)) := by
  have h1 : i < (bstr n N).size := by rw [bstr_size]; exact h
  rw [getElem?_pos (bstr n N) i h1]
  congr 1
  have h2 := unpack_bget n N i h
  rw [List.getElem?_eq_getElem (by rw [unpack_length]; exact h)] at h2
  simp only [bstr, ByteArray.getElem_eq_getElem_data, List.getElem_toArray]
  exact Option.some.inj h2
theorem indexA_ok {t : TypeId} {a i c : AV} {σ : Sg} {u v : Value} (h : indexA P t a i = .ok c) (hu : V σ a u) (hv : V σ i v) (w : World) : ∃ z, (Instr.index t u v).run P w = .ok z w ∧ V σ c z := by
  obtain ⟨j, h1, h⟩ := R.bind_ok h
  obtain ⟨k, rfl⟩ := idxA_ok h1 hv
  split at h
  case h_3 => cases h
  · rename_i n e cs ht _
    split at h
    case h_2 => cases h
    rename_i hb
    have hb' : j < n := Nat.le_of_ble_eq_true hb
    obtain ⟨s, h2, h⟩ := R.bind_ok h
    simp only [V] at hu
    obtain ⟨l, hl, rfl⟩ := hu
    obtain ⟨x, h3, h4⟩ := partA_ok h hl w
    refine ⟨x, ?_, h4⟩
    have hl : (0 : Int) ≤ (j : Int) ∧ (j : Int) < (n : Int) := ⟨by omega, by omega⟩
    rw [Nat.mul_eq] at h3
    simp only [Instr.index, asIntOf, Sem.run_bind, Sem.run_pure, Result.andThen_ok, run_underlying ht, hl, and_self, if_true, szA_ok h2, Int.toNat_natCast, h3]
  · rename_i n N ht _
    split at h
    case h_2 => cases h
    rename_i hb
    have hb' : j < n := Nat.le_of_ble_eq_true hb
    cases h
    simp only [V] at hu
    subst hu
    refine ⟨.int .u8 (bget N j), ?_, by simp only [V]; rfl⟩
    have hl : (0 : Int) ≤ (j : Int) := by omega
    have hg := bstr_get n N j hb'
    change (Instr.index t (.string (bstr n N)) _).run P w = _
    simp only [Instr.index, asIntOf, Sem.run_bind, Sem.run_pure, Result.andThen_ok, run_underlying ht, hl, if_true, Int.toNat_natCast, hg]
    have := bget_lt N j
    simp [Nat.mod_eq_of_lt this]

/-! ### Slices -/
/-- A bound: none stands for the default. -/
def bndA (d : Nat) : Option AV → R Nat
  | none => .ok d
  | some a => idxA a
/-- x[l:h] where the capacity is c (x = 0) or more (x > 0). -/
def slcV (b o c x s l h : Nat) : R AV := match x with
  | 0 => match Nat.beq c l with
    | true => .ok (.sl b o (Nat.sub h l) 0 0)
    | false => .ok (.sl b (Nat.add o (Nat.mul l s)) (Nat.sub h l) (Nat.sub c l) 0)
  | x + 1 => match Nat.beq c l with
    | true => match l with
      | 0 => .ok (.sl b o h c (Nat.succ x))
      | _ + 1 => .no 117
    | false => .ok (.sl b (Nat.add o (Nat.mul l s)) (Nat.sub h l) (Nat.sub c l) (Nat.succ x))
/-- The bounds of x[l:h] and x[l:h:m], and the capacity that is left. -/
def slcB (n c x : Nat) (lo hi mx : Option AV) : R (Nat × Nat × Nat × Nat) := match mx with
  | none => (bndA n hi).bind fun h => (bndA 0 lo).bind fun l => match Nat.ble h c, Nat.ble l h with
    | true, true => .ok (l, h, c, x)
    | _, _ => .no 118
  | some m => match hi with
    | some hi => (idxA m).bind fun m => (idxA hi).bind fun h => (bndA 0 lo).bind fun l => match Nat.ble m c, Nat.ble h m, Nat.ble l h with
      | true, true, true => .ok (l, h, m, 0)
      | _, _, _ => .no 119
    | none => .no 123
def slcA (P : Program) (t : TypeId) (a : AV) (lo hi mx : Option AV) : R AV := match P.underlying t, a with
  | some .string, .str n N => match mx with
    | some _ => .no 115
    | none => (bndA n hi).bind fun h => (bndA 0 lo).bind fun l => match Nat.ble h n, Nat.ble l h with
      | true, true => .ok (.str (Nat.sub h l) (bsub N l (Nat.sub h l)))
      | _, _ => .no 116
  | some (.slice e), .sl b o n c x => (slcB n c x lo hi mx).bind fun q => (szA P e).bind fun s => slcV b o q.2.2.1 q.2.2.2 s q.1 q.2.1
  | some (.slice e), .ns => (slcB 0 0 0 lo hi mx).bind fun q => (szA P e).bind fun s => .ok .ns
  | some (.pointer ar), .ptr b o => match P.underlying ar with
    | some (.array n e) => match mx with
      | none => (slcB n n 0 lo hi none).bind fun q => (szA P e).bind fun s => slcV b o n 0 s q.1 q.2.1
      | some _ => .no 125
    | _ => .no 124
  | some (.array n e), .ptr b o => (slcB n n 0 lo hi mx).bind fun q => (szA P e).bind fun s => slcV b o q.2.2.1 0 s q.1 q.2.1
  | _, _ => .no 127
/-- A bound that is given, or none, and what it is held to be. -/
inductive VO (σ : Sg) : Option AV → Option Value → Prop
  | none : VO σ none none
  | some {a : AV} {v : Value} (h : V σ a v) : VO σ (some a) (some v)
theorem run_bounds {σ : Sg} {isS : Bool} {n c : Nat} {lo hi : Option AV} {l' h' : Option Value} {h l : Nat} (e1 : bndA n hi = .ok h) (e2 : bndA 0 lo = .ok l) (b1 : h ≤ c) (b2 : l ≤ h) (v1 : VO σ lo l') (v2 : VO σ hi h') (w : World) :
    (Instr.sliceBounds isS n c l' h' none).run P w = .ok (l, h, c) w := by
  have g1 : ((match h' with | some v => Instr.sliceBound v c (if isS then .sliceAcap else .sliceAlen) | none => pure n) : Sem Nat).run P w = .ok h w := by
    cases v2 with
    | none => cases e1; rfl
    | some hv =>
      obtain ⟨k, rfl⟩ := idxA_ok e1 hv
      have : (0 : Int) ≤ (h : Int) ∧ (h : Int) ≤ (c : Int) := ⟨by omega, by omega⟩
      simp only [Instr.sliceBound, asIntOf, Sem.run_bind, Sem.run_pure, Result.andThen_ok, this, and_self, if_true, Int.toNat_natCast]
  have g2 : ((match l' with | some v => Instr.sliceBound v h .sliceB | none => pure 0) : Sem Nat).run P w = .ok l w := by
    cases v1 with
    | none => cases e2; rfl
    | some hv =>
      obtain ⟨k, rfl⟩ := idxA_ok e2 hv
      have : (0 : Int) ≤ (l : Int) ∧ (l : Int) ≤ (h : Int) := ⟨by omega, by omega⟩
      simp only [Instr.sliceBound, asIntOf, Sem.run_bind, Sem.run_pure, Result.andThen_ok, this, and_self, if_true, Int.toNat_natCast]
  unfold Instr.sliceBounds
  cases v2 with
  | none =>
    cases v1 with
    | none => cases e1; cases e2; rfl
    | some hv =>
      cases e1
      simp only [Sem.run_bind, Sem.run_pure, Result.andThen_ok, Option.isSome_none, Bool.false_eq_true, if_false] at g1 g2 ⊢
      rw [g2]; rfl
  | some hv2 =>
    cases v1 with
    | none =>
      cases e2
      simp only [Sem.run_bind, Sem.run_pure, Result.andThen_ok, Option.isSome_none, Bool.false_eq_true, if_false] at g1 g2 ⊢
      rw [g1]; rfl
    | some hv =>
      simp only [Sem.run_bind, Sem.run_pure, Result.andThen_ok, Option.isSome_none, Bool.false_eq_true, if_false] at g1 g2 ⊢
      rw [g1]
      simp only [Result.andThen_ok]
      rw [g2]; rfl
end
end Go.Proofs.YtocabeobfbhajaaGreatDoor.Sx
