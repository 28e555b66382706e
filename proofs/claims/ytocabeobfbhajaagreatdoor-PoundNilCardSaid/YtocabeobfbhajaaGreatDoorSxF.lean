/- The reckoner's operations on values: equality, two operands, one operand. No program is named here. -/
import Derived.Test.YtocabeobfbhajaaGreatDoorSxE
set_option linter.unusedVariables false
set_option linter.unusedSimpArgs false
namespace Go.Proofs.YtocabeobfbhajaaGreatDoor.Sx
noncomputable section
open Go Go.RowKit
variable {P : Program}

/-! ### Parts of what is made of parts -/
def rowD : TypeDesc → Bool
  | .struct _ | .array _ _ => true
  | _ => false
theorem run_isAgg {t : TypeId} {d : TypeDesc} (h : P.underlying t = some d) (w : World) : (isAgg t).run P w = .ok (rowD d) w := by
  unfold isAgg
  rw [Sem.run_bind, run_underlying h]
  cases d <;> rfl
theorem run_sizeOf {t : TypeId} {i : TypeInfo} (h : P.info? t = some i) (w : World) : (sizeOf t).run P w = .ok i.size w := by
  simp [sizeOf, typeInfo, h]
/-- A part of a list of cells, by its type. -/
def partA (P : Program) (t : TypeId) (cs : List AV) (off : Nat) : R AV := match P.underlying t with
  | some d => match rowD d with
    | true => match P.info? t with
      | some i => (csub cs off i.size).bind fun r => .ok (.agg r)
      | none => .no 41
    | false => cget cs off
  | none => .no 40
theorem partA_ok {σ : Sg} {t : TypeId} {cs : List AV} {off : Nat} {v : AV} {l : List Value} (h : partA P t cs off = .ok v) (hc : Cs σ cs l) (w : World) :
    ∃ x, (part t l.toArray off).run P w = .ok x w ∧ V σ v x := by
  unfold partA at h
  split at h
  case h_2 => cases h
  rename_i d hd
  split at h
  · rename_i hr
    split at h
    case h_2 => cases h
    rename_i i hi
    obtain ⟨r, h1, h⟩ := R.bind_ok h
    cases h
    obtain ⟨g1, g2⟩ := csub_ok hc h1
    refine ⟨.agg ((l.drop off).take i.size).toArray, ?_, by simp only [V]; exact ⟨_, g2, rfl⟩⟩
    unfold part
    rw [Sem.run_bind, run_isAgg hd, hr]
    simp only [Result.andThen_ok, if_true, Sem.run_bind, run_sizeOf hi, Sem.run_pure]
    congr 2
    apply Array.ext'
    simp [List.extract_eq_take_drop]
  · rename_i hr
    obtain ⟨x, h1, h2⟩ := cget_ok _ _ _ _ hc h
    refine ⟨x, ?_, h2⟩
    unfold part
    rw [Sem.run_bind, run_isAgg hd, hr]
    simp only [Result.andThen_ok, Bool.false_eq_true, if_false, List.getElem?_toArray, h1, Sem.run_pure]

/-! ### Equality -/
def strEq (n N m M : Nat) : Bool := match Nat.beq n m with
  | true => beqb n N M
  | false => false
theorem strEq_ok (n N m M : Nat) : strEq n N m M = decide (unpack n N = unpack m M) := by
  unfold strEq
  cases h : Nat.beq n m with
  | true =>
    have := beq_iff.1 h; subst this
    rw [Bool.eq_iff_iff, beqb_iff]; simp
  | false =>
    have hn : n ≠ m := fun e => by subst e; rw [Nat.beq_refl] at h; cases h
    symm
    rw [decide_eq_false_iff_not]
    intro e
    have := congrArg List.length e
    rw [unpack_length, unpack_length] at this
    exact hn this
def kindEq : IntKind → IntKind → Bool
  | .i8, .i8 | .i16, .i16 | .i32, .i32 | .i64, .i64 | .u8, .u8 | .u16, .u16 | .u32, .u32 | .u64, .u64 => true
  | _, _ => false
theorem kindEq_ok {a b : IntKind} (h : kindEq a b = true) : a = b := by cases a <;> cases b <;> first | rfl | cases h
/-- Elements of an array of bytes that are packed. -/
def eqBs : List AV → List AV → R Bool
  | [.bs n N], [.bs m M] => match Nat.beq n m with
    | true => .ok (beqb n N M)
    | false => .no 42
  | _, _ => .no 43
def eqFs (P : Program) (rec : TypeId → AV → AV → R Bool) (xs ys : List AV) : List Field → R Bool
  | [] => .ok true
  | fd :: fs => match decide (fd.name ≠ "_") with
    | true => (partA P fd.type xs fd.offset).bind fun x => (partA P fd.type ys fd.offset).bind fun y => (rec fd.type x y).bind fun r => match r with
      | true => eqFs P rec xs ys fs
      | false => .ok false
    | false => eqFs P rec xs ys fs
def eqB : Bool → Bool → Bool
  | true, true => true
  | false, false => true
  | _, _ => false
def eqArr (P : Program) (len : Nat) (e : TypeId) (xs ys : List AV) : R Bool := match P.underlying e, P.info? e with
  | some (.int .u8), some i => match Nat.beq i.size 1, xs, ys with
    | true, [.bs n N], [.bs m M] => match Nat.beq n len, Nat.beq m len with
      | true, true => .ok (beqb n N M)
      | _, _ => .no 51
    | _, _, _ => .no 52
  | _, _ => .no 53
/-- Element by element. -/
def eqAs (P : Program) (rec : TypeId → AV → AV → R Bool) (e : TypeId) (sz : Nat) (xs ys : List AV) : Nat → Nat → R Bool
  | 0, _ => .ok true
  | n + 1, j => (partA P e xs (Nat.mul j sz)).bind fun x => (partA P e ys (Nat.mul j sz)).bind fun y => (rec e x y).bind fun r => match r with
    | true => eqAs P rec e sz xs ys n (Nat.succ j)
    | false => .ok false
def isByte (P : Program) (e : TypeId) : Bool := match P.underlying e with
  | some (.int .u8) => true
  | _ => false
def eqV (P : Program) : Nat → TypeId → AV → AV → R Bool
  | 0, _, _, _ => .no 44
  | f + 1, t, a, b => match P.underlying t with
    | some .bool => match a, b with
      | .bool x, .bool y => .ok (eqB x y)
      | _, _ => .no 45
    | some (.int _) => match a, b with
      | .int k m, .int k' n => match kindEq k k' with
        | true => .ok (eqI m n)
        | false => .no 46
      | _, _ => .no 47
    | some .string => match a, b with
      | .str n N, .str m M => .ok (strEq n N m M)
      | _, _ => .no 48
    | some (.struct fs) => match a, b with
      | .agg xs, .agg ys => match P.stoodInHeld t with
        | false => eqFs P (eqV P f) xs ys fs.toList
        | true => .no 49
      | _, _ => .no 50
    | some (.array len e) => match a, b with
      | .agg xs, .agg ys => match isByte P e with
        | true => eqArr P len e xs ys
        | false => match P.info? e with
          | some i => eqAs P (eqV P f) e i.size xs ys len 0
          | none => .no 56
      | _, _ => .no 54
    | _ => .no 55
theorem eqFs_ok {rec : TypeId → AV → AV → R Bool} {d : Nat} {σ : Sg} {w : World} {xs ys : List AV} {l m : List Value} (hx : Cs σ xs l) (hy : Cs σ ys m)
    (hrec : ∀ t a b r u v, rec t a b = .ok r → V σ a u → V σ b v → (Op.equalIn d t u v).run P w = .ok r w) : ∀ (fs : List Field) (r : Bool), eqFs P rec xs ys fs = .ok r → (Op.eqFields d l.toArray m.toArray fs).run P w = .ok r w
  | [], r, h => by cases h; rfl
  | fd :: fs, r, h => by
    unfold eqFs at h
    unfold Op.eqFields
    split at h
    · rename_i hd
      rw [if_pos (by simpa using hd)]
      obtain ⟨x, h1, h⟩ := R.bind_ok h
      obtain ⟨y, h2, h⟩ := R.bind_ok h
      obtain ⟨q, h3, h⟩ := R.bind_ok h
      obtain ⟨u, g1, g2⟩ := partA_ok h1 hx w
      obtain ⟨v, g3, g4⟩ := partA_ok h2 hy w
      have g5 := hrec _ _ _ _ _ _ h3 g2 g4
      rw [Sem.run_bind, g1, Result.andThen_ok, Sem.run_bind, g3, Result.andThen_ok, Sem.run_bind, g5, Result.andThen_ok]
      cases q with
      | true => simpa using eqFs_ok hx hy hrec fs r h
      | false => cases h; rfl
    · rename_i hd
      rw [if_neg (by simpa using hd)]
      exact eqFs_ok hx hy hrec fs r h
theorem eqB_ok (x y : Bool) : eqB x y = (x == y) := by cases x <;> cases y <;> rfl
theorem toList_mk (l : List UInt8) : (⟨l.toArray⟩ : ByteArray).toList = l := Go.ByteArray.toList_eq _
theorem bcs_inj {n N M : Nat} (h : bcs n N = bcs n M) : unpack n N = unpack n M := by
  have hf : ∀ (a b : List UInt8), a.map bcellN = b.map bcellN → a = b := by
    intro a
    induction a with
    | nil => intro b h; cases b with
      | nil => rfl
      | cons x b => cases h
    | cons x a ih => intro b h; cases b with
      | nil => cases h
      | cons y b =>
        simp only [List.map_cons, List.cons.injEq, bcellN, Value.int.injEq, true_and] at h
        have hxy : x = y := UInt8.toNat_inj.1 (by exact_mod_cast h.1)
        rw [ih b h.2, hxy]
  exact hf _ _ h
/-- Two arrays of bytes: element by element. -/
theorem run_equalIn_bytes {d len : Nat} {t e : TypeId} {i : TypeInfo} (ht : P.underlying t = some (.array len e)) (he : P.underlying e = some (.int .u8)) (hi : P.info? e = some i) (hs : i.size = 1) (N M : Nat) (w : World) :
    (Op.equalIn (d + 2) t (.agg (bcs len N).toArray) (.agg (bcs len M).toArray)).run P w = .ok (beqb len N M) w := by
  rw [Op.equalIn]
  simp only [Sem.run_bind, run_underlying ht, Result.andThen_ok, run_sizeOf hi, hs, Nat.mul_one]
  have hpart : ∀ K j, j < len → (part e (bcs len K).toArray j).run P w = .ok (.int .u8 (bget K j)) w := by
    intro K j hj
    unfold part
    rw [Sem.run_bind, run_isAgg he]
    simp only [rowD, Result.andThen_ok, Bool.false_eq_true, if_false, List.getElem?_toArray, bcs_get len K j hj, Sem.run_pure]
  have key : ∀ (js : List Nat), (∀ j ∈ js, j < len) → ((forIn js ((none, ()) : Option Bool × Unit) fun j _ => do
        let a ← part e (bcs len N).toArray j
        let b ← part e (bcs len M).toArray j
        let r ← Op.equalIn (d + 1) e a b
        if (!r) = true then pure (ForInStep.done (some false, ())) else pure (ForInStep.yield (none, ()))) : Sem (Option Bool × Unit)).run P w = .ok (if js.all (fun j => bget N j == bget M j) = true then (none, ()) else (some false, ())) w := by
    intro js
    induction js with
    | nil => intro _; rfl
    | cons j js ih =>
      intro h
      have h1 := h j (by simp)
      have ih' := ih fun x hx => h x (by simp [hx])
      rw [List.forIn_cons, Sem.run_bind, Sem.run_bind, hpart N j h1, Result.andThen_ok, Sem.run_bind, hpart M j h1, Result.andThen_ok, Sem.run_bind, run_equalIn_int w d e .u8 .u8 _ _ he, Result.andThen_ok]
      by_cases hb : bget N j = bget M j
      · have e1 : ((bget N j : Int) == (bget M j : Int)) = true := by rw [hb]; simp
        rw [e1, if_neg (by simp), Sem.run_pure, Result.andThen_ok]
        simp only [ih', List.all_cons, hb, BEq.rfl, Bool.true_and]
      · have e1 : ((bget N j : Int) == (bget M j : Int)) = false := by
          rw [beq_eq_false_iff_ne]; exact fun h => hb (by exact_mod_cast h)
        have e2 : (bget N j == bget M j) = false := by rw [beq_eq_false_iff_ne]; exact hb
        rw [e1, if_pos (by simp), Sem.run_pure, Result.andThen_ok]
        simp only [List.all_cons, e2, Bool.false_and, Bool.false_eq_true, if_false, Sem.run_pure]
  rw [Std.Legacy.Range.forIn_eq_forIn_range', key _ (by intro j hj; simp [List.mem_range'_1, Std.Legacy.Range.size] at hj; omega)]
  have hall : (List.range' 0 len).all (fun j => bget N j == bget M j) = beqb len N M := by
    rw [Bool.eq_iff_iff, beqb_iff, List.all_eq_true]
    constructor
    · intro h
      apply List.ext_getElem?
      intro j
      rcases Nat.lt_or_ge j len with hj | hj
      · rw [unpack_bget len N j hj, unpack_bget len M j hj]
        have := h j (by simp [List.mem_range'_1]; exact hj)
        rw [beq_iff_eq.1 this]
      · rw [List.getElem?_eq_none (by rw [unpack_length]; exact hj), List.getElem?_eq_none (by rw [unpack_length]; exact hj)]
    · intro h j hj
      have hj' : j < len := by simp [List.mem_range'_1] at hj; exact hj
      have e1 : (bcs len N)[j]? = (bcs len M)[j]? := by unfold bcs; rw [h]
      rw [bcs_get len N j hj', bcs_get len M j hj'] at e1
      simp only [Option.some.injEq, Value.int.injEq, true_and] at e1
      rw [beq_iff_eq]
      exact_mod_cast e1
  have hr : (List.range' [0:len].start [0:len].size [0:len].step) = List.range' 0 len := by simp [Std.Legacy.Range.size]
  rw [hr, hall, Result.andThen_ok]
  cases beqb len N M <;> rfl
theorem eqArr_ok {d len : Nat} {t e : TypeId} {xs ys : List AV} {r : Bool} {σ : Sg} {l m : List Value} {w : World} (ht : P.underlying t = some (.array len e)) (h : eqArr P len e xs ys = .ok r) (hx : Cs σ xs l) (hy : Cs σ ys m) :
    (Op.equalIn (d + 2) t (.agg l.toArray) (.agg m.toArray)).run P w = .ok r w := by
  unfold eqArr at h
  split at h
  case h_2 => cases h
  rename_i i he hi
  split at h
  case h_2 => cases h
  rename_i hs
  split at h
  case h_2 => cases h
  rename_i h1 h2
  cases h
  have e1 := beq_iff.1 h1
  have e2 := beq_iff.1 h2
  have e3 := beq_iff.1 hs
  subst e1
  subst e2
  simp only [Cs] at hx hy
  obtain ⟨_, rfl, rfl⟩ := hx
  obtain ⟨_, rfl, rfl⟩ := hy
  rw [List.append_nil, List.append_nil]
  exact run_equalIn_bytes ht he hi e3 _ _ w
theorem eqAs_ok {rec : TypeId → AV → AV → R Bool} {d len : Nat} {t e : TypeId} {i : TypeInfo} {σ : Sg} {w : World} {xs ys : List AV} {l m : List Value} (ht : P.underlying t = some (.array len e)) (hi : P.info? e = some i) (hx : Cs σ xs l) (hy : Cs σ ys m)
    (hrec : ∀ t a b r u v, rec t a b = .ok r → V σ a u → V σ b v → (Op.equalIn (d + 1) t u v).run P w = .ok r w) {r : Bool} (h : eqAs P rec e i.size xs ys len 0 = .ok r) : (Op.equalIn (d + 2) t (.agg l.toArray) (.agg m.toArray)).run P w = .ok r w := by
  rw [Op.equalIn]
  simp only [Sem.run_bind, run_underlying ht, Result.andThen_ok, run_sizeOf hi]
  have key : ∀ (n j : Nat) (r : Bool), eqAs P rec e i.size xs ys n j = .ok r → ((forIn (List.range' j n) ((none, ()) : Option Bool × Unit) fun j _ => do
        let a ← part e l.toArray (j * i.size)
        let b ← part e m.toArray (j * i.size)
        let r ← Op.equalIn (d + 1) e a b
        if (!r) = true then pure (ForInStep.done (some false, ())) else pure (ForInStep.yield (none, ()))) : Sem (Option Bool × Unit)).run P w = .ok (if r = true then (none, ()) else (some false, ())) w := by
    intro n
    induction n with
    | zero => intro j r h; cases h; rfl
    | succ n ih =>
      intro j r h
      unfold eqAs at h
      obtain ⟨x, h1, h⟩ := R.bind_ok h
      obtain ⟨y, h2, h⟩ := R.bind_ok h
      obtain ⟨q, h3, h⟩ := R.bind_ok h
      obtain ⟨u, g1, g2⟩ := partA_ok h1 hx w
      obtain ⟨v, g3, g4⟩ := partA_ok h2 hy w
      have g5 := hrec _ _ _ _ _ _ h3 g2 g4
      rw [Nat.mul_eq] at g1 g3
      rw [List.range'_succ, List.forIn_cons, Sem.run_bind, Sem.run_bind, g1, Result.andThen_ok, Sem.run_bind, g3, Result.andThen_ok, Sem.run_bind, g5, Result.andThen_ok]
      cases q with
      | true =>
        rw [if_neg (by simp), Sem.run_pure, Result.andThen_ok]
        exact ih (j + 1) r h
      | false =>
        cases h
        rw [if_pos (by simp), Sem.run_pure, Result.andThen_ok]
        rfl
  have hr : (List.range' [0:len].start [0:len].size [0:len].step) = List.range' 0 len := by simp [Std.Legacy.Range.size]
  rw [Std.Legacy.Range.forIn_eq_forIn_range', hr, key len 0 r h, Result.andThen_ok]
  cases r <;> rfl
theorem eqV_ok {σ : Sg} {w : World} : ∀ (f d : Nat) (t : TypeId) (a b : AV) (r : Bool) (u v : Value), f + 1 ≤ d → eqV P f t a b = .ok r → V σ a u → V σ b v → (Op.equalIn d t u v).run P w = .ok r w
  | 0, _, _, _, _, _, _, _, _, h, _, _ => by cases h
  | f + 1, d, t, a, b, r, u, v, hd, h, hu, hv => by
    obtain ⟨d, rfl⟩ : ∃ e, d = e + 2 := ⟨d - 2, by omega⟩
    unfold eqV at h
    split at h
    · rename_i ht
      split at h
      case h_2 => cases h
      cases h
      simp only [V] at hu hv
      subst hu; subst hv
      rw [run_equalIn_bool' w (d + 1) t _ _ ht, eqB_ok]
    · rename_i ht
      split at h
      case h_2 => cases h
      split at h
      case h_2 => cases h
      rename_i hk
      cases h
      simp only [V] at hu hv
      subst hu; subst hv
      rw [← kindEq_ok hk, run_equalIn_int w (d + 1) t _ _ _ _ ht, eqI_eq]
      rfl
    · rename_i ht
      split at h
      case h_2 => cases h
      cases h
      simp only [V] at hu hv
      subst hu; subst hv
      rw [run_equalIn_string w (d + 1) t _ _ ht, toList_mk, toList_mk, strEq_ok]
      congr 1
      rw [Bool.eq_iff_iff]; simp
    · rename_i fs ht
      split at h
      case h_2 => cases h
      split at h
      case h_2 => cases h
      rename_i hst
      simp only [V] at hu hv
      obtain ⟨l, hl, rfl⟩ := hu
      obtain ⟨m, hm, rfl⟩ := hv
      have hf : P.fieldsOf t = fs := by simp [Program.fieldsOf, ht]
      rw [run_equalIn_agg w (d + 1) t _ _ (by rw [hf]; exact ht) hst, hf]
      exact eqFs_ok hl hm (fun t a b r u v h1 h2 h3 => eqV_ok f (d + 1) t a b r u v (by omega) h1 h2 h3) _ r h
    · rename_i len e ht
      split at h
      case h_2 => cases h
      simp only [V] at hu hv
      obtain ⟨l, hl, rfl⟩ := hu
      obtain ⟨m, hm, rfl⟩ := hv
      split at h
      · exact eqArr_ok ht h hl hm
      · split at h
        case h_2 => cases h
        rename_i i hi
        exact eqAs_ok ht hi hl hm (fun t a b r u v h1 h2 h3 => eqV_ok f (d + 1) t a b r u v (by omega) h1 h2 h3) h
    · cases h
end
end Go.Proofs.YtocabeobfbhajaaGreatDoor.Sx
