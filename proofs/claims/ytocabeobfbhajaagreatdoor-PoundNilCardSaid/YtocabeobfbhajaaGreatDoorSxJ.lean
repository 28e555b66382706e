/- The reckoner's operations that only reckon: slices, interfaces, tuples, structs. No program is named here. -/
import Derived.Test.YtocabeobfbhajaaGreatDoorSxI
set_option linter.unusedVariables false
set_option linter.unusedSimpArgs false
namespace Go.Proofs.YtocabeobfbhajaaGreatDoor.Sx
noncomputable section
open Go Go.RowKit
variable {P : Program}

theorem run_bounds3 {σ : Sg} {isS : Bool} {n c : Nat} {lo : Option AV} {hi mx : AV} {l' : Option Value} {h' m' : Value} {h l m : Nat} (e0 : idxA mx = .ok m) (e1 : idxA hi = .ok h) (e2 : bndA 0 lo = .ok l) (b0 : m ≤ c) (b1 : h ≤ m) (b2 : l ≤ h)
    (v0 : V σ mx m') (v1 : VO σ lo l') (v2 : V σ hi h') (w : World) : (Instr.sliceBounds isS n c l' (some h') (some m')).run P w = .ok (l, h, m) w := by
  obtain ⟨k0, rfl⟩ := idxA_ok e0 v0
  obtain ⟨k1, rfl⟩ := idxA_ok e1 v2
  have c0 : (0 : Int) ≤ (m : Int) ∧ (m : Int) ≤ (c : Int) := ⟨by omega, by omega⟩
  have c1 : (0 : Int) ≤ (h : Int) ∧ (h : Int) ≤ (m : Int) := ⟨by omega, by omega⟩
  have c2 : (0 : Int) ≤ (l : Int) ∧ (l : Int) ≤ (h : Int) := ⟨by omega, by omega⟩
  unfold Instr.sliceBounds
  simp only [Instr.sliceBound, asIntOf, Sem.run_bind, Sem.run_pure, Result.andThen_ok, c0, c1, and_self, if_true, Int.toNat_natCast]
  cases v1 with
  | none => cases e2; rfl
  | some hv =>
    obtain ⟨k, rfl⟩ := idxA_ok e2 hv
    simp only [asIntOf, Sem.run_bind, Sem.run_pure, Result.andThen_ok, c2, and_self, if_true, Int.toNat_natCast]
theorem bstr_extract (n N l h : Nat) (hh : h ≤ n) (hl : l ≤ h) : (bstr n N).extract l h = bstr (h - l) (bsub N l (h - l)) := by
  apply ByteArray.ext
  rw [ByteArray.data_extract]
  show (unpack n N).toArray.extract l h = (unpack (h - l) (bsub N l (h - l))).toArray
  rw [unpack_bsub n N l (h - l) (by omega), List.extract_toArray, List.extract_eq_take_drop]
/-- What the bounds are held to be. -/
theorem slcB_ok {isS : Bool} {n c x κ : Nat} {lo hi mx : Option AV} {l' h' m' : Option Value} {σ : Sg} {q : Nat × Nat × Nat × Nat} (h : slcB n c x lo hi mx = .ok q) (v1 : VO σ lo l') (v2 : VO σ hi h') (v3 : VO σ mx m')
    (hκ : x = 0 ∧ κ = c ∨ ∃ j e, x = j + 1 ∧ σ.cp j = some e ∧ κ = c + e) (w : World) :
    ∃ m, (Instr.sliceBounds isS n κ l' h' m').run P w = .ok (q.1, q.2.1, m) w ∧ q.1 ≤ q.2.1 ∧ q.2.1 ≤ q.2.2.1 ∧ q.2.2.1 ≤ c ∧ (q.2.2.2 = 0 ∧ m = q.2.2.1 ∨ ∃ j e, q.2.2.2 = j + 1 ∧ σ.cp j = some e ∧ m = q.2.2.1 + e) := by
  have hcκ : c ≤ κ := by rcases hκ with ⟨_, rfl⟩ | ⟨j, q, _, _, rfl⟩ <;> omega
  unfold slcB at h
  split at h
  · cases v3
    obtain ⟨hh, e1, h⟩ := R.bind_ok h
    obtain ⟨ll, e2, h⟩ := R.bind_ok h
    split at h
    case h_2 => cases h
    rename_i b1 b2
    have b1' := Nat.le_of_ble_eq_true b1
    have b2' := Nat.le_of_ble_eq_true b2
    cases h
    exact ⟨κ, run_bounds e1 e2 (Nat.le_trans b1' hcκ) b2' v1 v2 w, b2', b1', Nat.le_refl _, hκ⟩
  · split at h
    case h_2 => cases h
    cases v3 with
    | some v3 =>
    cases v2 with
    | some v2 =>
    obtain ⟨m, e0, h⟩ := R.bind_ok h
    obtain ⟨hh, e1, h⟩ := R.bind_ok h
    obtain ⟨ll, e2, h⟩ := R.bind_ok h
    split at h
    case h_2 => cases h
    rename_i b0 b1 b2
    have b0' := Nat.le_of_ble_eq_true b0
    have b1' := Nat.le_of_ble_eq_true b1
    have b2' := Nat.le_of_ble_eq_true b2
    cases h
    exact ⟨m, run_bounds3 e0 e1 e2 (Nat.le_trans b0' hcκ) b1' b2' v3 v1 v2 w, b2', b1', b0', .inl ⟨rfl, rfl⟩⟩
theorem slcB_zero {n c : Nat} {lo hi mx : Option AV} {q : Nat × Nat × Nat × Nat} (e1 : slcB n c 0 lo hi mx = .ok q) : q.2.2.2 = 0 := by
  unfold slcB at e1
  split at e1
  · obtain ⟨hh, f1, e1⟩ := R.bind_ok e1
    obtain ⟨ll, f2, e1⟩ := R.bind_ok e1
    split at e1
    · cases e1; rfl
    · cases e1
  · split at e1
    · obtain ⟨mm, f0, e1⟩ := R.bind_ok e1
      obtain ⟨hh, f1, e1⟩ := R.bind_ok e1
      obtain ⟨ll, f2, e1⟩ := R.bind_ok e1
      split at e1
      · cases e1; rfl
      · cases e1
    · cases e1
theorem slcV_ok {b o c x s l h m : Nat} {v : AV} {σ : Sg} {p : Nat × Nat} (e : slcV b o c x s l h = .ok v) (hp : σ.bl b = some p) (h1 : l ≤ h) (h2 : h ≤ c) (hm : x = 0 ∧ m = c ∨ ∃ j e, x = j + 1 ∧ σ.cp j = some e ∧ m = c + e) :
    V σ v (.slice (some (if m = l then ⟨p.1, p.2 + o, none⟩ else ⟨p.1, p.2 + o + l * s, none⟩)) (h - l) (m - l)) := by
  unfold slcV at e
  split at e
  · rcases hm with ⟨_, rfl⟩ | ⟨j, q, hx, _, _⟩
    · split at e
      · rename_i hb
        have := beq_iff.1 hb
        subst this
        cases e
        simp only [V]
        exact ⟨p, 0, hp, by simp, .inl ⟨trivial, rfl⟩⟩
      · rename_i hb
        have := beq_false_ne hb
        cases e
        simp only [V]
        exact ⟨p, m - l, hp, by rw [if_neg this]; simp [Nat.add_assoc], .inl ⟨trivial, rfl⟩⟩
    · omega
  · rename_i x
    rcases hm with ⟨hx, _⟩ | ⟨j, q, hx, hq, rfl⟩
    · omega
    · obtain rfl : x = j := by omega
      split at e
      · rename_i hb
        have := beq_iff.1 hb
        subst this
        split at e
        case h_2 => cases e
        cases e
        simp only [V]
        exact ⟨p, 0 + q, hp, by simp, .inr ⟨x, q, rfl, hq, rfl⟩⟩
      · rename_i hb
        have := beq_false_ne hb
        cases e
        simp only [V]
        refine ⟨p, c - l + q, hp, ?_, .inr ⟨x, q, rfl, hq, rfl⟩⟩
        rw [if_neg (by omega), show c + q - l = c - l + q by omega]
        simp [Nat.add_assoc]
theorem slcA_ok {t : TypeId} {a c : AV} {lo hi mx : Option AV} {σ : Sg} {u : Value} {l' h' m' : Option Value} (h : slcA P t a lo hi mx = .ok c) (hu : V σ a u) (v1 : VO σ lo l') (v2 : VO σ hi h') (v3 : VO σ mx m') (w : World) :
    ∃ z, (Instr.sliceAt t u l' h' m').run P w = .ok z w ∧ V σ c z := by
  unfold slcA at h
  split at h
  case h_6 => cases h
  case h_1 n N ht =>
    split at h
    case h_1 => cases h
    cases v3
    obtain ⟨hh, e1, h⟩ := R.bind_ok h
    obtain ⟨ll, e2, h⟩ := R.bind_ok h
    split at h
    case h_2 => cases h
    rename_i b1 b2
    have b1' := Nat.le_of_ble_eq_true b1
    have b2' := Nat.le_of_ble_eq_true b2
    cases h
    simp only [V] at hu
    subst hu
    refine ⟨.string (bstr (hh - ll) (bsub N ll (hh - ll))), ?_, by simp only [V]; rfl⟩
    change (Instr.sliceAt t (.string (bstr n N)) _ _ _).run P w = _
    have hb := run_bounds (P := P) (isS := false) e1 e2 b1' b2' v1 v2 w
    simp only [Instr.sliceAt, Instr.slice, Sem.run_bind, run_underlying ht, Result.andThen_ok, Option.isSome_none, Bool.false_eq_true, if_false, Sem.run_pure, bstr_size, hb, bstr_extract n N ll hh b1' b2']
  case h_2 e b o n cc x ht =>
    simp only [V] at hu
    obtain ⟨p, κ, hp, rfl, hκ⟩ := hu
    obtain ⟨q, e1, h⟩ := R.bind_ok h
    obtain ⟨s, e2, h⟩ := R.bind_ok h
    obtain ⟨m, g1, g2, g3, g5, g4⟩ := slcB_ok (P := P) (isS := true) e1 v1 v2 v3 hκ w
    refine ⟨_, ?_, slcV_ok h hp g2 g3 g4⟩
    simp only [Instr.sliceAt, Instr.slice, Sem.run_bind, run_underlying ht, Result.andThen_ok, Sem.run_pure, g1, szA_ok e2]
    congr 2
    split <;> simp [addr_add]
  case h_3 e ht =>
    simp only [V] at hu
    subst hu
    obtain ⟨q, e1, h⟩ := R.bind_ok h
    obtain ⟨s, e2, h⟩ := R.bind_ok h
    cases h
    obtain ⟨m, g1, g2, g3, g5, g4⟩ := slcB_ok (P := P) (isS := true) (κ := 0) e1 v1 v2 v3 (.inl ⟨rfl, rfl⟩) w
    have hm : m = 0 := by
      rcases g4 with ⟨_, h1⟩ | ⟨j, e, _, h1, _⟩
      · omega
      · have := slcB_zero e1; omega
    refine ⟨.slice none 0 0, ?_, by simp only [V]⟩
    have e3 : q.1 = 0 := by omega
    have e4 : q.2.1 = 0 := by omega
    simp only [Instr.sliceAt, Instr.slice, Sem.run_bind, run_underlying ht, Result.andThen_ok, Sem.run_pure, g1, szA_ok e2, hm, e3, e4, if_true, Nat.sub_self]
  case h_4 ar b o ht =>
    simp only [V] at hu
    obtain ⟨p, hp, rfl⟩ := hu
    split at h
    case h_2 => cases h
    rename_i n e ha
    split at h
    case h_2 => cases h
    cases v3
    obtain ⟨q, e1, h⟩ := R.bind_ok h
    obtain ⟨s, e2, h⟩ := R.bind_ok h
    obtain ⟨m, g1, g2, g3, g5, g4⟩ := slcB_ok (P := P) (isS := false) (κ := n) e1 v1 v2 .none (.inl ⟨rfl, rfl⟩) w
    have hq : q.2.2.2 = 0 ∧ q.2.2.1 = n := by
      obtain ⟨hh, f1, e1⟩ := R.bind_ok e1
      obtain ⟨ll, f2, e1⟩ := R.bind_ok e1
      split at e1
      · cases e1; exact ⟨rfl, rfl⟩
      · cases e1
    have hm : m = n := by rcases g4 with ⟨_, h1⟩ | ⟨j, e, h0, _, _⟩ <;> omega
    subst hm
    refine ⟨_, ?_, slcV_ok (m := m) h hp g2 (by omega) (.inl ⟨rfl, rfl⟩)⟩
    simp only [Instr.sliceAt, Instr.slice, Sem.run_bind, run_underlying ht, run_underlying ha, asAddr, Result.andThen_ok, Sem.run_pure, g1, szA_ok e2, addr_add]
  case h_5 n e b o ht =>
    simp only [V] at hu
    obtain ⟨p, hp, rfl⟩ := hu
    obtain ⟨q, e1, h⟩ := R.bind_ok h
    obtain ⟨s, e2, h⟩ := R.bind_ok h
    obtain ⟨m, g1, g2, g3, g5, g4⟩ := slcB_ok (P := P) (isS := false) (κ := n) e1 v1 v2 v3 (.inl ⟨rfl, rfl⟩) w
    have hq := slcB_zero e1
    have hm : m = q.2.2.1 := by rcases g4 with ⟨_, h1⟩ | ⟨j, e, h0, _, _⟩ <;> omega
    refine ⟨_, ?_, slcV_ok (m := m) h hp g2 g3 (.inl ⟨rfl, hm⟩)⟩
    simp only [Instr.sliceAt, Instr.sureAddr, Sem.run_bind, run_underlying ht, Result.andThen_ok, Sem.run_pure, g1, szA_ok e2, addr_add]

/-! ### Interfaces, tuples -/
def zeroA (P : Program) (t : TypeId) : R AV := match P.info? t with
  | some i => match i.zero with
    | some v => ofV v
    | none => .no 130
  | none => .no 131
theorem zeroA_ok {t : TypeId} {a : AV} (h : zeroA P t = .ok a) (w : World) : ∃ v, (zeroValue t).run P w = .ok v w ∧ ∀ σ, V σ a v := by
  unfold zeroA at h
  split at h
  case h_2 => cases h
  rename_i i hi
  split at h
  case h_2 => cases h
  rename_i v hv
  exact ⟨v, by simp [zeroValue, typeInfo, hi, hv], ofV_ok h⟩
def mkiA (P : Program) (t : TypeId) (a : AV) : R AV := match P.underlying t with
  | some (.interface _) => .no 132
  | some _ => .ok (.ifc t a)
  | none => .no 133
theorem mkiA_ok {t : TypeId} {a c : AV} {σ : Sg} {u : Value} (h : mkiA P t a = .ok c) (hu : V σ a u) (w : World) : ∃ z, (Instr.makeInterface t u).run P w = .ok z w ∧ V σ c z := by
  unfold mkiA at h
  split at h
  · cases h
  · rename_i d hn hd
    cases h
    refine ⟨.iface t u, ?_, by simp only [V]; exact ⟨u, hu, rfl⟩⟩
    unfold Instr.makeInterface
    rw [Sem.run_bind, run_underlying hd, Result.andThen_ok]
    split
    · exact (hn _ rfl).elim
    · rfl
  · cases h
def extA (a : AV) (i : Nat) : R AV := match a with
  | .tup vs => R.ofO 134 vs[i]?
  | _ => .no 135
theorem Vs_get {σ : Sg} : ∀ {vs : List AV} {l : List Value} {i : Nat} {v : AV}, Vs σ vs l → vs[i]? = some v → ∃ x, l[i]? = some x ∧ V σ v x
  | [], _, _, _, _, h => by simp at h
  | a :: r, l, 0, v, hv, h => by
    simp only [Vs] at hv
    obtain ⟨x, l', rfl, h1, h2⟩ := hv
    cases h
    exact ⟨x, rfl, h1⟩
  | a :: r, l, i + 1, v, hv, h => by
    simp only [Vs] at hv
    obtain ⟨x, l', rfl, h1, h2⟩ := hv
    obtain ⟨y, g1, g2⟩ := Vs_get h2 (by simpa using h)
    exact ⟨y, by simpa using g1, g2⟩
theorem extA_ok {a c : AV} {i : Nat} {σ : Sg} {u : Value} (h : extA a i = .ok c) (hu : V σ a u) (w : World) : ∃ z, (Instr.extract u i).run P w = .ok z w ∧ V σ c z := by
  unfold extA at h
  split at h
  case h_2 => cases h
  have h' := R.ofO_ok h
  simp only [V] at hu
  obtain ⟨l, hl, rfl⟩ := hu
  obtain ⟨x, g1, g2⟩ := Vs_get hl h'
  exact ⟨x, by simp [Instr.extract, g1], g2⟩
/-- Whether a type has all methods of an interface. -/
def hasM (P : Program) (want : Array (String × TypeId)) (t : TypeId) : R Bool := match P.info? t with
  | some i => match Instr.missingMethod want i.methods with
    | none => .ok true
    | some _ => .ok false
  | none => .no 136
def yesA (ok : Bool) (v : AV) : R AV := match ok with
  | true => .ok (.tup [v, .bool true])
  | false => .ok v
def nopeA (P : Program) (t : TypeId) (ok : Bool) : R AV := match ok with
  | true => (zeroA P t).bind fun z => .ok (.tup [z, .bool false])
  | false => .no 137
def assA (P : Program) (a : AV) (t : TypeId) (ok : Bool) : R AV := match P.underlying t with
  | some (.interface want) => match a with
    | .ni => nopeA P t ok
    | .ifc d v => (hasM P want d).bind fun b => match b with
      | true => yesA ok (.ifc d v)
      | false => nopeA P t ok
    | _ => .no 138
  | some _ => match a with
    | .ni => nopeA P t ok
    | .ifc d v => match Nat.beq d t with
      | true => yesA ok v
      | false => nopeA P t ok
    | _ => .no 139
  | none => .no 140
theorem assA_ok {t xt : TypeId} {a c : AV} {ok : Bool} {σ : Sg} {u : Value} (h : assA P a t ok = .ok c) (hu : V σ a u) (w : World) : ∃ z, (Instr.typeAssert u xt t ok).run P w = .ok z w ∧ V σ c z := by
  have hyes : ∀ (v : AV) (x : Value), V σ v x → yesA ok v = .ok c → ∃ z, ((pure (if ok then .tuple #[x, .bool true] else x)) : Sem Value).run P w = .ok z w ∧ V σ c z := by
    intro v x hv e
    cases ok with
    | true => cases e; exact ⟨_, rfl, by simp only [V, Vs]; exact ⟨[x, .bool true], ⟨x, _, rfl, hv, _, _, rfl, rfl, rfl⟩, rfl⟩⟩
    | false => cases e; exact ⟨_, rfl, hv⟩
  have hno : ∀ (s d : Option TypeId) (mi : String), nopeA P t ok = .ok c →
      ∃ z, (if ok then (do pure (.tuple #[← zeroValue t, .bool false])) else runtimePanic (.typeAssertion s d t mi) : Sem Value).run P w = .ok z w ∧ V σ c z := by
    intro s d mi e
    cases ok with
    | false => cases e
    | true =>
      obtain ⟨z, h1, e⟩ := R.bind_ok e
      cases e
      obtain ⟨v, g1, g2⟩ := zeroA_ok h1 w
      refine ⟨.tuple #[v, .bool false], ?_, by simp only [V, Vs]; exact ⟨[v, .bool false], ⟨v, _, rfl, g2 σ, _, _, rfl, rfl, rfl⟩, rfl⟩⟩
      rw [if_pos rfl, Sem.run_bind, g1]; rfl
  unfold assA at h
  unfold Instr.typeAssert
  split at h
  · rename_i want ht
    simp only [Sem.run_bind, run_underlying ht, Result.andThen_ok]
    split at h
    · simp only [V] at hu; subst hu
      exact hno _ _ _ h
    · rename_i d v
      simp only [V] at hu
      obtain ⟨y, hy, rfl⟩ := hu
      obtain ⟨b, h1, h⟩ := R.bind_ok h
      unfold hasM at h1
      split at h1
      case h_2 => cases h1
      rename_i i hi
      have hti : (typeInfo d).run P w = .ok i w := by simp [typeInfo, hi]
      simp only [Sem.run_bind, hti, Result.andThen_ok]
      split at h1
      · rename_i hm
        cases h1
        simp only [hm]
        exact hyes _ _ (by simp only [V]; exact ⟨y, hy, rfl⟩) h
      · rename_i m hm
        cases h1
        simp only [hm]
        exact hno _ _ _ h
    · cases h
  · rename_i d0 hn ht
    simp only [Sem.run_bind, run_underlying ht, Result.andThen_ok]
    split at h
    · simp only [V] at hu; subst hu
      cases d0 <;> first | exact (hn _ rfl).elim | exact hno _ _ _ h
    · rename_i d v
      simp only [V] at hu
      obtain ⟨y, hy, rfl⟩ := hu
      split at h
      · rename_i hb
        have := beq_iff.1 hb
        subst this
        cases d0 <;> first | exact (hn _ rfl).elim | (dsimp only; rw [if_pos rfl]; exact hyes _ _ hy h)
      · rename_i hb
        have := beq_false_ne hb
        cases d0 <;> first | exact (hn _ rfl).elim | (dsimp only; rw [if_neg this]; exact hno _ _ _ h)
    · cases h
  · cases h
end
end Go.Proofs.YtocabeobfbhajaaGreatDoor.Sx
