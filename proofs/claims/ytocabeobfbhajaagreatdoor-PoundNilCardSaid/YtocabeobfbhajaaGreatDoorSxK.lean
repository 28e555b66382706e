/- The reckoner's operations that only reckon: structs made of parts; what all of them do. No program is named here. -/
import Derived.Test.YtocabeobfbhajaaGreatDoorSxJ
set_option linter.unusedVariables false
set_option linter.unusedSimpArgs false
namespace Go.Proofs.YtocabeobfbhajaaGreatDoor.Sx
noncomputable section
open Go Go.RowKit
variable {P : Program}

/-- The cells that a value is. -/
def cellsA : AV → R (List AV)
  | .agg cs => .ok cs
  | .top => .no 141
  | v => .ok [v]
theorem cellsA_ok {σ : Sg} {a : AV} {v : Value} {cs : List AV} (e : cellsA a = .ok cs) (h : V σ a v) : Cs σ cs v.cells.toList := by
  have one : ∀ (a : AV) (v : Value), V σ a v → v.cells = #[v] → cellsA a = .ok [a] → cellsA a = .ok cs → Cs σ cs v.cells.toList := by
    intro a v h e1 e2 e3
    rw [e2] at e3
    cases e3
    rw [e1]
    exact C1_V h
  cases a
  case agg cs => cases e; simp only [V] at h; obtain ⟨l, hl, rfl⟩ := h; exact hl
  case sym i =>
    refine one _ v h ?_ rfl e
    simp only [V] at h
    have h := h.2
    cases v <;> first | rfl | cases h
  case top => cases e
  all_goals
    refine one _ v h ?_ rfl e
    simp only [V] at h
  case ptr => obtain ⟨_, _, rfl⟩ := h; rfl
  case sl => obtain ⟨_, _, _, rfl, _⟩ := h; rfl
  case mp => obtain ⟨_, _, rfl⟩ := h; rfl
  case yl => obtain ⟨_, _, rfl⟩ := h; rfl
  case fn => obtain ⟨_, _, _, _, rfl⟩ := h; rfl
  case ifc => obtain ⟨_, _, rfl⟩ := h; rfl
  case tup => obtain ⟨_, _, rfl⟩ := h; rfl
  all_goals (subst h; rfl)
/-- Parts, by the place of each. -/
def fillA (place : Nat → R (Nat × Nat)) (cs : List AV) : List (Nat × AV) → R (List AV)
  | [] => .ok cs
  | x :: r => (place x.1).bind fun q => (cellsA x.2).bind fun c => match Nat.beq (clen c) q.2 with
    | true => (cput cs q.1 c).bind fun cs' => fillA place cs' r
    | false => .no 142
/-- Parts and what they are held to be. -/
def Ps (σ : Sg) : List (Nat × AV) → List (Nat × Value) → Prop
  | [], l => l = []
  | x :: r, l => ∃ v l', l = (x.1, v) :: l' ∧ V σ x.2 v ∧ Ps σ r l'
theorem fillA_ok {σ : Sg} {place : Nat → R (Nat × Nat)} {place' : Nat → Option (Nat × Nat)} (hp : ∀ i q, place i = .ok q → place' i = some q) : ∀ (ps : List (Nat × AV)) (l : List (Nat × Value)) (cs cs' : List AV) (A : List Value),
    Ps σ ps l → Cs σ cs A → fillA place cs ps = .ok cs' → ∃ B : List Value, Instr.fill place' A.toArray l = some B.toArray ∧ Cs σ cs' B ∧ B.length = A.length
  | [], l, cs, cs', A, h, hc, e => by
    simp only [Ps] at h
    subst h
    cases e
    exact ⟨A, rfl, hc, rfl⟩
  | x :: r, l, cs, cs', A, h, hc, e => by
    simp only [Ps] at h
    obtain ⟨v, l', rfl, h1, h2⟩ := h
    obtain ⟨q, e1, e⟩ := R.bind_ok e
    obtain ⟨c, e2, e⟩ := R.bind_ok e
    split at e
    case h_2 => cases e
    rename_i hb
    obtain ⟨cs1, e3, e⟩ := R.bind_ok e
    have hv := cellsA_ok e2 h1
    have hlen := Cs_length _ _ hv
    have hb' := beq_iff.1 hb
    obtain ⟨g1, g2⟩ := cput_ok hc hv e3
    obtain ⟨B, k1, k2, k3⟩ := fillA_ok hp r l' cs1 cs' _ h2 g2 e
    refine ⟨B, ?_, k2, by rw [k3]; simp; simp at g1; omega⟩
    unfold Instr.fill
    simp only [hp _ _ e1]
    have hsz : v.cells.size = q.2 := by rw [← Array.length_toList, hlen, hb']
    have hsz2 : ¬ (v.cells.size ≠ q.2 ∨ q.1 + v.cells.size > A.toArray.size) := by
      rw [Array.length_toList] at g1
      simp only [List.size_toArray]; omega
    rw [if_neg (by simpa using hsz2)]
    have hf := foldl_set v.cells.toList q.1 A.toArray (by simpa using g1)
    rw [Array.toArray_toList] at hf
    rw [hf, splice_eq]
    exact k1
/-- The places of the fields of a struct. -/
def szAll (P : Program) : List Field → R (List (Nat × Nat))
  | [] => .ok []
  | f :: r => (szA P f.type).bind fun s => (szAll P r).bind fun t => .ok ((f.offset, s) :: t)
theorem szAll_ok (w : World) : ∀ {fs : List Field} {l : List (Nat × Nat)}, szAll P fs = .ok l → (fs.mapM (fun f => do pure (f.offset, ← sizeOf f.type)) : Sem (List (Nat × Nat))).run P w = .ok l w
  | [], l, h => by cases h; rfl
  | f :: r, l, h => by
    obtain ⟨s, h1, h⟩ := R.bind_ok h
    obtain ⟨t, h2, h⟩ := R.bind_ok h
    cases h
    rw [List.mapM_cons]
    simp only [Sem.run_bind, szA_ok h1, Result.andThen_ok, Sem.run_pure, szAll_ok w h2]
def buildA (P : Program) (t : TypeId) (ps : List (Nat × AV)) : R AV := (zeroA P t).bind fun z => (cellsA z).bind fun z => match P.underlying t with
  | some (.struct fs) => (szAll P fs.toList).bind fun l => (fillA (fun i => R.ofO 143 l[i]?) z ps).bind fun cs => .ok (.agg cs)
  | some (.array _ e) => (szA P e).bind fun s => (fillA (fun i => .ok (Nat.mul i s, s)) z ps).bind fun cs => .ok (.agg cs)
  | _ => .no 144
theorem buildA_ok {t : TypeId} {ps : List (Nat × AV)} {l : List (Nat × Value)} {c : AV} {σ : Sg} (h : buildA P t ps = .ok c) (hp : Ps σ ps l) (w : World) : ∃ z, (Instr.build t l.toArray).run P w = .ok z w ∧ V σ c z := by
  obtain ⟨z, h1, h⟩ := R.bind_ok h
  obtain ⟨zc, h2, h⟩ := R.bind_ok h
  obtain ⟨zv, g1, g2⟩ := zeroA_ok h1 w
  have g3 := cellsA_ok h2 (g2 σ)
  unfold Instr.build
  simp only [Sem.run_bind, g1, Result.andThen_ok]
  split at h
  case h_3 => cases h
  · rename_i fs ht
    obtain ⟨q, h3, h⟩ := R.bind_ok h
    obtain ⟨cs, h4, h⟩ := R.bind_ok h
    cases h
    obtain ⟨B, k1, k2, _⟩ := fillA_ok (place' := fun i => q.toArray[i]?) (fun i q h => by rw [List.getElem?_toArray]; exact R.ofO_ok h) _ _ _ _ _ hp g3 h4
    refine ⟨.agg B.toArray, ?_, by simp only [V]; exact ⟨B, k2, rfl⟩⟩
    have hm := szAll_ok (P := P) w h3
    rw [Array.toArray_toList] at k1
    simp only [run_underlying ht, Result.andThen_ok]
    rw [Sem.run_bind, Array.mapM_eq_mapM_toList, Sem.run_map, hm]
    simp only [Result.andThen_ok, k1, Sem.run_pure]
  · rename_i n e ht
    obtain ⟨s, h3, h⟩ := R.bind_ok h
    obtain ⟨cs, h4, h⟩ := R.bind_ok h
    cases h
    obtain ⟨B, k1, k2, _⟩ := fillA_ok (place' := fun i => some (i * s, s)) (fun i q h => by cases h; rfl) _ _ _ _ _ hp g3 h4
    refine ⟨.agg B.toArray, ?_, by simp only [V]; exact ⟨B, k2, rfl⟩⟩
    rw [Array.toArray_toList] at k1
    simp only [run_underlying ht, Result.andThen_ok, Sem.run_bind, szA_ok h3]
    simp only [k1, Sem.run_pure]
/-- len and cap of what need not be read. -/
def lenA (P : Program) (t : TypeId) (a : AV) : R AV := match P.underlying t with
  | some .string => match a with
    | .str n _ => .ok (.int .i64 (.ofNat n))
    | _ => .no 145
  | some (.array n _) => .ok (.int .i64 (.ofNat n))
  | some (.slice _) => match a with
    | .sl _ _ n _ _ => .ok (.int .i64 (.ofNat n))
    | .ns => .ok (.int .i64 (.ofNat 0))
    | _ => .no 146
  | some (.pointer ar) => match P.underlying ar with
    | some (.array n _) => .ok (.int .i64 (.ofNat n))
    | _ => .no 147
  | _ => .no 148
theorem lenA_ok {t ty : TypeId} {a c : AV} {σ : Sg} {u : Value} (h : lenA P t a = .ok c) (hu : V σ a u) (w : World) : ∃ z, (Builtin.len_ #[t] ty #[u]).run P w = .ok z w ∧ V σ c z := by
  unfold lenA at h
  split at h
  case h_5 => cases h
  · rename_i ht
    split at h
    case h_2 => cases h
    rename_i n N
    cases h
    simp only [V] at hu; subst hu
    change ∃ z, (Builtin.len_ #[t] ty #[.string (bstr n N)]).run P w = _ ∧ _
    exact ⟨.int .i64 n, by simp [Builtin.len_, run_underlying ht, bstr_size, goInt], by simp only [V]; rfl⟩
  · rename_i n e ht
    cases h
    exact ⟨.int .i64 n, by simp [Builtin.len_, run_underlying ht, goInt], by simp only [V]; rfl⟩
  · rename_i e ht
    split at h
    case h_3 => cases h
    · rename_i n _ _
      cases h
      simp only [V] at hu; obtain ⟨p, κ, _, rfl, _⟩ := hu
      exact ⟨.int .i64 n, by simp [Builtin.len_, run_underlying ht, goInt], by simp only [V]; rfl⟩
    · cases h
      simp only [V] at hu; subst hu
      exact ⟨.int .i64 0, by simp [Builtin.len_, run_underlying ht, goInt], by simp only [V]; rfl⟩
  · rename_i ar ht
    split at h
    case h_2 => cases h
    rename_i n e ha
    cases h
    exact ⟨.int .i64 n, by simp [Builtin.len_, run_underlying ht, run_underlying ha, goInt], by simp only [V]; rfl⟩
def capA (P : Program) (t : TypeId) (a : AV) : R AV := match P.underlying t with
  | some (.slice _) => match a with
    | .sl _ _ _ c 0 => .ok (.int .i64 (.ofNat c))
    | .ns => .ok (.int .i64 (.ofNat 0))
    | _ => .no 149
  | _ => .no 150
theorem capA_ok {t ty : TypeId} {a c : AV} {σ : Sg} {u : Value} (h : capA P t a = .ok c) (hu : V σ a u) (w : World) : ∃ z, (Builtin.cap_ #[t] ty #[u]).run P w = .ok z w ∧ V σ c z := by
  unfold capA at h
  split at h
  case h_2 => cases h
  rename_i e ht
  split at h
  case h_3 => cases h
  · rename_i cc
    cases h
    simp only [V] at hu
    obtain ⟨p, κ, _, rfl, hk⟩ := hu
    rcases hk with ⟨_, rfl⟩ | ⟨j, e, h0, _, _⟩
    · exact ⟨.int .i64 κ, by simp [Builtin.cap_, run_underlying ht, goInt], by simp only [V]; rfl⟩
    · omega
  · cases h
    simp only [V] at hu; subst hu
    exact ⟨.int .i64 0, by simp [Builtin.cap_, run_underlying ht, goInt], by simp only [V]; rfl⟩
/-- The greatest, the least of numbers. -/
def mxA (mx : Bool) : AV → List AV → R AV
  | a, [] => match a with
    | .int k n => .ok (.int k n)
    | _ => .no 151
  | a, b :: r => match a, b with
    | .int k m, .int _ n => match (match mx with | true => leI n m | false => leI m n) with
      | true => mxA mx (.int k m) r
      | false => mxA mx (.int k n) r
    | _, _ => .no 152
theorem mxA_ok {σ : Sg} (w : World) : ∀ {mx : Bool} (r : List AV) (a c : AV) (u : Value) (l : List Value), mxA mx a r = .ok c → V σ a u → Vs σ r l →
    ∃ z, ((match mx with | true => l.foldlM Builtin.max2 u | false => l.foldlM Builtin.min2 u) : Sem Value).run P w = .ok z w ∧ V σ c z
  | mx, [], a, c, u, l, h, hu, hl => by
    simp only [Vs] at hl
    subst hl
    unfold mxA at h
    split at h
    case h_2 => cases h
    cases h
    exact ⟨u, by cases mx <;> rfl, hu⟩
  | mx, b :: r, a, c, u, l, h, hu, hl => by
    simp only [Vs] at hl
    obtain ⟨y, l', rfl, hy, hl⟩ := hl
    unfold mxA at h
    split at h
    case h_2 => cases h
    rename_i k m k' n
    simp only [V] at hu hy
    subst hu; subst hy
    have key : ∀ q : Int, mxA mx (.int k q) r = .ok c → (match mx with | true => Builtin.max2 (.int k m) (.int k' n) | false => Builtin.min2 (.int k m) (.int k' n) : Sem Value) = pure (.int k q) →
        ∃ z, ((match mx with | true => (Value.int k' n :: l').foldlM Builtin.max2 (.int k m) | false => (Value.int k' n :: l').foldlM Builtin.min2 (.int k m)) : Sem Value).run P w = .ok z w ∧ V σ c z := by
      intro q hq e
      obtain ⟨z, g1, g2⟩ := mxA_ok w (mx := mx) r _ c (.int k q) l' hq (by simp only [V]) hl
      refine ⟨z, ?_, g2⟩
      cases mx <;> (dsimp only at e g1 ⊢; rw [List.foldlM_cons, e]; exact g1)
    split at h
    · rename_i hle
      refine key m h ?_
      cases mx
      · simp only [leI_eq] at hle
        have : m ≤ n := by simpa using hle
        simp only [Builtin.min2]; rw [if_neg (by omega)]
      · simp only [leI_eq] at hle
        have : n ≤ m := by simpa using hle
        simp only [Builtin.max2]; rw [if_neg (by omega)]
    · rename_i hle
      refine key n h ?_
      cases mx
      · simp only [leI_eq] at hle
        have : ¬ m ≤ n := by simpa using hle
        simp only [Builtin.min2]; rw [if_pos (by omega)]
      · simp only [leI_eq] at hle
        have : ¬ n ≤ m := by simpa using hle
        simp only [Builtin.max2]; rw [if_pos (by omega)]
end
end Go.Proofs.YtocabeobfbhajaaGreatDoor.Sx
