/- The values, blocks and worlds of the reckoner, and what they say of the model's. No program is named here. -/
import Derived.Test.YtocabeobfbhajaaGreatDoorSxA
import Derived.WalkKit
import Derived.Below
set_option linter.unusedVariables false
namespace Go.Proofs.YtocabeobfbhajaaGreatDoor.Sx
noncomputable section
open Go

/-- A value: pointers lead to named blocks; cells of bytes are packed; the capacity of a slice is c, or (x = i + 1) c and what the i-th draw added. -/
inductive AV where
  | bool (b : Bool)
  | int (k : IntKind) (n : Int)
  | str (n N : Nat)
  | ptr (b o : Nat)
  | np
  | sl (b o n c x : Nat)
  | ns
  | mp (b : Nat)
  | nm
  | fn (f : Fn) (first cap : List AV)
  | nf
  | ifc (t : Nat) (v : AV)
  | ni
  | agg (cs : List AV)
  | bs (n N : Nat)
  | top
  | tup (vs : List AV)
  | sym (i : Nat)
  | yl (b : Nat)

/-- What the names stand for: a block and a place in it; what a draw added to a capacity; values that are not looked into. -/
structure Sg where
  bl : Nat → Option (Nat × Nat)
  cp : Nat → Option Nat
  sy : Nat → Value

def bcellN (b : UInt8) : Value := .int .u8 b.toNat
def bcs (n N : Nat) : List Value := (unpack n N).map bcellN
mutual
def V (σ : Sg) : AV → Value → Prop
  | .bool b, x => x = .bool b
  | .int k n, x => x = .int k n
  | .str n N, x => x = .string ⟨(unpack n N).toArray⟩
  | .ptr b o, x => ∃ p, σ.bl b = some p ∧ x = .pointer (some ⟨p.1, p.2 + o, none⟩)
  | .np, x => x = .pointer none
  | .sl b o n c i, x => ∃ p κ, σ.bl b = some p ∧ x = .slice (some ⟨p.1, p.2 + o, none⟩) n κ ∧ (i = 0 ∧ κ = c ∨ ∃ j e, i = j + 1 ∧ σ.cp j = some e ∧ κ = c + e)
  | .ns, x => x = .slice none 0 0
  | .mp b, x => ∃ p, σ.bl b = some p ∧ x = .map (some p.1)
  | .nm, x => x = .map none
  | .fn f fs cs, x => ∃ a b, Vs σ fs a ∧ Vs σ cs b ∧ x = .func f a.toArray b.toArray
  | .nf, x => x = .nilFunc
  | .ifc t v, x => ∃ y, V σ v y ∧ x = .iface t y
  | .ni, x => x = .nilIface
  | .agg cs, x => ∃ l, Cs σ cs l ∧ x = .agg l.toArray
  | .bs _ _, _ => False
  | .top, _ => True
  | .tup vs, x => ∃ l, Vs σ vs l ∧ x = .tuple l.toArray
  | .sym i, x => x = σ.sy i ∧ x.oneCell' = true
  | .yl b, x => ∃ p, σ.bl b = some p ∧ x = .func (.yield p.1) #[] #[]
def Vs (σ : Sg) : List AV → List Value → Prop
  | [], l => l = []
  | v :: r, l => ∃ x l', l = x :: l' ∧ V σ v x ∧ Vs σ r l'
def Cs (σ : Sg) : List AV → List Value → Prop
  | [], l => l = []
  | .bs n N :: r, l => ∃ l', l = bcs n N ++ l' ∧ Cs σ r l'
  | .top :: r, l => ∃ x l', l = x :: l' ∧ Cs σ r l'
  | v :: r, l => ∃ x l', l = x :: l' ∧ V σ v x ∧ Cs σ r l'
end
def Sg.le (σ τ : Sg) : Prop := (∀ n p, σ.bl n = some p → τ.bl n = some p) ∧ (∀ n e, σ.cp n = some e → τ.cp n = some e) ∧ τ.sy = σ.sy
theorem Sg.le_refl (σ : Sg) : σ.le σ := ⟨fun _ _ h => h, fun _ _ h => h, rfl⟩
theorem Sg.le_trans {σ τ ρ : Sg} (h : σ.le τ) (g : τ.le ρ) : σ.le ρ := ⟨fun n p e => g.1 n p (h.1 n p e), fun n p e => g.2.1 n p (h.2.1 n p e), g.2.2.trans h.2.2⟩

theorem Cs_cons {σ : Sg} {v : AV} {r : List AV} {l : List Value} : Cs σ (v :: r) l ↔
    (∃ n N l', v = .bs n N ∧ l = bcs n N ++ l' ∧ Cs σ r l') ∨ (∃ x l', v = .top ∧ l = x :: l' ∧ Cs σ r l') ∨
    (∃ x l', l = x :: l' ∧ V σ v x ∧ Cs σ r l') := by
  cases v
  case bs n N =>
    simp only [Cs, AV.bs.injEq, V, false_and, and_false, exists_false, or_false, reduceCtorEq]
    exact ⟨fun ⟨a, b, c⟩ => ⟨n, N, a, ⟨rfl, rfl⟩, b, c⟩, fun ⟨n', N', a, ⟨h1, h2⟩, b, c⟩ => by subst h1; subst h2; exact ⟨a, b, c⟩⟩
  all_goals simp [Cs, V]
mutual
theorem V_mono {σ τ : Sg} (h : σ.le τ) : ∀ (v : AV) (x : Value), V σ v x → V τ v x
  | .bool b, x, e => by simpa [V] using e
  | .int k n, x, e => by simpa [V] using e
  | .str n N, x, e => by simpa [V] using e
  | .ptr b o, x, e => by simp only [V] at e ⊢; obtain ⟨p, hp, e⟩ := e; exact ⟨p, h.1 _ _ hp, e⟩
  | .np, x, e => by simpa [V] using e
  | .sl b o n c i, x, e => by
    simp only [V] at e ⊢
    obtain ⟨p, κ, hp, e, hc⟩ := e
    refine ⟨p, κ, h.1 _ _ hp, e, ?_⟩
    rcases hc with hc | ⟨j, a, h1, h2, h3⟩
    · exact .inl hc
    · exact .inr ⟨j, a, h1, h.2.1 _ _ h2, h3⟩
  | .ns, x, e => by simpa [V] using e
  | .mp b, x, e => by simp only [V] at e ⊢; obtain ⟨p, hp, e⟩ := e; exact ⟨p, h.1 _ _ hp, e⟩
  | .nm, x, e => by simpa [V] using e
  | .fn f fs cs, x, e => by simp only [V] at e ⊢; obtain ⟨a, b, ha, hb, e⟩ := e; exact ⟨a, b, Vs_mono h _ _ ha, Vs_mono h _ _ hb, e⟩
  | .nf, x, e => by simpa [V] using e
  | .ifc t v, x, e => by simp only [V] at e ⊢; obtain ⟨y, hy, e⟩ := e; exact ⟨y, V_mono h _ _ hy, e⟩
  | .ni, x, e => by simpa [V] using e
  | .agg cs, x, e => by simp only [V] at e ⊢; obtain ⟨l, hl, e⟩ := e; exact ⟨l, Cs_mono h _ _ hl, e⟩
  | .bs _ _, x, e => by simp only [V] at e
  | .top, x, e => by simp only [V]
  | .tup vs, x, e => by simp only [V] at e ⊢; obtain ⟨l, hl, e⟩ := e; exact ⟨l, Vs_mono h _ _ hl, e⟩
  | .sym i, x, e => by simp only [V] at e ⊢; rw [h.2.2]; exact e
  | .yl b, x, e => by simp only [V] at e ⊢; obtain ⟨p, hp, e⟩ := e; exact ⟨p, h.1 _ _ hp, e⟩
theorem Vs_mono {σ τ : Sg} (h : σ.le τ) : ∀ (v : List AV) (x : List Value), Vs σ v x → Vs τ v x
  | [], x, e => by simpa [Vs] using e
  | v :: r, x, e => by simp only [Vs] at e ⊢; obtain ⟨y, l, e, h1, h2⟩ := e; exact ⟨y, l, e, V_mono h _ _ h1, Vs_mono h _ _ h2⟩
theorem Cs_mono {σ τ : Sg} (h : σ.le τ) : ∀ (v : List AV) (x : List Value), Cs σ v x → Cs τ v x
  | [], x, e => by simpa [Cs] using e
  | v :: r, x, e => by
    rw [Cs_cons] at e ⊢
    rcases e with ⟨n, N, l', h0, h1, h2⟩ | ⟨y, l', h0, h1, h2⟩ | ⟨y, l', h1, h2, h3⟩
    · exact .inl ⟨n, N, l', h0, h1, Cs_mono h _ _ h2⟩
    · exact .inr (.inl ⟨y, l', h0, h1, Cs_mono h _ _ h2⟩)
    · exact .inr (.inr ⟨y, l', h1, V_mono h _ _ h2, Cs_mono h _ _ h3⟩)
end

/-! ### Cells -/
theorem bcs_length (n N : Nat) : (bcs n N).length = n := by simp [bcs, unpack_length]
theorem bcs_get (n N i : Nat) (h : i < n) : (bcs n N)[i]? = some (.int .u8 (bget N i)) := by
  rw [bcs, List.getElem?_map, unpack_bget n N i h]
  simp [bcellN, Nat.mod_eq_of_lt (bget_lt N i)]
/-- How many cells an entry of a list of cells is. -/
def csz (v : AV) : Nat := match v with | .bs n _ => n | _ => 1
def clen : List AV → Nat
  | [] => 0
  | v :: r => Nat.add (csz v) (clen r)
theorem Cs_length {σ : Sg} : ∀ (v : List AV) (l : List Value), Cs σ v l → l.length = clen v
  | [], l, e => by simp only [Cs] at e; subst e; rfl
  | v :: r, l, e => by
    rw [Cs_cons] at e
    rcases e with ⟨n, N, l', rfl, rfl, h2⟩ | ⟨y, l', rfl, rfl, h2⟩ | ⟨y, l', rfl, h2, h3⟩
    · simp [clen, csz, bcs_length, Cs_length _ _ h2]
    · simp only [clen, csz, List.length_cons, Cs_length _ _ h2, Nat.add_eq]; omega
    · have : csz v = 1 := by cases v <;> first | rfl | simp [V] at h2
      simp only [clen, this, List.length_cons, Cs_length _ _ h3, Nat.add_eq]; omega
theorem Cs_append {σ : Sg} : ∀ (a b : List AV) (l m : List Value), Cs σ a l → Cs σ b m → Cs σ (a ++ b) (l ++ m)
  | [], b, l, m, e, g => by simp only [Cs] at e; subst e; simpa using g
  | v :: r, b, l, m, e, g => by
    rw [List.cons_append, Cs_cons]
    rw [Cs_cons] at e
    rcases e with ⟨n, N, l', rfl, rfl, h2⟩ | ⟨y, l', rfl, rfl, h2⟩ | ⟨y, l', rfl, h2, h3⟩
    · exact .inl ⟨n, N, l' ++ m, rfl, by simp, Cs_append _ _ _ _ h2 g⟩
    · exact .inr (.inl ⟨y, l' ++ m, rfl, by simp, Cs_append _ _ _ _ h2 g⟩)
    · exact .inr (.inr ⟨y, l' ++ m, by simp, h2, Cs_append _ _ _ _ h3 g⟩)
/-- An entry in front of a list of cells: bytes are packed together. -/
def ccons (v : AV) (r : List AV) : List AV :=
  match v with
  | .int .u8 (.ofNat b) => match Nat.ble 256 b with
    | true => v :: r
    | false => match r with
      | .bs m M :: t => .bs (Nat.succ m) (bcat 1 b M) :: t
      | r => .bs 1 b :: r
  | .bs n N => match n with
    | 0 => r
    | _ => match r with
      | .bs m M :: t => .bs (Nat.add n m) (bcat n N M) :: t
      | r => .bs n N :: r
  | v => v :: r
theorem bcs_append (n m A B : Nat) : bcs (n + m) (bcat n A B) = bcs n A ++ bcs m B := by simp [bcs, unpack_bcat]
theorem bcs_one (b : Nat) : bcs 1 b = [.int .u8 (b % 256 : Nat)] := by simp [bcs, unpack, bcellN]
/-- An entry and the cells it is. -/
def C1 (σ : Sg) (v : AV) (l : List Value) : Prop := Cs σ [v] l
theorem C1_cons {σ : Sg} {v : AV} {r : List AV} {l m : List Value} (h : C1 σ v l) (g : Cs σ r m) : Cs σ (v :: r) (l ++ m) := Cs_append [v] r l m h g
theorem Cs_split {σ : Sg} {v : AV} {r : List AV} {l : List Value} (h : Cs σ (v :: r) l) : ∃ a b, l = a ++ b ∧ C1 σ v a ∧ Cs σ r b ∧ a.length = csz v := by
  have key : ∃ a b, l = a ++ b ∧ C1 σ v a ∧ Cs σ r b := by
    rw [Cs_cons] at h
    rcases h with ⟨n, N, l', rfl, rfl, h2⟩ | ⟨y, l', rfl, rfl, h2⟩ | ⟨y, l', rfl, h2, h3⟩
    · exact ⟨_, _, rfl, by unfold C1; rw [Cs_cons]; exact .inl ⟨n, N, [], rfl, by simp, by simp [Cs]⟩, h2⟩
    · exact ⟨[y], l', rfl, by unfold C1; rw [Cs_cons]; exact .inr (.inl ⟨y, [], rfl, rfl, by simp [Cs]⟩), h2⟩
    · exact ⟨[y], l', rfl, by unfold C1; rw [Cs_cons]; exact .inr (.inr ⟨y, [], rfl, h2, by simp [Cs]⟩), h3⟩
  obtain ⟨a, b, h1, h2, h3⟩ := key
  exact ⟨a, b, h1, h2, h3, by have := Cs_length _ _ h2; simpa [clen] using this⟩
theorem C1_bs {σ : Sg} {n N : Nat} {l : List Value} : C1 σ (.bs n N) l ↔ l = bcs n N := by
  unfold C1; simp [Cs]
theorem Cs_bs {σ : Sg} {n N : Nat} {r : List AV} {l : List Value} : Cs σ (.bs n N :: r) l ↔ ∃ m, l = bcs n N ++ m ∧ Cs σ r m := by simp [Cs]
theorem C1_V {σ : Sg} {v : AV} {x : Value} (h : V σ v x) : C1 σ v [x] := by
  unfold C1; rw [Cs_cons]; exact .inr (.inr ⟨x, [], rfl, h, by simp [Cs]⟩)
theorem Cs_ccons {σ : Sg} {v : AV} {r : List AV} {l m : List Value} (h : C1 σ v l) (g : Cs σ r m) : Cs σ (ccons v r) (l ++ m) := by
  unfold ccons
  split
  · rename_i b
    split
    · exact C1_cons h g
    · rename_i hb
      have hb' : b < 256 := by
        rcases Nat.lt_or_ge b 256 with h' | h'
        · exact h'
        · rw [Nat.ble_eq_true_of_le h'] at hb; cases hb
      have hl : l = bcs 1 b := by
        unfold C1 at h
        simp only [Cs, V] at h
        obtain ⟨x, l', rfl, rfl, rfl⟩ := h
        rw [bcs_one, Nat.mod_eq_of_lt hb']
        rfl
      subst hl
      split
      · rename_i k M t
        rw [Cs_bs] at g ⊢
        obtain ⟨m', rfl, g⟩ := g
        refine ⟨m', ?_, g⟩
        rw [Nat.succ_eq_add_one, Nat.add_comm k 1, bcs_append, List.append_assoc]
      · exact Cs_bs.2 ⟨_, rfl, g⟩
  · rename_i n N
    rw [C1_bs] at h
    subst h
    split
    · simpa [bcs, unpack] using g
    · split
      · rename_i k M t
        rw [Cs_bs] at g ⊢
        obtain ⟨m', rfl, g⟩ := g
        exact ⟨m', by rw [Nat.add_eq, bcs_append, List.append_assoc], g⟩
      · exact Cs_bs.2 ⟨_, rfl, g⟩
  · exact C1_cons h g

/-! ### Eight places -/
structure B8 (α : Type) where
  (a b c d e f g h : α)
inductive D8 where
  | d0 | d1 | d2 | d3 | d4 | d5 | d6 | d7
  deriving DecidableEq
/-- A digit of a number, to the base of 8. -/
noncomputable def dig (k : Nat) : D8 := Bool.rec (Bool.rec (Bool.rec (Bool.rec (Bool.rec (Bool.rec (Bool.rec .d7 .d6 (Nat.beq (Nat.mod k 8) 6)) .d5 (Nat.beq (Nat.mod k 8) 5)) .d4 (Nat.beq (Nat.mod k 8) 4)) .d3 (Nat.beq (Nat.mod k 8) 3)) .d2 (Nat.beq (Nat.mod k 8) 2)) .d1 (Nat.beq (Nat.mod k 8) 1)) .d0 (Nat.beq (Nat.mod k 8) 0)
def D8.num : D8 → Nat
  | .d0 => 0 | .d1 => 1 | .d2 => 2 | .d3 => 3 | .d4 => 4 | .d5 => 5 | .d6 => 6 | .d7 => 7
theorem dig_num (k : Nat) : (dig k).num = k % 8 := by
  have h : ∀ r : Nat, r < 8 → D8.num (Bool.rec (Bool.rec (Bool.rec (Bool.rec (Bool.rec (Bool.rec (Bool.rec .d7 .d6 (Nat.beq r 6)) .d5 (Nat.beq r 5)) .d4 (Nat.beq r 4)) .d3 (Nat.beq r 3)) .d2 (Nat.beq r 2)) .d1 (Nat.beq r 1)) .d0 (Nat.beq r 0)) = r := by
    intro r h
    match r, h with
    | 0, _ => rfl
    | 1, _ => rfl
    | 2, _ => rfl
    | 3, _ => rfl
    | 4, _ => rfl
    | 5, _ => rfl
    | 6, _ => rfl
    | 7, _ => rfl
    | n + 8, h => omega
  exact h (k % 8) (Nat.mod_lt _ (by omega))
section
variable {α : Type}
def sel (d : D8) (t : B8 α) : α := match d with
  | .d0 => t.a
  | .d1 => t.b
  | .d2 => t.c
  | .d3 => t.d
  | .d4 => t.e
  | .d5 => t.f
  | .d6 => t.g
  | .d7 => t.h
def set8 (d : D8) (x : α) (t : B8 α) : B8 α := match d with
  | .d0 => ⟨x, t.b, t.c, t.d, t.e, t.f, t.g, t.h⟩
  | .d1 => ⟨t.a, x, t.c, t.d, t.e, t.f, t.g, t.h⟩
  | .d2 => ⟨t.a, t.b, x, t.d, t.e, t.f, t.g, t.h⟩
  | .d3 => ⟨t.a, t.b, t.c, x, t.e, t.f, t.g, t.h⟩
  | .d4 => ⟨t.a, t.b, t.c, t.d, x, t.f, t.g, t.h⟩
  | .d5 => ⟨t.a, t.b, t.c, t.d, t.e, x, t.g, t.h⟩
  | .d6 => ⟨t.a, t.b, t.c, t.d, t.e, t.f, x, t.h⟩
  | .d7 => ⟨t.a, t.b, t.c, t.d, t.e, t.f, t.g, x⟩
theorem sel_set (d d' : D8) (x : α) (t : B8 α) : sel d (set8 d' x t) = if d = d' then x else sel d t := by
  cases d <;> cases d' <;> rfl
def all8 (x : α) : B8 α := ⟨x, x, x, x, x, x, x, x⟩
theorem sel_all (d : D8) (x : α) : sel d (all8 x) = x := by cases d <;> rfl
end
/-! ### tm1 -/
abbrev Tm1 := B8 AV
noncomputable def tm1s0 (t : Tm1) : AV := B8.rec (motive := fun _ => AV) (fun a b c d e f g h => a) t
noncomputable def tm1s1 (t : Tm1) : AV := B8.rec (motive := fun _ => AV) (fun a b c d e f g h => b) t
noncomputable def tm1s2 (t : Tm1) : AV := B8.rec (motive := fun _ => AV) (fun a b c d e f g h => c) t
noncomputable def tm1s3 (t : Tm1) : AV := B8.rec (motive := fun _ => AV) (fun a b c d e f g h => d) t
noncomputable def tm1s4 (t : Tm1) : AV := B8.rec (motive := fun _ => AV) (fun a b c d e f g h => e) t
noncomputable def tm1s5 (t : Tm1) : AV := B8.rec (motive := fun _ => AV) (fun a b c d e f g h => f) t
noncomputable def tm1s6 (t : Tm1) : AV := B8.rec (motive := fun _ => AV) (fun a b c d e f g h => g) t
noncomputable def tm1s7 (t : Tm1) : AV := B8.rec (motive := fun _ => AV) (fun a b c d e f g h => h) t
noncomputable def tm1s (d : D8) : Tm1 → AV := D8.rec (motive := fun _ => Tm1 → AV) tm1s0 tm1s1 tm1s2 tm1s3 tm1s4 tm1s5 tm1s6 tm1s7 d
theorem tm1s_eq (d : D8) (t : Tm1) : tm1s d t = sel d t := by cases d <;> rfl
noncomputable def tm1u0 (β : Type) (q : AV → (AV → β) → β) (t : Tm1) (k : Tm1 → β) : β := B8.rec (motive := fun _ => β) (fun a b c d e f g h => q a (fun x => k ⟨x, b, c, d, e, f, g, h⟩)) t
noncomputable def tm1u1 (β : Type) (q : AV → (AV → β) → β) (t : Tm1) (k : Tm1 → β) : β := B8.rec (motive := fun _ => β) (fun a b c d e f g h => q b (fun x => k ⟨a, x, c, d, e, f, g, h⟩)) t
noncomputable def tm1u2 (β : Type) (q : AV → (AV → β) → β) (t : Tm1) (k : Tm1 → β) : β := B8.rec (motive := fun _ => β) (fun a b c d e f g h => q c (fun x => k ⟨a, b, x, d, e, f, g, h⟩)) t
noncomputable def tm1u3 (β : Type) (q : AV → (AV → β) → β) (t : Tm1) (k : Tm1 → β) : β := B8.rec (motive := fun _ => β) (fun a b c d e f g h => q d (fun x => k ⟨a, b, c, x, e, f, g, h⟩)) t
noncomputable def tm1u4 (β : Type) (q : AV → (AV → β) → β) (t : Tm1) (k : Tm1 → β) : β := B8.rec (motive := fun _ => β) (fun a b c d e f g h => q e (fun x => k ⟨a, b, c, d, x, f, g, h⟩)) t
noncomputable def tm1u5 (β : Type) (q : AV → (AV → β) → β) (t : Tm1) (k : Tm1 → β) : β := B8.rec (motive := fun _ => β) (fun a b c d e f g h => q f (fun x => k ⟨a, b, c, d, e, x, g, h⟩)) t
noncomputable def tm1u6 (β : Type) (q : AV → (AV → β) → β) (t : Tm1) (k : Tm1 → β) : β := B8.rec (motive := fun _ => β) (fun a b c d e f g h => q g (fun x => k ⟨a, b, c, d, e, f, x, h⟩)) t
noncomputable def tm1u7 (β : Type) (q : AV → (AV → β) → β) (t : Tm1) (k : Tm1 → β) : β := B8.rec (motive := fun _ => β) (fun a b c d e f g h => q h (fun x => k ⟨a, b, c, d, e, f, g, x⟩)) t
noncomputable def tm1u (d : D8) : (β : Type) → (AV → (AV → β) → β) → Tm1 → (Tm1 → β) → β := D8.rec (motive := fun _ => (β : Type) → (AV → (AV → β) → β) → Tm1 → (Tm1 → β) → β) tm1u0 tm1u1 tm1u2 tm1u3 tm1u4 tm1u5 tm1u6 tm1u7 d
theorem tm1u_eq (d : D8) (β : Type) (q : AV → (AV → β) → β) (t : Tm1) (k : Tm1 → β) : tm1u d β q t k = q (sel d t) (fun x => k (set8 d x t)) := by cases d <;> rfl
/-! ### tm2 -/
abbrev Tm2 := B8 Tm1
noncomputable def tm2s0 (t : Tm2) : Tm1 := B8.rec (motive := fun _ => Tm1) (fun a b c d e f g h => a) t
noncomputable def tm2s1 (t : Tm2) : Tm1 := B8.rec (motive := fun _ => Tm1) (fun a b c d e f g h => b) t
noncomputable def tm2s2 (t : Tm2) : Tm1 := B8.rec (motive := fun _ => Tm1) (fun a b c d e f g h => c) t
noncomputable def tm2s3 (t : Tm2) : Tm1 := B8.rec (motive := fun _ => Tm1) (fun a b c d e f g h => d) t
noncomputable def tm2s4 (t : Tm2) : Tm1 := B8.rec (motive := fun _ => Tm1) (fun a b c d e f g h => e) t
noncomputable def tm2s5 (t : Tm2) : Tm1 := B8.rec (motive := fun _ => Tm1) (fun a b c d e f g h => f) t
noncomputable def tm2s6 (t : Tm2) : Tm1 := B8.rec (motive := fun _ => Tm1) (fun a b c d e f g h => g) t
noncomputable def tm2s7 (t : Tm2) : Tm1 := B8.rec (motive := fun _ => Tm1) (fun a b c d e f g h => h) t
noncomputable def tm2s (d : D8) : Tm2 → Tm1 := D8.rec (motive := fun _ => Tm2 → Tm1) tm2s0 tm2s1 tm2s2 tm2s3 tm2s4 tm2s5 tm2s6 tm2s7 d
theorem tm2s_eq (d : D8) (t : Tm2) : tm2s d t = sel d t := by cases d <;> rfl
noncomputable def tm2u0 (β : Type) (q : Tm1 → (Tm1 → β) → β) (t : Tm2) (k : Tm2 → β) : β := B8.rec (motive := fun _ => β) (fun a b c d e f g h => q a (fun x => k ⟨x, b, c, d, e, f, g, h⟩)) t
noncomputable def tm2u1 (β : Type) (q : Tm1 → (Tm1 → β) → β) (t : Tm2) (k : Tm2 → β) : β := B8.rec (motive := fun _ => β) (fun a b c d e f g h => q b (fun x => k ⟨a, x, c, d, e, f, g, h⟩)) t
noncomputable def tm2u2 (β : Type) (q : Tm1 → (Tm1 → β) → β) (t : Tm2) (k : Tm2 → β) : β := B8.rec (motive := fun _ => β) (fun a b c d e f g h => q c (fun x => k ⟨a, b, x, d, e, f, g, h⟩)) t
noncomputable def tm2u3 (β : Type) (q : Tm1 → (Tm1 → β) → β) (t : Tm2) (k : Tm2 → β) : β := B8.rec (motive := fun _ => β) (fun a b c d e f g h => q d (fun x => k ⟨a, b, c, x, e, f, g, h⟩)) t
noncomputable def tm2u4 (β : Type) (q : Tm1 → (Tm1 → β) → β) (t : Tm2) (k : Tm2 → β) : β := B8.rec (motive := fun _ => β) (fun a b c d e f g h => q e (fun x => k ⟨a, b, c, d, x, f, g, h⟩)) t
noncomputable def tm2u5 (β : Type) (q : Tm1 → (Tm1 → β) → β) (t : Tm2) (k : Tm2 → β) : β := B8.rec (motive := fun _ => β) (fun a b c d e f g h => q f (fun x => k ⟨a, b, c, d, e, x, g, h⟩)) t
noncomputable def tm2u6 (β : Type) (q : Tm1 → (Tm1 → β) → β) (t : Tm2) (k : Tm2 → β) : β := B8.rec (motive := fun _ => β) (fun a b c d e f g h => q g (fun x => k ⟨a, b, c, d, e, f, x, h⟩)) t
noncomputable def tm2u7 (β : Type) (q : Tm1 → (Tm1 → β) → β) (t : Tm2) (k : Tm2 → β) : β := B8.rec (motive := fun _ => β) (fun a b c d e f g h => q h (fun x => k ⟨a, b, c, d, e, f, g, x⟩)) t
noncomputable def tm2u (d : D8) : (β : Type) → (Tm1 → (Tm1 → β) → β) → Tm2 → (Tm2 → β) → β := D8.rec (motive := fun _ => (β : Type) → (Tm1 → (Tm1 → β) → β) → Tm2 → (Tm2 → β) → β) tm2u0 tm2u1 tm2u2 tm2u3 tm2u4 tm2u5 tm2u6 tm2u7 d
theorem tm2u_eq (d : D8) (β : Type) (q : Tm1 → (Tm1 → β) → β) (t : Tm2) (k : Tm2 → β) : tm2u d β q t k = q (sel d t) (fun x => k (set8 d x t)) := by cases d <;> rfl
/-! ### tm3 -/
abbrev Tm3 := B8 Tm2
noncomputable def tm3s0 (t : Tm3) : Tm2 := B8.rec (motive := fun _ => Tm2) (fun a b c d e f g h => a) t
noncomputable def tm3s1 (t : Tm3) : Tm2 := B8.rec (motive := fun _ => Tm2) (fun a b c d e f g h => b) t
noncomputable def tm3s2 (t : Tm3) : Tm2 := B8.rec (motive := fun _ => Tm2) (fun a b c d e f g h => c) t
noncomputable def tm3s3 (t : Tm3) : Tm2 := B8.rec (motive := fun _ => Tm2) (fun a b c d e f g h => d) t
noncomputable def tm3s4 (t : Tm3) : Tm2 := B8.rec (motive := fun _ => Tm2) (fun a b c d e f g h => e) t
noncomputable def tm3s5 (t : Tm3) : Tm2 := B8.rec (motive := fun _ => Tm2) (fun a b c d e f g h => f) t
noncomputable def tm3s6 (t : Tm3) : Tm2 := B8.rec (motive := fun _ => Tm2) (fun a b c d e f g h => g) t
noncomputable def tm3s7 (t : Tm3) : Tm2 := B8.rec (motive := fun _ => Tm2) (fun a b c d e f g h => h) t
noncomputable def tm3s (d : D8) : Tm3 → Tm2 := D8.rec (motive := fun _ => Tm3 → Tm2) tm3s0 tm3s1 tm3s2 tm3s3 tm3s4 tm3s5 tm3s6 tm3s7 d
theorem tm3s_eq (d : D8) (t : Tm3) : tm3s d t = sel d t := by cases d <;> rfl
noncomputable def tm3u0 (β : Type) (q : Tm2 → (Tm2 → β) → β) (t : Tm3) (k : Tm3 → β) : β := B8.rec (motive := fun _ => β) (fun a b c d e f g h => q a (fun x => k ⟨x, b, c, d, e, f, g, h⟩)) t
noncomputable def tm3u1 (β : Type) (q : Tm2 → (Tm2 → β) → β) (t : Tm3) (k : Tm3 → β) : β := B8.rec (motive := fun _ => β) (fun a b c d e f g h => q b (fun x => k ⟨a, x, c, d, e, f, g, h⟩)) t
noncomputable def tm3u2 (β : Type) (q : Tm2 → (Tm2 → β) → β) (t : Tm3) (k : Tm3 → β) : β := B8.rec (motive := fun _ => β) (fun a b c d e f g h => q c (fun x => k ⟨a, b, x, d, e, f, g, h⟩)) t
noncomputable def tm3u3 (β : Type) (q : Tm2 → (Tm2 → β) → β) (t : Tm3) (k : Tm3 → β) : β := B8.rec (motive := fun _ => β) (fun a b c d e f g h => q d (fun x => k ⟨a, b, c, x, e, f, g, h⟩)) t
noncomputable def tm3u4 (β : Type) (q : Tm2 → (Tm2 → β) → β) (t : Tm3) (k : Tm3 → β) : β := B8.rec (motive := fun _ => β) (fun a b c d e f g h => q e (fun x => k ⟨a, b, c, d, x, f, g, h⟩)) t
noncomputable def tm3u5 (β : Type) (q : Tm2 → (Tm2 → β) → β) (t : Tm3) (k : Tm3 → β) : β := B8.rec (motive := fun _ => β) (fun a b c d e f g h => q f (fun x => k ⟨a, b, c, d, e, x, g, h⟩)) t
noncomputable def tm3u6 (β : Type) (q : Tm2 → (Tm2 → β) → β) (t : Tm3) (k : Tm3 → β) : β := B8.rec (motive := fun _ => β) (fun a b c d e f g h => q g (fun x => k ⟨a, b, c, d, e, f, x, h⟩)) t
noncomputable def tm3u7 (β : Type) (q : Tm2 → (Tm2 → β) → β) (t : Tm3) (k : Tm3 → β) : β := B8.rec (motive := fun _ => β) (fun a b c d e f g h => q h (fun x => k ⟨a, b, c, d, e, f, g, x⟩)) t
noncomputable def tm3u (d : D8) : (β : Type) → (Tm2 → (Tm2 → β) → β) → Tm3 → (Tm3 → β) → β := D8.rec (motive := fun _ => (β : Type) → (Tm2 → (Tm2 → β) → β) → Tm3 → (Tm3 → β) → β) tm3u0 tm3u1 tm3u2 tm3u3 tm3u4 tm3u5 tm3u6 tm3u7 d
theorem tm3u_eq (d : D8) (β : Type) (q : Tm2 → (Tm2 → β) → β) (t : Tm3) (k : Tm3 → β) : tm3u d β q t k = q (sel d t) (fun x => k (set8 d x t)) := by cases d <;> rfl
inductive PT where
  | no
  | yes (y3 y2 y1 : D8)
noncomputable def toPT (k : Nat) : PT := Bool.rec .no (.yes (dig (Nat.div k 64)) (dig (Nat.div k 8)) (dig k)) (Nat.ble k 511)
theorem toPT_yes {k : Nat} (h : k < 512) : toPT k = .yes (dig (k / 64)) (dig (k / 8)) (dig k) := by
  unfold toPT
  rw [show Nat.ble k 511 = true from Nat.ble_eq_true_of_le (by omega)]
  rfl
theorem toPT_no {k : Nat} (h : ¬ k < 512) : toPT k = .no := by
  unfold toPT
  have hb : Nat.ble k 511 = false := by
    cases hb : Nat.ble k 511 with
    | false => rfl
    | true => exact absurd (Nat.le_of_ble_eq_true hb) (by omega)
  rw [hb]
abbrev Tm := Tm3
noncomputable def Tm.get (t : Tm) (k : Nat) : AV := PT.rec (motive := fun _ => Tm → AV) (fun _ => (.tup [])) (fun y3 y2 y1 t => (tm1s y1 (tm2s y2 (tm3s y3 t)))) (toPT k) t
noncomputable def Tm.put (x : AV) (t : Tm) (k : Nat) : Tm := PT.rec (motive := fun _ => AV → Tm → Tm) (fun _ t => t) (fun y3 y2 y1 x t => (fun t k => tm3u y3 Tm (fun t k => tm2u y2 Tm (fun t k => tm1u y1 Tm (fun _ k => k x) t k) t k) t k) t (fun t => t)) (toPT k) x t
def Tm.lf1 : Tm1 := ⟨(.tup []), (.tup []), (.tup []), (.tup []), (.tup []), (.tup []), (.tup []), (.tup [])⟩
def Tm.lf2 : Tm2 := ⟨Tm.lf1, Tm.lf1, Tm.lf1, Tm.lf1, Tm.lf1, Tm.lf1, Tm.lf1, Tm.lf1⟩
def Tm.lf3 : Tm3 := ⟨Tm.lf2, Tm.lf2, Tm.lf2, Tm.lf2, Tm.lf2, Tm.lf2, Tm.lf2, Tm.lf2⟩
abbrev Tm.lf : Tm := Tm.lf3
theorem Tm.get_lf (k : Nat) : Tm.lf.get k = (.tup []) := by
  unfold Tm.get
  cases toPT k with
  | no => rfl
  | yes y3 y2 y1 =>
    show (tm1s y1 (tm2s y2 (tm3s y3 Tm.lf))) = (.tup [])
    simp only [tm3s_eq, tm2s_eq, tm1s_eq]
    rw [show sel y3 Tm.lf3 = Tm.lf2 from sel_all y3 _]
    rw [show sel y2 Tm.lf2 = Tm.lf1 from sel_all y2 _]
    rw [show sel y1 Tm.lf1 = (.tup []) from sel_all y1 _]
theorem Tm.get_put (x : AV) (t : Tm) (k j : Nat) (h : k < 512) : (Tm.put x t k).get j = if j = k then x else t.get j := by
  have hput : Tm.put x t k = (set8 (dig (k / 64)) (set8 (dig (k / 8)) (set8 (dig k) x (sel (dig (k / 8)) (sel (dig (k / 64)) t))) (sel (dig (k / 64)) t)) t) := by
    unfold Tm.put
    rw [toPT_yes h]
    simp only [tm3u_eq, tm2u_eq, tm1u_eq]
  rw [hput]
  unfold Tm.get
  by_cases hj : j < 512
  · rw [toPT_yes hj]
    simp only [tm3s_eq, tm2s_eq, tm1s_eq, sel_set]
    by_cases e : j = k
    · subst e; simp [sel_set]
    · rw [if_neg e]
      by_cases e3 : dig (j / 64) = dig (k / 64)
      case neg => simp [e3]
      by_cases e2 : dig (j / 8) = dig (k / 8)
      case neg => simp [sel_set, e2, e3]
      by_cases e1 : dig j = dig k
      case neg => simp [sel_set, e1, e3, e2]
      exfalso
      apply e
      have g3 : (j / 64) % 8 = (k / 64) % 8 := by rw [← dig_num, ← dig_num, e3]
      have g2 : (j / 8) % 8 = (k / 8) % 8 := by rw [← dig_num, ← dig_num, e2]
      have g1 : j % 8 = k % 8 := by rw [← dig_num, ← dig_num, e1]
      omega
  · rw [toPT_no hj, if_neg (by omega)]
end
end Go.Proofs.YtocabeobfbhajaaGreatDoor.Sx
