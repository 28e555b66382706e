/- Lists of cells: a cell, a stretch, a stretch written over. No program is named here. -/
import Derived.Test.YtocabeobfbhajaaGreatDoorSxB
set_option linter.unusedVariables false
namespace Go.Proofs.YtocabeobfbhajaaGreatDoor.Sx
noncomputable section
open Go

/-- A result, or the number of a reason why there is none. -/
inductive R (α : Type) where
  | ok (a : α)
  | no (c : Nat)
noncomputable def R.bind {α β : Type} (x : R α) (f : α → R β) : R β := R.rec (motive := fun _ => R β) f .no x
theorem R.bind_ok {α β : Type} {x : R α} {f : α → R β} {b : β} (h : x.bind f = .ok b) : ∃ a, x = .ok a ∧ f a = .ok b := by
  cases x with
  | ok a => exact ⟨a, rfl, h⟩
  | no c => cases h
@[simp] theorem R.ok_bind {α β : Type} (a : α) (f : α → R β) : (R.ok a).bind f = f a := rfl
@[simp] theorem R.no_bind {α β : Type} (c : Nat) (f : α → R β) : (R.no c : R α).bind f = .no c := rfl
/-- A condition. -/
def R.iff {α : Type} (b : Bool) (c : Nat) (x : R α) : R α := match b with
  | true => x
  | false => .no c
theorem R.iff_ok {α : Type} {b : Bool} {c : Nat} {x : R α} {a : α} (h : R.iff b c x = .ok a) : b = true ∧ x = .ok a := by
  cases b with
  | true => exact ⟨rfl, h⟩
  | false => cases h
/-- Where it was that there was none. -/
def R.at {α : Type} (u k : Nat) (x : R α) : R α := match x with
  | .ok a => .ok a
  | .no c => match Nat.ble u c with
    | true => .no c
    | false => .no (Nat.add c (Nat.mul u (Nat.succ k)))
theorem R.at_ok {α : Type} {u k : Nat} {x : R α} {a : α} (h : R.at u k x = .ok a) : x = .ok a := by
  unfold R.at at h
  split at h
  · exact h
  · split at h <;> cases h
def R.ofO {α : Type} (c : Nat) (x : Option α) : R α := match x with
  | some a => .ok a
  | none => .no c
theorem R.ofO_ok {α : Type} {x : Option α} {c : Nat} {a : α} (h : R.ofO c x = .ok a) : x = some a := by
  cases x with
  | some a => cases h; rfl
  | none => cases h

theorem _root_.List.drop_append_of_le_length' {α : Type} {a b : List α} {k : Nat} (h : a.length ≤ k) : (a ++ b).drop k = b.drop (k - a.length) := by
  rw [List.drop_append, List.drop_eq_nil_of_le h, List.nil_append]
theorem _root_.List.take_append_of_le_length' {α : Type} {a b : List α} {k : Nat} (h : a.length ≤ k) : (a ++ b).take k = a ++ b.take (k - a.length) := by
  rw [List.take_append, List.take_of_length_le h]
def cget : List AV → Nat → R AV
  | [], _ => .no 10
  | v :: r, i => match v with
    | .bs n N => match Nat.ble (Nat.succ i) n with
      | true => .ok (.int .u8 (.ofNat (bget N i)))
      | false => cget r (Nat.sub i n)
    | .top => match i with
      | 0 => .no 11
      | i + 1 => cget r i
    | v => match i with
      | 0 => .ok v
      | i + 1 => cget r i
def cdrop : List AV → Nat → R (List AV)
  | [], k => match k with
    | 0 => .ok []
    | _ + 1 => .no 12
  | v :: r, k => match k with
    | 0 => .ok (v :: r)
    | k + 1 => match v with
      | .bs n N => match Nat.ble n (Nat.succ k) with
        | true => cdrop r (Nat.sub (Nat.succ k) n)
        | false => .ok (.bs (Nat.sub n (Nat.succ k)) (Nat.div N (Nat.pow 256 (Nat.succ k))) :: r)
      | _ => cdrop r k
def ctake : List AV → Nat → R (List AV)
  | [], k => match k with
    | 0 => .ok []
    | _ + 1 => .no 13
  | v :: r, k => match k with
    | 0 => .ok []
    | k + 1 => match v with
      | .bs n N => match Nat.ble n (Nat.succ k) with
        | true => (ctake r (Nat.sub (Nat.succ k) n)).bind fun t => .ok (.bs n N :: t)
        | false => .ok [.bs (Nat.succ k) (Nat.mod N (Nat.pow 256 (Nat.succ k)))]
      | v => (ctake r k).bind fun t => .ok (v :: t)
def capp : List AV → List AV → List AV
  | [], b => b
  | v :: r, b => ccons v (capp r b)
def csub (cs : List AV) (lo n : Nat) : R (List AV) := (cdrop cs lo).bind fun r => ctake r n
def cput (cs : List AV) (lo : Nat) (new : List AV) : R (List AV) :=
  (ctake cs lo).bind fun p => (cdrop cs (Nat.add lo (clen new))).bind fun q => .ok (capp p (capp new q))

theorem csz_V {σ : Sg} {v : AV} {x : Value} (h : V σ v x) : csz v = 1 := by cases v <;> first | rfl | simp [V] at h
theorem ble_false {a b : Nat} (h : Nat.ble a b = false) : b < a := by
  rcases Nat.lt_or_ge b a with h' | h'
  · exact h'
  · rw [Nat.ble_eq_true_of_le h'] at h; cases h
theorem cget_ok {σ : Sg} : ∀ (cs : List AV) (l : List Value) (i : Nat) (v : AV), Cs σ cs l → cget cs i = .ok v → ∃ x, l[i]? = some x ∧ V σ v x
  | [], l, i, v, _, h => by cases h
  | u :: r, l, i, v, hc, h => by
    obtain ⟨a, b, rfl, h1, h2, h3⟩ := Cs_split hc
    unfold cget at h
    split at h
    · rename_i n N
      rw [C1_bs] at h1
      subst h1
      split at h
      · rename_i hb
        have hb' := Nat.le_of_ble_eq_true hb
        cases h
        refine ⟨.int .u8 (bget N i), ?_, by simp only [V]; rfl⟩
        rw [List.getElem?_append_left (by rw [bcs_length]; omega), bcs_get n N i (by omega)]
      · rename_i hb
        have hb' := ble_false hb
        obtain ⟨x, hx, hv⟩ := cget_ok r b _ v h2 h
        refine ⟨x, ?_, hv⟩
        rw [List.getElem?_append_right (by rw [bcs_length]; omega), bcs_length]
        exact hx
    · split at h
      · cases h
      · rename_i j
        obtain ⟨x, hx, hv⟩ := cget_ok r b _ v h2 h
        refine ⟨x, ?_, hv⟩
        rw [List.getElem?_append_right (by rw [h3]; simp [csz]), h3]
        simpa [csz] using hx
    · rename_i hn1 hn2
      have hsz : csz u = 1 := by unfold csz; split <;> first | rfl | (exfalso; exact hn1 _ _ rfl)
      rw [hsz] at h3
      split at h
      · cases h
        unfold C1 at h1
        rw [Cs_cons] at h1
        rcases h1 with ⟨n, N, _, e, _⟩ | ⟨_, _, e, _⟩ | ⟨x, l', rfl, hv, hl⟩
        · exact (hn1 _ _ e).elim
        · exact (hn2 e).elim
        · exact ⟨x, by simp, hv⟩
      · rename_i j
        obtain ⟨x, hx, hv⟩ := cget_ok r b _ v h2 h
        refine ⟨x, ?_, hv⟩
        rw [List.getElem?_append_right (by rw [h3]; omega), h3]
        simpa using hx
theorem cdrop_ok {σ : Sg} : ∀ (cs : List AV) (l : List Value) (k : Nat) (t : List AV), Cs σ cs l → cdrop cs k = .ok t → k ≤ l.length ∧ Cs σ t (l.drop k)
  | [], l, k, t, hc, h => by
    unfold cdrop at h
    split at h
    · cases h; exact ⟨Nat.zero_le _, by simpa using hc⟩
    · cases h
  | u :: r, l, k, t, hc, h => by
    obtain ⟨a, b, rfl, h1, h2, h3⟩ := Cs_split hc
    unfold cdrop at h
    split at h
    · cases h; exact ⟨Nat.zero_le _, by simpa using hc⟩
    · rename_i k
      split at h
      · rename_i n N
        rw [C1_bs] at h1
        subst h1
        split at h
        · rename_i hb
          have hb' := Nat.le_of_ble_eq_true hb
          obtain ⟨g1, g2⟩ := cdrop_ok r b _ t h2 h
          rw [Nat.sub_eq] at g1 g2
          refine ⟨by simp [bcs_length]; omega, ?_⟩
          rw [List.drop_append_of_le_length' (by rw [bcs_length]; omega), bcs_length]
          exact g2
        · rename_i hb
          have hb' := ble_false hb
          cases h
          refine ⟨by simp [bcs_length]; omega, ?_⟩
          rw [List.drop_append_of_le_length (by rw [bcs_length]; omega)]
          refine C1_cons ?_ h2
          rw [C1_bs, bcs, ← List.map_drop, unpack_drop n _ N (by omega)]
          rfl
      · rename_i hn1
        have hsz : csz u = 1 := by unfold csz; split <;> first | rfl | (exfalso; exact hn1 _ _ rfl)
        rw [hsz] at h3
        obtain ⟨g1, g2⟩ := cdrop_ok r b _ t h2 h
        refine ⟨by simp; omega, ?_⟩
        rw [List.drop_append_of_le_length' (by rw [h3]; omega), h3]
        simpa using g2
theorem ctake_ok {σ : Sg} : ∀ (cs : List AV) (l : List Value) (k : Nat) (t : List AV), Cs σ cs l → ctake cs k = .ok t → k ≤ l.length ∧ Cs σ t (l.take k)
  | [], l, k, t, hc, h => by
    unfold ctake at h
    split at h
    · cases h; exact ⟨Nat.zero_le _, by simp [Cs]⟩
    · cases h
  | u :: r, l, k, t, hc, h => by
    obtain ⟨a, b, rfl, h1, h2, h3⟩ := Cs_split hc
    unfold ctake at h
    split at h
    · cases h; exact ⟨Nat.zero_le _, by simp [Cs]⟩
    · rename_i k
      split at h
      · rename_i n N
        rw [C1_bs] at h1
        subst h1
        split at h
        · rename_i hb
          have hb' := Nat.le_of_ble_eq_true hb
          obtain ⟨t', ht, h⟩ := R.bind_ok h
          cases h
          obtain ⟨g1, g2⟩ := ctake_ok r b _ t' h2 ht
          rw [Nat.sub_eq] at g1 g2
          refine ⟨by simp [bcs_length]; omega, ?_⟩
          rw [List.take_append_of_le_length' (by rw [bcs_length]; omega), bcs_length]
          exact Cs_bs.2 ⟨_, rfl, g2⟩
        · rename_i hb
          have hb' := ble_false hb
          cases h
          refine ⟨by simp [bcs_length]; omega, ?_⟩
          rw [List.take_append_of_le_length (by rw [bcs_length]; omega)]
          have : C1 σ (.bs (Nat.succ k) (Nat.mod N (Nat.pow 256 (Nat.succ k)))) ((bcs n N).take (k + 1)) := by
            rw [C1_bs, bcs, ← List.map_take, unpack_take n _ N (by omega), ← unpack_mod]
            rfl
          exact this
      · rename_i hn1
        have hsz : csz u = 1 := by unfold csz; split <;> first | rfl | (exfalso; exact hn1 _ _ rfl)
        rw [hsz] at h3
        obtain ⟨t', ht, h⟩ := R.bind_ok h
        cases h
        obtain ⟨g1, g2⟩ := ctake_ok r b _ t' h2 ht
        refine ⟨by simp; omega, ?_⟩
        rw [List.take_append_of_le_length' (by rw [h3]; omega), h3]
        exact C1_cons h1 (by simpa using g2)
theorem capp_ok {σ : Sg} : ∀ (a b : List AV) (l m : List Value), Cs σ a l → Cs σ b m → Cs σ (capp a b) (l ++ m)
  | [], b, l, m, h, g => by simp only [Cs] at h; subst h; exact g
  | v :: r, b, l, m, h, g => by
    obtain ⟨x, y, rfl, h1, h2, _⟩ := Cs_split h
    rw [List.append_assoc]
    exact Cs_ccons h1 (capp_ok r b y m h2 g)
theorem csub_ok {σ : Sg} {cs t : List AV} {l : List Value} {lo n : Nat} (h : Cs σ cs l) (e : csub cs lo n = .ok t) : lo + n ≤ l.length ∧ Cs σ t ((l.drop lo).take n) := by
  obtain ⟨r, h1, h2⟩ := R.bind_ok e
  obtain ⟨g1, g2⟩ := cdrop_ok _ _ _ _ h h1
  obtain ⟨g3, g4⟩ := ctake_ok _ _ _ _ g2 h2
  rw [List.length_drop] at g3
  exact ⟨by omega, g4⟩
theorem cput_ok {σ : Sg} {cs new t : List AV} {l m : List Value} {lo : Nat} (h : Cs σ cs l) (g : Cs σ new m) (e : cput cs lo new = .ok t) :
    lo + m.length ≤ l.length ∧ Cs σ t (l.take lo ++ (m ++ l.drop (lo + m.length))) := by
  obtain ⟨p, h1, e⟩ := R.bind_ok e
  obtain ⟨q, h2, e⟩ := R.bind_ok e
  cases e
  have hm := Cs_length _ _ g
  obtain ⟨_, g1⟩ := ctake_ok _ _ _ _ h h1
  obtain ⟨g2, g3⟩ := cdrop_ok _ _ _ _ h h2
  rw [Nat.add_eq, ← hm] at g2 g3
  exact ⟨g2, capp_ok _ _ _ _ g1 (capp_ok _ _ _ _ g g3)⟩
end
end Go.Proofs.YtocabeobfbhajaaGreatDoor.Sx
