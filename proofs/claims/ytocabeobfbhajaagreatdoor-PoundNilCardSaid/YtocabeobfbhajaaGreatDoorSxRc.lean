/- A region that draws its order: what is held along the run. No program is named here. -/
import Derived.Test.YtocabeobfbhajaaGreatDoorSxRb
set_option linter.unusedVariables false
set_option linter.unusedSimpArgs false
namespace Go.Proofs.YtocabeobfbhajaaGreatDoor.Sx
noncomputable section
open Go Go.RowKit

section
variable {E : Env} {call : CallR} {nt : Nat} {all : List Oper} {c : Nat} {ms : List Nat} {f : Nat → X}
def kdF (f : Nat → X) (i : Nat) : Kd := (f (i + 1)).kd
def isE (f : Nat → X) (i : Nat) : Prop := kdF f i = .eff
/-- The run. -/
structure Seq (E : Env) (call : CallR) (nt : Nat) (all : List Oper) (c : Nat) (ms : List Nat) (T : Tm) (s : St) (f : Nat → X) : Prop where
  i0 : (f 0).i = 0
  T0 : (f 0).T = T
  k0 : (f 0).k = 0
  S0 : (f 0).S = s
  Ss0 : (f 0).Ss = [(0, s)]
  pend0 : (f 0).pend = []
  fld0 : (f 0).fld = []
  rds0 : (f 0).rds = []
  efs0 : (f 0).efs = []
  nx0 : c + all.length ≤ s.nx
  step : ∀ i o, all[i]? = some o → ∃ m, ms[i]? = some m ∧ Step E call nt all c (c + all.length) m o (f i) (f (i + 1))
/-- What is held behind i operations. -/
structure FI (all : List Oper) (c : Nat) (ms : List Nat) (f : Nat → X) (i : Nat) : Prop where
  idx : (f i).i = i
  kst : ∀ k s, (k, s) ∈ (f i).Ss → k ≤ (f i).k
  cur : ((f i).k, (f i).S) ∈ (f i).Ss
  fn : ∀ k s s', (k, s) ∈ (f i).Ss → (k, s') ∈ (f i).Ss → s = s'
  ev : ∀ k, k ≤ (f i).k → ∃ s, (k, s) ∈ (f i).Ss
  nx : ∀ k s, (k, s) ∈ (f i).Ss → c + all.length ≤ s.nx
  efs : ∀ e κ, (e, κ) ∈ (f i).efs ↔ e < i ∧ isE f e ∧ κ = (f e).k
  efk : ∀ e, e < i → isE f e → (f e).k < (f i).k
  eka : ∀ k, k < (f i).k → ∃ e, e < i ∧ isE f e ∧ (f e).k = k
  efc : ∀ e e', e < e' → e' < i → isE f e → isE f e' → bfm ms e' e = true
  pend : ∀ j ab, (j, ab) ∈ (f i).pend ↔ j < i ∧ kdF f j = .alloc ab ∧ ∀ e, e < i → isE f e → bfm ms e j = false
  fld : ∀ j ab φ, (j, ab, φ) ∈ (f i).fld ↔ j < i ∧ kdF f j = .alloc ab ∧ ∃ e, e < i ∧ isE f e ∧ bfm ms e j = true ∧ φ = (f e).k + 1 ∧ ∀ e', e' < e → isE f e' → bfm ms e' j = false
  rds : ∀ j o, j < i → kdF f j = .read → all[j]? = some o → ⟨j, (f j).T, o.op, (f (j + 1)).v, (f j).k⟩ ∈ (f i).rds
theorem FI_ok {T : Tm} {s : St} (hm : mks all [] = .ok ms) (q : Seq E call nt all c ms T s f) : ∀ i, i ≤ all.length → FI all c ms f i
  | 0, _ => by
    refine ⟨q.i0, ?_, ?_, ?_, ?_, ?_, ?_, ?_, ?_, ?_, ?_, ?_, ?_⟩
    · intro k s h; rw [q.Ss0] at h; rw [q.k0]; simp at h; omega
    · rw [q.Ss0, q.k0, q.S0]; simp
    · intro k s s' h h'; rw [q.Ss0] at h h'; simp at h h'; rw [h.2, h'.2]
    · intro k hk; rw [q.k0] at hk; rw [q.Ss0]; exact ⟨s, by simp; omega⟩
    · intro k s' h; rw [q.Ss0] at h; simp at h; rw [h.2]; exact q.nx0
    · intro e κ; rw [q.efs0]; simp
    · intro e he; omega
    · intro k hk; rw [q.k0] at hk; omega
    · intro e e' _ he; omega
    · intro j ab; rw [q.pend0]; simp
    · intro j ab φ; rw [q.fld0]; simp
    · intro j o hj; omega
  | i + 1, hi => by
    have F := FI_ok hm q i (by omega)
    have ho : all[i]? = some all[i] := List.getElem?_eq_getElem (by omega)
    obtain ⟨m, hmi, st⟩ := q.step i _ ho
    have hbf : ∀ j, bfm ms i j = bit m j := fun j => bfm_of hmi
    have hlt : ∀ e j, e ≤ j → bfm ms e j = false := fun e j h => by
      cases hb : bfm ms e j with
      | false => rfl
      | true => have := bfm_lt hm hb; omega
    rcases st.what with ⟨qu, hw⟩ | lo
    · -- no effect
      have hne : ¬ isE f i := by
        unfold isE kdF
        rcases hw with ⟨h, _⟩ | ⟨h, _⟩ | ⟨ab, h, _⟩ | ⟨h, _⟩ <;> rw [h] <;> simp
      have hE : ∀ e, e < i + 1 ∧ isE f e ↔ e < i ∧ isE f e := fun e => ⟨fun ⟨h1, h2⟩ => ⟨by
        rcases Nat.lt_or_ge e i with h | h
        · exact h
        · obtain rfl : e = i := by omega
          exact absurd h2 hne, h2⟩, fun ⟨h1, h2⟩ => ⟨by omega, h2⟩⟩
      have hpend : (∀ ab, kdF f i ≠ .alloc ab) → (f (i + 1)).pend = (f i).pend → ∀ j ab, (j, ab) ∈ (f (i + 1)).pend ↔ j < i + 1 ∧ kdF f j = .alloc ab ∧ ∀ e, e < i + 1 → isE f e → bfm ms e j = false := by
        intro hna hp j ab
        rw [hp, F.pend]
        constructor
        · rintro ⟨h1, h2, h3⟩
          exact ⟨by omega, h2, fun e he hee => h3 e ((hE e).1 ⟨he, hee⟩).1 hee⟩
        · rintro ⟨h1, h2, h3⟩
          refine ⟨?_, h2, fun e he hee => h3 e (by omega) hee⟩
          rcases Nat.lt_or_ge j i with h | h
          · exact h
          · obtain rfl : j = i := by omega
            exact absurd h2 (hna ab)
      have hrds : kdF f i ≠ .read → (f (i + 1)).rds = (f i).rds → ∀ j o, j < i + 1 → kdF f j = .read → all[j]? = some o → ⟨j, (f j).T, o.op, (f (j + 1)).v, (f j).k⟩ ∈ (f (i + 1)).rds := by
        intro hnr hr j o hj hk hoj
        rw [hr]
        rcases Nat.lt_or_ge j i with h | h
        · exact F.rds j o h hk hoj
        · obtain rfl : j = i := by omega
          exact absurd hk hnr
      refine ⟨by rw [st.i, F.idx], ?_, ?_, ?_, ?_, ?_, ?_, ?_, ?_, ?_, ?_, ?_, ?_⟩
      · rw [qu.Ss, qu.k]; exact F.kst
      · rw [qu.Ss, qu.k, qu.S]; exact F.cur
      · rw [qu.Ss]; exact F.fn
      · rw [qu.Ss, qu.k]; exact F.ev
      · rw [qu.Ss]; exact F.nx
      · intro e κ
        rw [qu.efs, F.efs]
        constructor
        · rintro ⟨h1, h2, h3⟩; exact ⟨by omega, h2, h3⟩
        · rintro ⟨h1, h2, h3⟩; exact ⟨((hE e).1 ⟨h1, h2⟩).1, h2, h3⟩
      · intro e he hee; rw [qu.k]; exact F.efk e ((hE e).1 ⟨he, hee⟩).1 hee
      · intro k hk
        rw [qu.k] at hk
        obtain ⟨e, h1, h2⟩ := F.eka k hk
        exact ⟨e, by omega, h2⟩
      · intro e e' h1 h2 h3 h4
        exact F.efc e e' h1 ((hE e').1 ⟨h2, h4⟩).1 h3 h4
      · rcases hw with ⟨h, _, hp, _⟩ | ⟨h, _, hp, _⟩ | ⟨ab0, h, _, hp, _⟩ | ⟨h, _, hp, _⟩
        · exact hpend (fun ab => by show (f (i + 1)).kd ≠ _; rw [h]; simp) hp
        · exact hpend (fun ab => by show (f (i + 1)).kd ≠ _; rw [h]; simp) hp
        · intro j ab
          rw [hp, F.idx, List.mem_cons, F.pend]
          constructor
          · rintro (h1 | ⟨h1, h2, h3⟩)
            · simp only [Prod.mk.injEq] at h1
              obtain ⟨rfl, rfl⟩ := h1
              exact ⟨by omega, h, fun e he _ => hlt e j (by omega)⟩
            · exact ⟨by omega, h2, fun e he hee => h3 e ((hE e).1 ⟨he, hee⟩).1 hee⟩
          · rintro ⟨h1, h2, h3⟩
            rcases Nat.lt_or_ge j i with h4 | h4
            · exact .inr ⟨h4, h2, fun e he hee => h3 e (by omega) hee⟩
            · obtain rfl : j = i := by omega
              left
              have : kdF f j = .alloc ab0 := h
              rw [this] at h2; cases h2; rfl
        · exact hpend (fun ab => by show (f (i + 1)).kd ≠ _; rw [h]; simp) hp
      · intro j ab φ
        rw [qu.fld, F.fld]
        constructor
        · rintro ⟨h1, h2, e, h3, h4⟩; exact ⟨by omega, h2, e, by omega, h4⟩
        · rintro ⟨h1, h2, e, h3, h4, h5, h6⟩
          have he := ((hE e).1 ⟨h3, h4⟩).1
          have := bfm_lt hm h5
          exact ⟨by omega, h2, e, he, h4, h5, h6⟩
      · rcases hw with ⟨h, _, _, hr⟩ | ⟨h, _, _, hr⟩ | ⟨ab0, h, _, _, hr⟩ | ⟨h, _, _, hr⟩
        · exact hrds (by show (f (i + 1)).kd ≠ _; rw [h]; simp) hr
        · exact hrds (by show (f (i + 1)).kd ≠ _; rw [h]; simp) hr
        · exact hrds (by show (f (i + 1)).kd ≠ _; rw [h]; simp) hr
        · intro j o hj hk hoj
          rw [hr]
          rcases Nat.lt_or_ge j i with h4 | h4
          · exact List.mem_cons_of_mem _ (F.rds j o h4 hk hoj)
          · obtain rfl : j = i := by omega
            rw [ho] at hoj; cases hoj
            rw [F.idx]; exact List.mem_cons_self
    · -- an effect
      have hee : isE f i := lo.kd
      have hna : ∀ ab, kdF f i ≠ .alloc ab := fun ab => by show (f (i + 1)).kd ≠ _; rw [lo.kd]; simp
      refine ⟨by rw [st.i, F.idx], ?_, ?_, ?_, ?_, ?_, ?_, ?_, ?_, ?_, ?_, ?_, ?_⟩
      · intro k s h
        rw [lo.Ss] at h; rw [lo.k]
        rcases List.mem_cons.1 h with h | h
        · cases h; omega
        · have := F.kst k s h; omega
      · rw [lo.Ss, lo.k]; exact List.mem_cons_self
      · intro k s s' h h'
        rw [lo.Ss] at h h'
        rcases List.mem_cons.1 h with h | h
        · cases h
          rcases List.mem_cons.1 h' with h' | h'
          · cases h'; rfl
          · have := F.kst _ s' h'; omega
        · rcases List.mem_cons.1 h' with h' | h'
          · cases h'; have := F.kst _ s h; omega
          · exact F.fn k s s' h h'
      · intro k hk
        rw [lo.k] at hk; rw [lo.Ss]
        by_cases e : k = (f i).k + 1
        · exact ⟨_, by rw [e]; exact List.mem_cons_self⟩
        · obtain ⟨s, h⟩ := F.ev k (by omega)
          exact ⟨s, List.mem_cons_of_mem _ h⟩
      · intro k s h
        rw [lo.Ss] at h
        rcases List.mem_cons.1 h with h | h
        · cases h; exact lo.nx
        · exact F.nx k s h
      · intro e κ
        rw [lo.efs, List.mem_cons, F.efs, F.idx]
        constructor
        · rintro (h | ⟨h1, h2, h3⟩)
          · simp only [Prod.mk.injEq] at h
            obtain ⟨rfl, rfl⟩ := h
            exact ⟨by omega, hee, rfl⟩
          · exact ⟨by omega, h2, h3⟩
        · rintro ⟨h1, h2, h3⟩
          rcases Nat.lt_or_ge e i with h | h
          · exact .inr ⟨h, h2, h3⟩
          · obtain rfl : e = i := by omega
            exact .inl (by rw [h3])
      · intro e he hee'
        rw [lo.k]
        rcases Nat.lt_or_ge e i with h | h
        · have := F.efk e h hee'; omega
        · obtain rfl : e = i := by omega
          omega
      · intro k hk
        rw [lo.k] at hk
        by_cases e : k = (f i).k
        · exact ⟨i, by omega, hee, e.symm⟩
        · obtain ⟨e, h1, h2⟩ := F.eka k (by omega)
          exact ⟨e, by omega, h2⟩
      · intro e e' h1 h2 h3 h4
        rcases Nat.lt_or_ge e' i with h | h
        · exact F.efc e e' h1 h h3 h4
        · obtain rfl : e' = i := by omega
          rw [hbf]
          exact allB_ok lo.all e _ ((F.efs e _).2 ⟨h1, h3, rfl⟩)
      · intro j ab
        rw [lo.pend, mem_nbef, F.pend]
        constructor
        · rintro ⟨⟨h1, h2, h3⟩, h4⟩
          refine ⟨by omega, h2, fun e he hee' => ?_⟩
          rcases Nat.lt_or_ge e i with h | h
          · exact h3 e h hee'
          · obtain rfl : e = i := by omega
            rw [hbf]; exact h4
        · rintro ⟨h1, h2, h3⟩
          have hj : j < i := by
            rcases Nat.lt_or_ge j i with h | h
            · exact h
            · obtain rfl : j = i := by omega
              exact absurd h2 (hna ab)
          exact ⟨⟨hj, h2, fun e he hee' => h3 e (by omega) hee'⟩, by rw [← hbf]; exact h3 i (by omega) hee⟩
      · intro j ab φ
        rw [lo.fld, mem_withK, mem_bef, F.pend, F.fld]
        constructor
        · rintro (⟨⟨⟨h1, h2, h3⟩, h4⟩, rfl⟩ | ⟨h1, h2, e, h3, h4⟩)
          · exact ⟨by omega, h2, i, by omega, hee, by rw [hbf]; exact h4, rfl, h3⟩
          · exact ⟨by omega, h2, e, by omega, h4⟩
        · rintro ⟨h1, h2, e, h3, h4, h5, h6, h7⟩
          have hje := bfm_lt hm h5
          rcases Nat.lt_or_ge e i with h | h
          · exact .inr ⟨by omega, h2, e, h, h4, h5, h6, h7⟩
          · obtain rfl : e = i := by omega
            exact .inl ⟨⟨⟨hje, h2, h7⟩, by rw [← hbf]; exact h5⟩, h6⟩
      · intro j o hj hk hoj
        rw [lo.rds]
        rcases Nat.lt_or_ge j i with h4 | h4
        · exact F.rds j o h4 hk hoj
        · obtain rfl : j = i := by omega
          have : kdF f j = .eff := lo.kd
          rw [this] at hk; cases hk
theorem Ss_mono {T : Tm} {s : St} (q : Seq E call nt all c ms T s f) {k : Nat} {st : St} : ∀ (d i : Nat), i + d ≤ all.length → (k, st) ∈ (f i).Ss → (k, st) ∈ (f (i + d)).Ss
  | 0, i, _, h => h
  | d + 1, i, hi, h => by
    have ih := Ss_mono q d i (by omega) h
    have ho : all[i + d]? = some all[i + d] := List.getElem?_eq_getElem (by omega)
    obtain ⟨m, hmi, sp⟩ := q.step (i + d) _ ho
    show (k, st) ∈ (f (i + d + 1)).Ss
    rcases sp.what with ⟨qu, _⟩ | lo
    · rw [qu.Ss]; exact ih
    · rw [lo.Ss]; exact List.mem_cons_of_mem _ ih
end
end
end Go.Proofs.YtocabeobfbhajaaGreatDoor.Sx
