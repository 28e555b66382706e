/- A region that draws its order: one run in the order of the text stands for all. No program is named here. -/
import Derived.Test.YtocabeobfbhajaaGreatDoorSxRc
set_option linter.unusedVariables false
set_option linter.unusedSimpArgs false
namespace Go.Proofs.YtocabeobfbhajaaGreatDoor.Sx
noncomputable section
open Go Go.RowKit

section
variable {E : Env} {call : CallR} {nt : Nat} {all : List Oper} {c : Nat} {ms : List Nat} {f : Nat → X} {T : Tm} {s : St}
open Classical in
noncomputable def Sf (f : Nat → X) (N : Nat) (s : St) (k : Nat) : St := if h : ∃ st, (k, st) ∈ (f N).Ss then h.choose else s
open Classical in
noncomputable def flf (f : Nat → X) (N : Nat) (j : Nat) : Nat := if h : ∃ φ ab, (j, ab, φ) ∈ (f N).fld then h.choose else (f N).k + 1
theorem Sf_eq (hm : mks all [] = .ok ms) (q : Seq E call nt all c ms T s f) {i k : Nat} {st : St} (hi : i ≤ all.length) (h : (k, st) ∈ (f i).Ss) : Sf f all.length s k = st := by
  have F := FI_ok hm q all.length (Nat.le_refl _)
  have h' : (k, st) ∈ (f all.length).Ss := by
    have := Ss_mono q (all.length - i) i (by omega) h
    rwa [show i + (all.length - i) = all.length by omega] at this
  have hx : ∃ st, (k, st) ∈ (f all.length).Ss := ⟨st, h'⟩
  unfold Sf
  rw [dif_pos hx]
  exact F.fn k _ _ hx.choose_spec h'
theorem Sf_mem (hm : mks all [] = .ok ms) (q : Seq E call nt all c ms T s f) {k : Nat} (h : k ≤ (f all.length).k) : (k, Sf f all.length s k) ∈ (f all.length).Ss := by
  obtain ⟨st, hst⟩ := (FI_ok hm q all.length (Nat.le_refl _)).ev k h
  rw [Sf_eq hm q (Nat.le_refl _) hst]; exact hst
theorem k_mono (hm : mks all [] = .ok ms) (q : Seq E call nt all c ms T s f) : ∀ (d i : Nat), i + d ≤ all.length → (f i).k ≤ (f (i + d)).k
  | 0, i, _ => Nat.le_refl _
  | d + 1, i, hi => by
    have ih := k_mono hm q d i (by omega)
    have ho : all[i + d]? = some all[i + d] := List.getElem?_eq_getElem (by omega)
    obtain ⟨m, hmi, sp⟩ := q.step (i + d) _ ho
    show (f i).k ≤ (f (i + d + 1)).k
    rcases sp.what with ⟨qu, _⟩ | lo
    · rw [qu.k]; exact ih
    · rw [lo.k]; omega
theorem k_le (hm : mks all [] = .ok ms) (q : Seq E call nt all c ms T s f) {i j : Nat} (h : i ≤ j) (hj : j ≤ all.length) : (f i).k ≤ (f j).k := by
  have := k_mono hm q (j - i) i (by omega)
  rwa [show i + (j - i) = j by omega] at this
/-- The first effect that a block stands before. -/
theorem first_eff (j : Nat) : ∀ n, (∃ e, e < n ∧ isE f e ∧ bfm ms e j = true) → ∃ e, e < n ∧ isE f e ∧ bfm ms e j = true ∧ ∀ e', e' < e → isE f e' → bfm ms e' j = false
  | 0, ⟨e, h, _⟩ => by omega
  | n + 1, ⟨e, h, h1, h2⟩ => by
    by_cases hx : ∃ e, e < n ∧ isE f e ∧ bfm ms e j = true
    · obtain ⟨e', g1, g2⟩ := first_eff j n hx
      exact ⟨e', by omega, g2⟩
    · have hx' : ∀ e', e' < n → isE f e' → bfm ms e' j = false := fun e' he hee => by
        cases hb : bfm ms e' j with
        | false => rfl
        | true => exact absurd ⟨e', he, hee, hb⟩ hx
      have hen : e = n := by
        rcases Nat.lt_or_ge e n with h3 | h3
        · exact absurd ⟨e, h3, h1, h2⟩ hx
        · omega
      subst hen
      exact ⟨e, by omega, h1, h2, hx'⟩
theorem flf_mem (hm : mks all [] = .ok ms) (q : Seq E call nt all c ms T s f) {j φ : Nat} {ab : AB} (h : (j, ab, φ) ∈ (f all.length).fld) : flf f all.length j = φ := by
  have F := FI_ok hm q all.length (Nat.le_refl _)
  have hx : ∃ φ ab, (j, ab, φ) ∈ (f all.length).fld := ⟨φ, ab, h⟩
  unfold flf
  rw [dif_pos hx]
  obtain ⟨ab', h'⟩ := hx.choose_spec
  obtain ⟨_, _, e, h3, h4, h5, h6, h7⟩ := (F.fld _ _ _).1 h
  obtain ⟨_, _, e', g3, g4, g5, g6, g7⟩ := (F.fld _ _ _).1 h'
  rw [h6, g6]
  rcases Nat.lt_trichotomy e e' with h | h | h
  · rw [g7 e h h4] at h5; cases h5
  · rw [h]
  · rw [h7 e' h g4] at g5; cases g5
theorem flf_none (hm : mks all [] = .ok ms) (q : Seq E call nt all c ms T s f) {j : Nat} (h : ∀ e, e < all.length → isE f e → bfm ms e j = false) : flf f all.length j = (f all.length).k + 1 := by
  have F := FI_ok hm q all.length (Nat.le_refl _)
  unfold flf
  rw [dif_neg]
  rintro ⟨φ, ab, hx⟩
  obtain ⟨_, _, e, h3, h4, h5, _⟩ := (F.fld _ _ _).1 hx
  rw [h e h3 h4] at h5; cases h5
/-- Behind which effect a block is part of the memory. -/
theorem fl_cases (hm : mks all [] = .ok ms) (q : Seq E call nt all c ms T s f) {j : Nat} {ab : AB} (hj : j < all.length) (hk : kdF f j = .alloc ab) :
    (∃ e, e < all.length ∧ isE f e ∧ bfm ms e j = true ∧ flf f all.length j = (f e).k + 1 ∧ ∀ e', e' < e → isE f e' → bfm ms e' j = false) ∨
    (flf f all.length j = (f all.length).k + 1 ∧ ∀ e, e < all.length → isE f e → bfm ms e j = false) := by
  have F := FI_ok hm q all.length (Nat.le_refl _)
  by_cases hx : ∃ e, e < all.length ∧ isE f e ∧ bfm ms e j = true
  · obtain ⟨e, h1, h2, h3, h4⟩ := first_eff j all.length hx
    exact .inl ⟨e, h1, h2, h3, flf_mem hm q ((F.fld j ab _).2 ⟨hj, hk, e, h1, h2, h3, rfl, h4⟩), h4⟩
  · have hx' : ∀ e', e' < all.length → isE f e' → bfm ms e' j = false := fun e' he hee => by
      cases hb : bfm ms e' j with
      | false => rfl
      | true => exact absurd ⟨e', he, hee, hb⟩ hx
    exact .inr ⟨flf_none hm q hx', hx'⟩
theorem ke_inj (hm : mks all [] = .ok ms) (q : Seq E call nt all c ms T s f) {e e' : Nat} (h : e < all.length) (h' : e' < all.length) (he : isE f e) (he' : isE f e') (hk : (f e).k = (f e').k) : e = e' := by
  rcases Nat.lt_trichotomy e e' with h1 | h1 | h1
  · have := (FI_ok hm q e' (by omega)).efk e h1 he; omega
  · exact h1
  · have := (FI_ok hm q e (by omega)).efk e' h1 he'; omega
theorem al_iff (hm : mks all [] = .ok ms) (q : Seq E call nt all c ms T s f) {j φ : Nat} {ab : AB} :
    (j, ab, φ) ∈ withK ((f all.length).k + 1) (f all.length).pend (f all.length).fld ↔ j < all.length ∧ kdF f j = .alloc ab ∧ φ = flf f all.length j := by
  have F := FI_ok hm q all.length (Nat.le_refl _)
  rw [mem_withK, F.pend, F.fld]
  constructor
  · rintro (⟨⟨h1, h2, h3⟩, rfl⟩ | ⟨h1, h2, h3⟩)
    · exact ⟨h1, h2, (flf_none hm q h3).symm⟩
    · exact ⟨h1, h2, (flf_mem hm q ((F.fld _ _ _).2 ⟨h1, h2, h3⟩)).symm⟩
  · rintro ⟨h1, h2, rfl⟩
    rcases fl_cases hm q h1 h2 with ⟨e, g1, g2, g3, g4, g5⟩ | ⟨g1, g2⟩
    · exact .inr ⟨h1, h2, e, g1, g2, g3, g4, g5⟩
    · exact .inl ⟨⟨h1, h2, g2⟩, g1⟩
/-- What is still to come into the memory. -/
theorem pend_iff (hm : mks all [] = .ok ms) (q : Seq E call nt all c ms T s f) {i j : Nat} {ab : AB} (hi : i ≤ all.length) :
    (j, ab) ∈ (f i).pend ↔ j < i ∧ kdF f j = .alloc ab ∧ (f i).k < flf f all.length j := by
  have F := FI_ok hm q i hi
  rw [F.pend]
  constructor
  · rintro ⟨h1, h2, h3⟩
    refine ⟨h1, h2, ?_⟩
    rcases fl_cases hm q (by omega) h2 with ⟨e, g1, g2, g3, g4, g5⟩ | ⟨g1, g2⟩
    · have : i ≤ e := by
        rcases Nat.lt_or_ge e i with h | h
        · rw [h3 e h g2] at g3; cases g3
        · exact h
      have := k_le hm q this (by omega)
      omega
    · have := k_le hm q hi (Nat.le_refl _)
      omega
  · rintro ⟨h1, h2, h3⟩
    refine ⟨h1, h2, fun e he hee => ?_⟩
    rcases fl_cases hm q (by omega) h2 with ⟨e', g1, g2, g3, g4, g5⟩ | ⟨g1, g2⟩
    · rcases Nat.lt_or_ge e e' with h | h
      · exact g5 e h hee
      · exfalso
        have a1 := F.efk e he hee
        have a2 := k_le hm q h (by omega)
        omega
    · exact g2 e (by omega) hee
theorem tf_T (hn : nt ≤ topTmp) (q : Seq E call nt all c ms T s f) : ∀ i, i ≤ all.length → tget (f i).T = tf (fun _ => true) (tget T) (fun i => (all[i]?).bind (·.dst)) (fun i => (f (i + 1)).v) i
  | 0, _ => by rw [q.T0]; rfl
  | i + 1, hi => by
    have ho : all[i]? = some all[i] := List.getElem?_eq_getElem (by omega)
    obtain ⟨m, hmi, sp⟩ := q.step i _ ho
    rw [(putA_ok hn sp.put).1, tf_succ, if_pos rfl, tf_T hn q i (by omega), ho]
    rfl
end
end
end Go.Proofs.YtocabeobfbhajaaGreatDoor.Sx
