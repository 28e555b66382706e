/- The reckoner: known runs of functions as summaries of others. No program is named here. -/
import Derived.Test.YtocabeobfbhajaaGreatDoorSxRe
set_option linter.unusedVariables false
set_option linter.unusedSimpArgs false
namespace Go.Proofs.YtocabeobfbhajaaGreatDoor.Sx
noncomputable section
open Go Go.RowKit

/-! ### Blocks that are the same -/
def eqC : AV → AV → Bool
  | .top, w => match w with
    | .top => true
    | _ => false
  | v, w => eqAV v w
theorem eqC_ok {v w : AV} (h : eqC v w = true) : v = w := by
  unfold eqC at h
  split at h
  · split at h
    · rfl
    · cases h
  · exact eqAV_ok _ _ h
def eqCs : List AV → List AV → Bool
  | [], l => match l with
    | [] => true
    | _ => false
  | v :: r, l => match l with
    | v' :: r' => match eqC v v' with
      | true => eqCs r r'
      | false => false
    | _ => false
theorem eqCs_ok : ∀ {v w : List AV}, eqCs v w = true → v = w
  | [], w, h => by
    cases w with
    | nil => rfl
    | cons => cases h
  | v :: r, w, h => by
    cases w with
    | nil => cases h
    | cons v' r' =>
      simp only [eqCs] at h
      split at h
      · rename_i h1
        rw [eqC_ok h1, eqCs_ok h]
      · cases h
def eqEs : List (AV × AV × Nat) → List (AV × AV × Nat) → Bool
  | [], l => match l with
    | [] => true
    | _ => false
  | (k, v, b) :: r, l => match l with
    | (k', v', b') :: r' => match eqAV k k' with
      | true => match eqAV v v' with
        | true => match Nat.beq b b' with
          | true => eqEs r r'
          | false => false
        | false => false
      | false => false
    | _ => false
theorem eqEs_ok : ∀ {v w : List (AV × AV × Nat)}, eqEs v w = true → v = w
  | [], w, h => by
    cases w with
    | nil => rfl
    | cons => cases h
  | (k, v, b) :: r, w, h => by
    cases w with
    | nil => cases h
    | cons q r' =>
      obtain ⟨k', v', b'⟩ := q
      simp only [eqEs] at h
      split at h
      · rename_i h1
        split at h
        · rename_i h2
          split at h
          · rename_i h3
            rw [eqAV_ok _ _ h1, eqAV_ok _ _ h2, Nat.eq_of_beq_eq_true h3, eqEs_ok h]
          · cases h
        · cases h
      · cases h
def eqAB : AB → AB → Bool
  | .cells cs x z, w => match w with
    | .cells cs' x' z' => match Nat.beq x x', Nat.beq z z' with
      | true, true => eqCs cs cs'
      | _, _ => false
    | _ => false
  | .map es c, w => match w with
    | .map es' c' => match Nat.beq c c' with
      | true => eqEs es es'
      | false => false
    | _ => false
  | .sit n N p, w => match w with
    | .sit n' N' p' => match Nat.beq n n', Nat.beq N N', Nat.beq p p' with
      | true, true, true => true
      | _, _, _ => false
    | _ => false
  | .dfr true, w => match w with
    | .dfr true => true
    | _ => false
  | _, _ => false
theorem eqAB_ok {v w : AB} (h : eqAB v w = true) : v = w := by
  unfold eqAB at h
  split at h
  · split at h
    · split at h
      · rename_i h1 h2
        rw [Nat.eq_of_beq_eq_true h1, Nat.eq_of_beq_eq_true h2, eqCs_ok h]
      · cases h
    · cases h
  · split at h
    · split at h
      · rename_i h1
        rw [Nat.eq_of_beq_eq_true h1, eqEs_ok h]
      · cases h
    · cases h
  · split at h
    · split at h
      · rename_i h1 h2 h3
        rw [Nat.eq_of_beq_eq_true h1, Nat.eq_of_beq_eq_true h2, Nat.eq_of_beq_eq_true h3]
      · cases h
    · cases h
  · split at h
    · rfl
    · cases h
  · cases h
def eqEE : EE → EE → Bool
  | .ret v, w => match w with
    | .ret v' => eqAV v v'
    | _ => false
  | .pan v, w => match w with
    | .pan v' => eqAV v v'
    | _ => false
theorem eqEE_ok {v w : EE} (h : eqEE v w = true) : v = w := by
  unfold eqEE at h
  split at h <;> split at h <;> first | (rw [eqAV_ok _ _ h]) | cases h

/-! ### Lists of blocks -/
abbrev Bs := List (Nat × AB)
def lk : Bs → Nat → Option AB
  | [], _ => none
  | (m, ab) :: r, n => (lk r n).or (if n = m then some ab else none)
noncomputable def putAll : Bs → Mm → Mm
  | [], t => t
  | (n, ab) :: r, t => putAll r (Mm.put (some ab) t n)
def smallB : Bs → Bool
  | [] => true
  | (n, _) :: r => match Nat.ble n topName with
    | true => smallB r
    | false => false
theorem putAll_get : ∀ (l : Bs) (t : Mm), smallB l = true → ∀ n, (putAll l t).get n = (lk l n).or (t.get n)
  | [], t, _, n => rfl
  | (m, ab) :: r, t, h, n => by
    simp only [smallB] at h
    split at h
    case h_2 => cases h
    rename_i hm
    have hm' := Nat.le_of_ble_eq_true hm
    simp only [putAll, lk]
    rw [putAll_get r _ h n, Mm.get_put (some ab) t m n (by unfold topName at hm'; omega)]
    cases lk r n with
    | some x => rfl
    | none => by_cases e : n = m <;> simp [e]
/-- All these blocks are there. -/
noncomputable def allIn (t : Mm) : Bs → Bool
  | [] => true
  | (n, ab) :: r => match t.get n with
    | some ab' => match eqAB ab ab' with
      | true => allIn t r
      | false => false
    | none => false
theorem allIn_ok {t : Mm} : ∀ {l : Bs}, allIn t l = true → ∀ n ab, lk l n = some ab → t.get n = some ab
  | [], _, n, ab, e => by cases e
  | (m, ab) :: r, h, n, ab', e => by
    simp only [allIn] at h
    split at h
    case h_2 => cases h
    rename_i ab1 h1
    split at h
    case h_2 => cases h
    rename_i h2
    have := eqAB_ok h2
    subst this
    simp only [lk] at e
    cases hr : lk r n with
    | some x => rw [hr] at e; cases e; exact allIn_ok h n ab' hr
    | none =>
      rw [hr] at e
      by_cases hn : n = m
      · subst hn; simp at e; subst e; exact h1
      · simp [hn] at e
/-- Blocks from a name on. -/
def newB (x : Nat) : Bs → Bool
  | [] => true
  | (n, _) :: r => match Nat.ble x n with
    | true => newB x r
    | false => false
theorem newB_ok {x : Nat} : ∀ {l : Bs}, newB x l = true → ∀ n ab, lk l n = some ab → x ≤ n
  | [], _, n, ab, e => by cases e
  | (m, ab) :: r, h, n, ab', e => by
    simp only [newB] at h
    split at h
    case h_2 => cases h
    rename_i h1
    simp only [lk] at e
    cases hr : lk r n with
    | some x => rw [hr] at e; cases e; exact newB_ok h n ab' hr
    | none =>
      rw [hr] at e
      by_cases hn : n = m
      · subst hn; exact Nat.le_of_ble_eq_true h1
      · simp [hn] at e
/-- The same names come first; behind them new ones. -/
def samB (x : Nat) : Bs → Bs → Bool
  | [], l => newB x l
  | (n, _) :: r, l => match l with
    | (m, _) :: r' => match Nat.beq n m with
      | true => samB x r r'
      | false => false
    | [] => false
theorem samB_ok {x : Nat} : ∀ {p q : Bs}, samB x p q = true → (∀ n, (lk p n).isSome = true → (lk q n).isSome = true) ∧ ∀ n, (lk q n).isSome = true → (lk p n).isSome = true ∨ x ≤ n
  | [], q, h => by
    refine ⟨fun n e => (by cases e), fun n e => ?_⟩
    obtain ⟨ab, e⟩ := Option.isSome_iff_exists.1 e
    exact .inr (newB_ok h n ab e)
  | (n, a) :: r, q, h => by
    cases q with
    | nil => cases h
    | cons y r' =>
      obtain ⟨m, a'⟩ := y
      simp only [samB] at h
      split at h
      case h_2 => cases h
      rename_i h1
      have := Nat.eq_of_beq_eq_true h1
      subst this
      obtain ⟨g1, g2⟩ := samB_ok h
      refine ⟨fun k e => ?_, fun k e => ?_⟩
      · simp only [lk] at e ⊢
        cases hr : lk r' k with
        | some x => rfl
        | none =>
          cases hp : lk r k with
          | some x => have := g1 k (by rw [hp]; rfl); rw [hr] at this; cases this
          | none =>
            rw [hp] at e
            by_cases hk : k = n <;> simp [hk] at e ⊢
      · simp only [lk] at e ⊢
        cases hp : lk r k with
        | some x => exact .inl rfl
        | none =>
          cases hr : lk r' k with
          | some x =>
            rcases g2 k (by rw [hr]; rfl) with h2 | h2
            · rw [hp] at h2; cases h2
            · exact .inr h2
          | none =>
            rw [hr] at e
            by_cases hk : k = n
            · exact .inl (by simp [hk])
            · simp [hk] at e

/-! ### Known runs -/
structure Row where
  f : Nat
  vs : List AV
  nx : Nat
  nc : Nat
  pre : Bs
  e : EE
  nx' : Nat
  nc' : Nat
  post : Bs
def Row.M (r : Row) : MS := ⟨lk r.pre, r.nx, r.nc⟩
def Row.M' (r : Row) : MS := ⟨lk r.post, r.nx', r.nc'⟩
noncomputable def Row.st (r : Row) : St := ⟨putAll r.pre Mm.lf, r.nx, r.nc⟩
def Row.Holds (G : Nat) (P : Program) (r : Row) : Prop := ∀ σ w xs, Ds G σ r.M w → Vs σ r.vs xs → Calls P r.f xs.toArray w fun ec w' => ∃ σ', EV σ' r.e ec ∧ Ds G σ' r.M' w' ∧ Ex σ r.M w σ' r.M' w'
def Row.wf (r : Row) : Bool := match smallB r.pre with
  | true => match smallB r.post with
    | true => samB r.nx r.pre r.post
    | false => false
  | false => false
theorem Row.wf_ok {r : Row} (h : r.wf = true) : smallB r.pre = true ∧ smallB r.post = true ∧ samB r.nx r.pre r.post = true := by
  unfold Row.wf at h
  split at h
  · rename_i h1
    split at h
    · rename_i h2; exact ⟨h1, h2, h⟩
    · cases h
  · cases h
noncomputable def Row.is (r : Row) (x : R (EE × St)) : Bool := match x with
  | .ok q => match eqEE r.e q.1 with
    | true => match Nat.beq r.nx' q.2.nx with
      | true => match Nat.beq r.nc' q.2.nc with
        | true => allIn q.2.mem r.post
        | false => false
      | false => false
    | false => false
  | .no _ => false
noncomputable def Row.chk (E : Env) (lf n : Nat) (r : Row) : Bool := match r.wf with
  | true => r.is (funA E (drwA E) lf n (.fn r.f) r.vs r.st)
  | false => false
theorem Row.is_ok {r : Row} {x : R (EE × St)} (h : r.is x = true) : ∃ s, x = .ok (r.e, s) ∧ s.nx = r.nx' ∧ s.nc = r.nc' ∧ ∀ n ab, lk r.post n = some ab → s.mem.get n = some ab := by
  unfold Row.is at h
  split at h
  case h_2 => cases h
  rename_i q
  obtain ⟨e, s⟩ := q
  split at h
  case h_2 => cases h
  rename_i h1
  split at h
  case h_2 => cases h
  rename_i h2
  split at h
  case h_2 => cases h
  rename_i h3
  have := eqEE_ok h1
  subst this
  exact ⟨s, rfl, (Nat.eq_of_beq_eq_true h2).symm, (Nat.eq_of_beq_eq_true h3).symm, allIn_ok h⟩
theorem Row.chk_wf {E : Env} {lf n : Nat} {r : Row} (h : r.chk E lf n = true) : r.wf = true := by
  unfold Row.chk at h
  split at h
  · assumption
  · cases h
theorem Row.holds {E : Env} (hrd : E.rd = none) (ok : EnvOK E) {lf n : Nat} {r : Row} (h : r.chk E lf n = true) : r.Holds E.G E.P := by
  have hwf := Row.chk_wf h
  obtain ⟨w1, w2, w3⟩ := Row.wf_ok hwf
  unfold Row.chk at h
  rw [hwf] at h
  obtain ⟨s, h1, h2, h3, h4⟩ := Row.is_ok h
  intro σ w xs hd hv
  have hM : r.st.ms = r.M := by
    unfold Row.st St.ms Row.M
    congr 1
    funext k
    show (putAll r.pre Mm.lf).get k = lk r.pre k
    rw [putAll_get _ _ w1, Mm.get_lf, Option.or_none]
  refine ((funA_sound hrd ok lf n).1 _ _ _ _ _ h1 σ w xs (by rw [hM]; exact hd) hv).mono fun ec w' ⟨σ', g1, g2, g3⟩ => ⟨σ', g1, g2.sub h4 h2.symm h3.symm, ?_⟩
  rw [hM] at g3
  refine ⟨g3.bl, g3.cp, g3.sy, by show r.M.nx ≤ r.nx'; rw [← h2]; exact g3.nx, by show r.M.nc ≤ r.nc'; rw [← h3]; exact g3.nc, fun k hk => g3.im k (Im.sub (M := s.ms) (N := r.M') h4 hk), g3.chg⟩
noncomputable def Row.hit (r : Row) (f : Nat) (vs : List AV) (s : St) : Option (EE × St) := match Nat.beq r.f f with
  | true => match Nat.beq r.nx s.nx with
    | true => match Nat.beq r.nc s.nc with
      | true => match eqAVs r.vs vs with
        | true => match allIn s.mem r.pre with
          | true => some (r.e, ⟨putAll r.post s.mem, r.nx', r.nc'⟩)
          | false => none
        | false => none
      | false => none
    | false => none
  | false => none
theorem Row.hit_ok {G : Nat} {P : Program} {r : Row} (hh : r.Holds G P) (hwf : r.wf = true) {f : Nat} {vs : List AV} {s s' : St} {e : EE} (h : r.hit f vs s = some (e, s')) {σ : Sg} {w : World} {xs : List Value} (hd : Ds G σ s.ms w) (hv : Vs σ vs xs) :
    Calls P f xs.toArray w fun ec w' => ∃ σ', EV σ' e ec ∧ Ds G σ' s'.ms w' ∧ Ex σ s.ms w σ' s'.ms w' := by
  obtain ⟨w1, w2, w3⟩ := Row.wf_ok hwf
  obtain ⟨sm1, sm2⟩ := samB_ok w3
  unfold Row.hit at h
  split at h
  case h_2 => cases h
  rename_i h1
  split at h
  case h_2 => cases h
  rename_i h2
  split at h
  case h_2 => cases h
  rename_i h3
  split at h
  case h_2 => cases h
  rename_i h4
  split at h
  case h_2 => cases h
  rename_i h5
  cases h
  have e1 := Nat.eq_of_beq_eq_true h1
  have e2 := Nat.eq_of_beq_eq_true h2
  have e3 := Nat.eq_of_beq_eq_true h3
  have e4 := eqAVs_ok _ _ h4
  subst e1
  subst e4
  have e5 := allIn_ok h5
  let x : Nat → Option AB := fun n => if (lk r.pre n).isSome = true then none else s.mem.get n
  have hN : ∀ n, s.ms.g n = (x n).or (r.M.g n) := by
    intro n
    show s.mem.get n = (if (lk r.pre n).isSome = true then none else s.mem.get n).or (lk r.pre n)
    cases hp : lk r.pre n with
    | some ab => simp [e5 n ab hp]
    | none => simp
  have hxN : ∀ n ab, x n = some ab → r.M.g n = none := by
    intro n ab hx
    show lk r.pre n = none
    simp only [x] at hx
    split at hx
    · cases hx
    · rename_i hn
      cases hp : lk r.pre n with
      | none => rfl
      | some ab => rw [hp] at hn; exact absurd rfl hn
  have hsub : ∀ n ab, r.M.g n = some ab → s.ms.g n = some ab := fun n ab hh => e5 n ab hh
  have dN : Ds G σ r.M w := hd.sub hsub e2 e3
  refine (hh σ w xs dN hv).mono fun ec w' ⟨σ', g1, g2, g3⟩ => ?_
  obtain ⟨k1, k2⟩ := hd.beside (x := x) hN hxN e2 e3 g2 g3
  have hget : ∀ n ab, (putAll r.post s.mem).get n = some ab → (x n).or (r.M'.g n) = some ab := by
    intro n ab hg
    rw [putAll_get _ _ w2] at hg
    show (x n).or (lk r.post n) = some ab
    cases hq : lk r.post n with
    | some y =>
      rw [hq] at hg
      have hg : y = ab := by simpa using hg
      subst hg
      have : x n = none := by
        rcases sm2 n (by rw [hq]; rfl) with hp | hp
        · simp only [x, hp, if_true]
        · have : s.mem.get n = none := by
            cases hs : s.mem.get n with
            | none => rfl
            | some z =>
              have := hd.glt (n := n) (ab := z) hs
              have h2 : n < s.nx := this
              rw [← e2] at h2
              omega
          simp only [x, this, ite_self]
      rw [this]; rfl
    | none =>
      rw [hq] at hg
      have hg : s.mem.get n = some ab := by simpa using hg
      have : (lk r.pre n).isSome ≠ true := fun hp => by have := sm1 n hp; rw [hq] at this; cases this
      simp only [x, if_neg this, hg]
      rfl
  refine ⟨σ', g1, k1.sub hget rfl rfl, ⟨k2.bl, k2.cp, k2.sy, k2.nx, k2.nc, fun k hk => k2.im k (Im.sub hget hk), k2.chg⟩⟩
noncomputable def sumL : List Row → Nat → List AV → St → Option (R (EE × St))
  | [], _, _, _ => none
  | r :: l, f, vs, s => match r.hit f vs s with
    | some x => some (.ok x)
    | none => sumL l f vs s
theorem sumL_ok {G : Nat} {P : Program} : ∀ {l : List Row}, (∀ r ∈ l, r.Holds G P ∧ r.wf = true) → ∀ f vs s e s', sumL l f vs s = some (.ok (e, s')) → ∀ σ w xs, Ds G σ s.ms w → Vs σ vs xs → Calls P f xs.toArray w fun ec w' => ∃ σ', EV σ' e ec ∧ Ds G σ' s'.ms w' ∧ Ex σ s.ms w σ' s'.ms w'
  | [], _, f, vs, s, e, s', h, _, _, _, _, _ => by cases h
  | r :: l, hl, f, vs, s, e, s', h, σ, w, xs, hd, hv => by
    simp only [sumL] at h
    split at h
    · rename_i x hx
      cases h
      exact Row.hit_ok (hl r List.mem_cons_self).1 (hl r List.mem_cons_self).2 hx hd hv
    · exact sumL_ok (fun r hr => hl r (List.mem_cons_of_mem _ hr)) f vs s e s' h σ w xs hd hv
/-- With a known run more. -/
noncomputable def Env.plus (E : Env) (l : List Row) : Env := { E with sum := sumL l }
theorem EnvOK.plus {E : Env} (ok : EnvOK E) {l : List Row} (h : ∀ r ∈ l, r.Holds E.G E.P ∧ r.wf = true) : EnvOK (E.plus l) := ⟨ok.plain, ok.mixed, ok.ext, sumL_ok h⟩
/-- A known run that asks nothing of the world, and ends in a truth: it changes no block that was there. -/
theorem Row.any {G : Nat} {P : Program} {r : Row} (hh : r.Holds G P) {b : Bool} (h1 : r.vs = []) (h2 : r.pre = []) (h3 : r.nx = G) (h4 : r.e = .ret (.bool b)) (w : World) :
    Calls P r.f #[] w fun e w' => e = .returned (.bool b) ∧ Chg (fun _ => False) w w' := by
  let σ : Sg := ⟨fun n => if n < G then some (n, 0) else none, fun _ => none, fun _ => .nilIface⟩
  have hg : ∀ n, r.M.g n = none := fun n => by show lk r.pre n = none; rw [h2]; rfl
  have hd : Ds G σ r.M w := by
    refine ⟨fun n ab e => ?_, fun n m ab ab' p q _ e => ?_, fun n hn => ?_, fun n _ => rfl, fun g hlt => ?_⟩
    · rw [hg] at e; cases e
    · rw [hg] at e; cases e
    · have hn' : G ≤ n := by rw [← h3]; exact hn
      exact if_neg (by omega)
    · exact if_pos hlt
  have hv : Vs σ r.vs [] := by rw [h1]; simp [Vs]
  refine (hh σ w [] hd hv).mono fun e w' ⟨σ', g1, g2, g3⟩ => ?_
  rw [h4] at g1
  obtain ⟨x, hx, rfl⟩ := g1
  simp only [V] at hx
  subst hx
  refine ⟨rfl, g3.chg.mono fun k _ hk => ?_⟩
  obtain ⟨n, ab, p, e1, _⟩ := hk
  rw [hg] at e1; cases e1
end
end Go.Proofs.YtocabeobfbhajaaGreatDoor.Sx
