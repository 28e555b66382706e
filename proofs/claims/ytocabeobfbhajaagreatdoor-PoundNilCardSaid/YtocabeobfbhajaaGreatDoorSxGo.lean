/- The reckoner, used beside other walks: the first part of a region; calls that change nothing. No program is named here. -/
import Derived.Test.YtocabeobfbhajaaGreatDoorSxRow
set_option linter.unusedVariables false
set_option linter.unusedSimpArgs false
namespace Go.Proofs.YtocabeobfbhajaaGreatDoor.Sx
noncomputable section
open Go Go.RowKit

/-- The first operations of a region; then others. -/
theorem seqR_go {ro : Option Nat} {E : Env} (ok : EnvOK E) {call : CallR} (hc : CallOK E call) {nt : Nat} (hn : nt ≤ topTmp) {ops : Array Oper} {Q : Exit → Act → World → Prop} {l2 : List Oper} : ∀ (l1 : List Oper) (T : Tm) (ds : List DA) (s : St) (T' : Tm) (ds' : List DA) (s' : St), seqR E call nt ops.toList l1 T ds s = .ok (.normal, T', ds', s') →
    ∀ (σ : Sg) (a : Act) (w : World), Ds E.G σ s.ms w → Ta σ nt (tget T) a → DSs σ ds a.defers → RdOK σ ro E.rd →
    (∀ σ' a' w', Ds E.G σ' s'.ms w' → Ex σ s.ms w σ' s'.ms w' → Ta σ' nt (tget T') a' → DSs σ' ds' a'.defers → wpListIn (Wd ro) 0 E.P ops Q l2 a' w') → wpListIn (Wd ro) 0 E.P ops Q (l1 ++ l2) a w
  | [], T, ds, s, T', ds', s', h, σ, a, w, hd, ht, hds, hro, hk => by
    cases h
    exact hk σ a w hd (Ex.refl _ _ _) ht hds
  | o :: l, T, ds, s, T', ds', s', h, σ, a, w, hd, ht, hds, hro, hk => by
    rw [seqR_cons] at h
    obtain ⟨b, h1, h⟩ := R.bind_ok h
    have hw := wantA_ok (ops := ops) rfl h1 (fun t _ => ht.val t)
    rw [List.cons_append]
    unfold wpListIn
    rw [hw]
    split at h
    · obtain ⟨T1, h2, h⟩ := R.bind_ok h
      obtain ⟨e1, e2⟩ := putA_ok hn h2
      rw [if_neg (by simp)]
      exact ⟨fun _ _ => trivial, seqR_go ok hc hn l T1 ds s T' ds' s' h σ _ w hd (by rw [e1]; exact ht.put e2 (V_undef σ)) (by rw [defers_put]; exact hds) hro hk⟩
    · obtain ⟨q, h2, h⟩ := R.bind_ok h
      rw [if_pos rfl]
      refine opS_ok ok hc h2 hd hds hro (fun y _ => Od_of hd ht y) ?_
      split at h
      · rename_i v ds1 s1
        obtain ⟨T1, h3, h⟩ := R.bind_ok h
        obtain ⟨e1, e2⟩ := putA_ok hn h3
        intro σ1 x a1 w1 htm hds1 hv hd1 hx
        have hle := hx.le hd
        have ht1 : Ta σ1 nt (tget T) a1 := by
          refine ⟨by rw [htm]; exact ht.size, fun t => ?_⟩
          rw [htm]; exact V_mono hle _ _ (ht.val t)
        exact seqR_go ok hc hn l T1 ds1 s1 T' ds' s' h σ1 _ w1 hd1 (by rw [e1]; exact ht1.put e2 hv) (by rw [defers_put]; exact hds1) (RdOK_mono hle hro) (fun σ2 a2 w2 k1 k2 k3 k4 => hk σ2 a2 w2 k1 (hx.trans k2) k3 k4)
      · cases h
/-- Nothing that was there has changed. -/
theorem Ds.quiet {G : Nat} {σ : Sg} {M : MS} {w w' : World} (d : Ds G σ M w) (h : Chg (fun _ => False) w w') : Ds G σ M w' ∧ Ex σ M w σ M w' := by
  refine ⟨⟨fun n ab e => ?_, d.inj, d.fresh, d.freshC, d.glob⟩, ⟨fun _ _ => rfl, fun _ _ => rfl, rfl, Nat.le_refl _, Nat.le_refl _, fun _ h => .inr h, h.mono fun _ _ h => h.elim⟩⟩
  obtain ⟨p, hp, ob, ho, hb⟩ := d.blk n ab e
  exact ⟨p, hp, ob, by rw [h.block p.1 (lt_of_get ho) id]; exact ho, hb⟩
/-- What a run came to. -/
def outT (x : R Out) : Tm := match x with
  | .ok r => r.2.1
  | .no _ => Tm.lf
def outS (x : R Out) : St := match x with
  | .ok r => r.2.2.2
  | .no _ => ⟨Mm.lf, 0, 0⟩
def isN (x : R Out) : Bool := match x with
  | .ok r => match r.1, r.2.2.1 with
    | .normal, [] => true
    | _, _ => false
  | .no _ => false
theorem isN_ok {x : R Out} (h : isN x = true) : x = .ok (.normal, outT x, [], outS x) := by
  cases x with
  | no c => cases h
  | ok r =>
    obtain ⟨a, b, c, d⟩ := r
    cases a <;> cases c <;> first | rfl | cases h
/-- It returns the truth. -/
def isT (x : R (EE × St)) : Bool := match x with
  | .ok r => match r.1 with
    | .ret v => match v with
      | .bool b => b
      | _ => false
    | _ => false
  | .no _ => false
theorem isT_ok {x : R (EE × St)} (h : isT x = true) : ∃ s, x = .ok (.ret (.bool true), s) := by
  cases x with
  | no c => cases h
  | ok r =>
    obtain ⟨e, s⟩ := r
    cases e with
    | pan v => cases h
    | ret v =>
      cases v
      case bool b =>
        cases b
        · cases h
        · exact ⟨s, rfl⟩
      all_goals cases h
end
end Go.Proofs.YtocabeobfbhajaaGreatDoor.Sx
