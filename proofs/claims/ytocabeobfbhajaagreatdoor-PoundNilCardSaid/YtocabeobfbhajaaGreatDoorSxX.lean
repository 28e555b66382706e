/- The reckoner: regions in the order of the text, code, functions. No program is named here. -/
import Derived.Test.YtocabeobfbhajaaGreatDoorSxW
set_option linter.unusedVariables false
set_option linter.unusedSimpArgs false
namespace Go.Proofs.YtocabeobfbhajaaGreatDoor.Sx
noncomputable section
open Go Go.RowKit

noncomputable def putB (b : Bool) : Tm → Tmp → AV → R Tm := Bool.rec (motive := fun _ => Tm → Tmp → AV → R Tm) (fun _ _ _ => .no 510) (fun T d v => .ok (Tm.put v T d)) b
noncomputable def putA (nt : Nat) (T : Tm) (d : Option Tmp) (v : AV) : R Tm := Option.rec (motive := fun _ => Nat → Tm → AV → R Tm) (fun _ T _ => .ok T) (fun d nt T v => putB (Nat.ble (Nat.succ d) nt) T d v) d nt T v
theorem putA_eq (nt : Nat) (T : Tm) (d : Option Tmp) (v : AV) : putA nt T d v = match d with
  | none => .ok T
  | some d => match Nat.ble (Nat.succ d) nt with
    | true => .ok (Tm.put v T d)
    | false => .no 510 := by
  cases d with
  | none => rfl
  | some d =>
    show putB (Nat.ble (Nat.succ d) nt) T d v = _
    dsimp only
    cases Nat.ble (Nat.succ d) nt <;> rfl
theorem tget_put {T : Tm} {d : Nat} {v : AV} (h : d < topTmp) (t : Nat) : tget (Tm.put v T d) t = if some d = some t then v else tget T t := by
  unfold tget
  rw [Tm.get_put v T d t (by unfold topTmp at h; omega)]
  by_cases e : t = d
  · subst e; simp
  · rw [if_neg e, if_neg (fun h => e (by cases h; rfl))]
theorem putA_ok {nt : Nat} {T T' : Tm} {d : Option Tmp} {v : AV} (hn : nt ≤ topTmp) (h : putA nt T d v = .ok T') : tget T' = upd (tget T) d v ∧ ∀ t, d = some t → t < nt := by
  rw [putA_eq] at h
  split at h
  · cases h
    exact ⟨by funext t; simp [upd], by simp⟩
  · rename_i d
    split at h
    case h_2 => cases h
    rename_i hb
    have hb' : d < nt := Nat.le_of_ble_eq_true hb
    cases h
    refine ⟨?_, fun t e => by cases e; exact hb'⟩
    funext t
    rw [tget_put (Nat.lt_of_lt_of_le hb' hn)]
    rfl
/-- Whether an operation is wanted. -/
noncomputable def wantV (v : AV) (b : Bool) : R Bool := match v with
  | .bool c => .ok (eqB c b)
  | .tup _ => .ok false
  | _ => .no 511
noncomputable def wantD (d : Option Tmp) : Tm → Bool → R Bool := Option.rec (motive := fun _ => Tm → Bool → R Bool) (fun _ _ => .no 512) (fun d T b => wantV (tget T d) b) d
noncomputable def wantO (o : Option Oper) : Tm → Bool → R Bool := Option.rec (motive := fun _ => Tm → Bool → R Bool) (fun _ _ => .no 513) (fun o T b => wantD o.dst T b) o
noncomputable def wantG (g : Option (Nat × Bool)) : Tm → List Oper → R Bool := Option.rec (motive := fun _ => Tm → List Oper → R Bool) (fun _ _ => .ok true) (fun g T all => wantO all[g.1]? T g.2) g
noncomputable def wantA (T : Tm) (all : List Oper) (o : Oper) : R Bool := wantG o.guard T all
theorem wantA_eq (T : Tm) (all : List Oper) (o : Oper) : wantA T all o = match o.guard with
  | none => .ok true
  | some g => match all[g.1]? with
    | some oj => match oj.dst with
      | some d => match tget T d with
        | .bool b => .ok (eqB b g.2)
        | .tup _ => .ok false
        | _ => .no 511
      | none => .no 512
    | none => .no 513 := by
  unfold wantA
  cases o.guard with
  | none => rfl
  | some g =>
    show wantO all[g.1]? T g.2 = _
    dsimp only
    cases all[g.1]? with
    | none => rfl
    | some oj =>
      show wantD oj.dst T g.2 = _
      dsimp only
      cases oj.dst <;> rfl
/-- The slots that an operation looks at, but for its operands. -/
def gdst (all : List Oper) (o : Oper) : Option Tmp := match o.guard with
  | none => none
  | some g => match all[g.1]? with
    | some oj => oj.dst
    | none => none
theorem wantA_ok {T : Tm} {all : List Oper} {o : Oper} {b : Bool} {σ : Sg} {a : Act} {ops : Array Oper} (hall : ops.toList = all) (h : wantA T all o = .ok b) (hv : ∀ t, gdst all o = some t → V σ (tget T t) (a.tmps.getD t undef)) :
    Region.wanted o (yielded ops a.tmps) = b := by
  rw [wantA_eq] at h
  unfold gdst at hv
  unfold Region.wanted
  split at h
  · rename_i hg; cases h; rw [hg]
  · rename_i g hg
    rw [hg]
    rw [hg] at hv
    dsimp only at hv ⊢
    split at h
    case h_2 => cases h
    rename_i oj hoj
    rw [hoj] at hv
    dsimp only at hv
    split at h
    case h_2 => cases h
    rename_i d hd
    have h3 : ops[g.1]? = some oj := by rw [← Array.getElem?_toList, hall]; exact hoj
    split at h
    case h_3 => cases h
    · rename_i bb hbb
      cases h
      have h1 := hv d hd
      rw [hbb] at h1
      simp only [V] at h1
      have h2 : a.tmps[d]? = some (.bool bb) := by
        rw [Array.getD_eq_getD_getElem?] at h1
        cases hq : a.tmps[d]? with
        | none => rw [hq] at h1; simp [undef] at h1
        | some q => rw [hq] at h1; simpa using h1
      have : yielded ops a.tmps g.1 = some bb := by
        unfold yielded
        simp only [h3, Option.bind_some, hd, h2]
      rw [this, eqB_ok]
      rfl
    · rename_i bb hbb
      cases h
      have h1 := hv d hd
      rw [hbb] at h1
      simp only [V] at h1
      obtain ⟨l, _, h1⟩ := h1
      have : yielded ops a.tmps g.1 = none := by
        unfold yielded
        simp only [h3, Option.bind_some, hd]
        rw [Array.getD_eq_getD_getElem?] at h1
        cases hq : a.tmps[d]? with
        | none => rfl
        | some q => rw [hq] at h1; simp only [Option.getD_some] at h1; rw [h1]
      rw [this]
      rfl
abbrev SqR := Env → CallR → Nat → List Oper → Tm → List DA → St → R Out
noncomputable def seqO (ih : SqR) (E : Env) (call : CallR) (nt : Nat) (all : List Oper) (d : Option Tmp) (T : Tm) (ds0 : List DA) (q : OS) : R Out :=
  OS.rec (motive := fun _ => R Out) (fun v ds s => (putA nt T d v).bind fun T => ih E call nt all T ds s) (fun v s => .ok (.pan v, T, ds0, s)) q
noncomputable def seqB (b : Bool) : SqR → Env → CallR → Nat → List Oper → Oper → Tm → List DA → St → R Out :=
  Bool.rec (motive := fun _ => SqR → Env → CallR → Nat → List Oper → Oper → Tm → List DA → St → R Out)
    (fun ih E call nt all o T ds s => (putA nt T o.dst (.tup [])).bind fun T => ih E call nt all T ds s)
    (fun ih E call nt all o T ds s => (opF (clsO E.P o.op) o.op E call T ds s).bind (seqO ih E call nt all o.dst T ds)) b
noncomputable def seqK (l : List Oper) : SqR := List.rec (motive := fun _ => SqR) (fun _ _ _ _ T ds s => .ok (.normal, T, ds, s))
    (fun o _ ih E call nt all T ds s => (wantA T all o).bind fun b => seqB b ih E call nt all o T ds s) l
noncomputable def seqR (E : Env) (call : CallR) (nt : Nat) (all l : List Oper) : Tm → List DA → St → R Out := seqK l E call nt all
theorem seqR_cons (E : Env) (call : CallR) (nt : Nat) (all : List Oper) (o : Oper) (r : List Oper) (T : Tm) (ds : List DA) (s : St) :
    seqR E call nt all (o :: r) T ds s = (wantA T all o).bind fun b => match b with
      | false => (putA nt T o.dst (.tup [])).bind fun T' => seqR E call nt all r T' ds s
      | true => (opS E call T ds s o.op).bind fun q => match q with
        | .val v ds' s' => (putA nt T o.dst v).bind fun T' => seqR E call nt all r T' ds' s'
        | .pan v s' => .ok (.pan v, T, ds, s') := by
  show (wantA T all o).bind _ = (wantA T all o).bind _
  congr 1
  funext b
  cases b with
  | false => rfl
  | true =>
    show (opF (clsO E.P o.op) o.op E call T ds s).bind _ = (opS E call T ds s o.op).bind _
    rw [opF_eq]
    congr 1
    funext q
    cases q <;> rfl
theorem Od_of {E : Env} {σ : Sg} {s : St} {w : World} {nt : Nat} {T : Tm} {a : Act} (hd : Ds E.G σ s.ms w) (ht : Ta σ nt (tget T) a) (x : Operand) : Od E.G σ (tget T) a x :=
  ⟨fun t _ => ht.val t, hd.glob⟩
theorem seqR_ok {ro : Option Nat} {E : Env} (ok : EnvOK E) {call : CallR} (hc : CallOK E call) {nt : Nat} (hn : nt ≤ topTmp) {ops : Array Oper} : ∀ (l : List Oper) (T : Tm) (ds : List DA) (s : St) (r : Out), seqR E call nt ops.toList l T ds s = .ok r →
    ∀ (σ : Sg) (a : Act) (w : World), Ds E.G σ s.ms w → Ta σ nt (tget T) a → DSs σ ds a.defers → RdOK σ ro E.rd → wpListIn (Wd ro) 0 E.P ops (PX E σ s.ms w nt r) l a w
  | [], T, ds, s, r, h, σ, a, w, hd, ht, hds, hro => by
    cases h
    exact wpListIn_nil ⟨σ, hd, Ex.refl _ _ _, hds, rfl, ht⟩
  | o :: l, T, ds, s, r, h, σ, a, w, hd, ht, hds, hro => by
    rw [seqR_cons] at h
    obtain ⟨b, h1, h⟩ := R.bind_ok h
    have hw := wantA_ok (ops := ops) rfl h1 (fun t _ => ht.val t)
    unfold wpListIn
    rw [hw]
    split at h
    · obtain ⟨T', h2, h⟩ := R.bind_ok h
      obtain ⟨e1, e2⟩ := putA_ok hn h2
      rw [if_neg (by simp)]
      exact ⟨fun _ _ => trivial, seqR_ok ok hc hn l T' ds s r h σ _ w hd (by rw [e1]; exact ht.put e2 (V_undef σ)) (by rw [defers_put]; exact hds) hro⟩
    · obtain ⟨q, h2, h⟩ := R.bind_ok h
      rw [if_pos rfl]
      refine opS_ok ok hc h2 hd hds hro (fun y _ => Od_of hd ht y) ?_
      split at h
      · rename_i v ds' s'
        obtain ⟨T', h3, h⟩ := R.bind_ok h
        obtain ⟨e1, e2⟩ := putA_ok hn h3
        intro σ' x a' w' htm hds' hv hd' hx
        have hle := hx.le hd
        have ht' : Ta σ' nt (tget T) a' := by
          refine ⟨by rw [htm]; exact ht.size, fun t => ?_⟩
          rw [htm]; exact V_mono hle _ _ (ht.val t)
        have := seqR_ok ok hc hn l T' ds' s' r h σ' _ w' hd' (by rw [e1]; exact ht'.put e2 hv) (by rw [defers_put]; exact hds') (RdOK_mono hle hro)
        exact wpList_mono' (fun e a w hh => PX.trans hx hh) _ _ _ this
      · rename_i v s'
        cases h
        intro σ' x w' hv hd' hx
        exact ⟨σ', hd', hx, DSs_mono (hx.le hd) _ _ hds, x, hv, rfl, ht.mono (hx.le hd)⟩
where
  wpList_mono' {ro : Option Nat} {E : Env} {ops : Array Oper} {Q Q' : Exit → Act → World → Prop} (h : ∀ e a w, Q e a w → Q' e a w) : ∀ (l : List Oper) (a : Act) (w : World), wpListIn (Wd ro) 0 E.P ops Q l a w → wpListIn (Wd ro) 0 E.P ops Q' l a w := by
    intro l
    induction l with
    | nil => intro a w hh; exact h _ _ _ hh
    | cons o l ih =>
      intro a w hh
      unfold wpListIn at hh ⊢
      split
      · rename_i hw
        rw [if_pos hw] at hh
        exact wpW_mono ih h hh
      · rename_i hw
        rw [if_neg hw] at hh
        exact ⟨hh.1, ih _ _ hh.2⟩
end
end Go.Proofs.YtocabeobfbhajaaGreatDoor.Sx
