/- The reckoner: functions, deferred calls, recover. No program is named here. -/
import Derived.Test.YtocabeobfbhajaaGreatDoorSxY
import Derived.RecoverIn
set_option linter.unusedVariables false
set_option linter.unusedSimpArgs false
namespace Go.Proofs.YtocabeobfbhajaaGreatDoor.Sx
noncomputable section
open Go Go.RowKit

/-! ### Results -/
noncomputable def loadA (E : Env) (s : St) (t : TypeId) (v : AV) : R AV := match v with
  | .ptr b o => match E.P.underlying t with
    | some d => match rowD d with
      | true => (szA E.P t).bind fun n => (ldc s b o n).bind fun cs => .ok (.agg cs)
      | false => ld1 s b o
    | none => .no 530
  | _ => .no 531
noncomputable def resA (E : Env) (T : Tm) (s : St) : List ResultVar → R (List AV)
  | [] => .ok []
  | .tmp t :: r => (resA E T s r).bind fun l => .ok (tget T t :: l)
  | .cell a t :: r => (loadA E s t (tget T a)).bind fun v => (resA E T s r).bind fun l => .ok (v :: l)
noncomputable def resF (tmps : Array Value) : ResultVar → Sem Value
  | .tmp t => pure (tmps.getD t undef)
  | .cell a t => do loadVar t (← asAddr (tmps.getD a undef))
def tupA : List AV → AV
  | [v] => v
  | l => .tup l
theorem loadA_ok {E : Env} {σ : Sg} {s : St} {w : World} (hd : Ds E.G σ s.ms w) {t : TypeId} {u v : AV} {x : Value} (h : loadA E s t u = .ok v) (hx : V σ u x) : ∃ y, (do loadVar t (← asAddr x) : Sem Value).run E.P w = .ok y w ∧ V σ v y := by
  unfold loadA at h
  split at h
  case h_2 => cases h
  rename_i b o
  simp only [V] at hx
  obtain ⟨p, hp, rfl⟩ := hx
  rw [Sem.run_bind]
  simp only [asAddr, Sem.run_pure, Result.andThen_ok]
  split at h
  case h_2 => cases h
  rename_i d ht
  split at h
  · rename_i hr
    obtain ⟨n, h2, h⟩ := R.bind_ok h
    obtain ⟨cs, h3, h⟩ := R.bind_ok h
    cases h
    obtain ⟨q, l, hq, hl, hlen, hrg⟩ := ldc_ok hd h3
    rw [hp] at hq; cases hq
    have hi : (E.P.info? t).map (·.size) = some l.length := by
      unfold szA at h2
      split at h2
      · rename_i i hi; cases h2; rw [hi, hlen]; rfl
      · cases h2
    exact ⟨.agg l.toArray, run_loadVar_mid w p.1 (p.2 + o) t l d hrg ht (by cases d <;> first | rfl | cases hr) hi, by simp only [V]; exact ⟨l, hl, rfl⟩⟩
  · rename_i hr
    obtain ⟨q, x', hq, hx, hc⟩ := ld1_ok hd h
    rw [hp] at hq; cases hq
    refine ⟨x', ?_, hx⟩
    simp only [loadVar, Sem.run_bind, run_isAgg ht, hr, Result.andThen_ok, Bool.false_eq_true, if_false, run_load, hc]
theorem resA_ok {E : Env} {σ : Sg} {s : St} {w : World} {nt : Nat} {T : Tm} {a : Act} (hd : Ds E.G σ s.ms w) (ht : Ta σ nt (tget T) a) : ∀ (l : List ResultVar) (vs : List AV), resA E T s l = .ok vs →
    ∃ xs : List Value, (l.mapM (resF a.tmps)).run E.P w = .ok xs w ∧ Vs σ vs xs
  | [], vs, h => by cases h; exact ⟨[], rfl, by simp [Vs]⟩
  | .tmp t :: r, vs, h => by
    obtain ⟨l, h1, h⟩ := R.bind_ok h
    cases h
    obtain ⟨xs, g1, g2⟩ := resA_ok hd ht r l h1
    refine ⟨a.tmps.getD t undef :: xs, ?_, by simp only [Vs]; exact ⟨_, xs, rfl, ht.val t, g2⟩⟩
    rw [List.mapM_cons]
    simp only [resF, Sem.run_bind, Sem.run_pure, Result.andThen_ok]
    rw [g1]; rfl
  | .cell c t :: r, vs, h => by
    obtain ⟨v, h1, h⟩ := R.bind_ok h
    obtain ⟨l, h2, h⟩ := R.bind_ok h
    cases h
    obtain ⟨xs, g1, g2⟩ := resA_ok hd ht r l h2
    obtain ⟨x, k1, k2⟩ := loadA_ok hd h1 (ht.val c)
    refine ⟨x :: xs, ?_, by simp only [Vs]; exact ⟨x, xs, rfl, k2, g2⟩⟩
    rw [List.mapM_cons, Sem.run_bind]
    have k1' : (resF a.tmps (.cell c t)).run E.P w = .ok x w := k1
    rw [k1', Result.andThen_ok, Sem.run_bind, g1]; rfl
theorem results_ok {E : Env} {σ : Sg} {s : St} {w : World} {nt : Nat} {T : Tm} {a : Act} {fn : Func} {vs : List AV} (hd : Ds E.G σ s.ms w) (ht : Ta σ nt (tget T) a) (h : resA E T s fn.results.toList = .ok vs) :
    ∃ x, (results fn a.tmps).run E.P w = .ok x w ∧ V σ (tupA vs) x := by
  obtain ⟨xs, g1, g2⟩ := resA_ok hd ht _ _ h
  have hres : results fn a.tmps = (do let vs ← fn.results.mapM (resF a.tmps); pure (if h : vs.size = 1 then vs[0] else .tuple vs)) := by
    unfold results
    congr 1
  rw [hres, Sem.run_bind, Array.mapM_eq_mapM_toList, Sem.run_map, g1]
  simp only [Result.andThen_ok, Sem.run_pure]
  refine ⟨_, rfl, ?_⟩
  match vs, g2 with
  | [], g2 =>
    simp only [Vs] at g2
    subst g2
    simp [tupA, V, Vs]
  | [v], g2 =>
    simp only [Vs] at g2
    obtain ⟨x, l', rfl, hx, rfl⟩ := g2
    simp [tupA, hx]
  | v :: v' :: r, g2 =>
    have g2' := g2
    simp only [Vs] at g2
    obtain ⟨x, l', rfl, hx, y, l'', rfl, hy, hr⟩ := g2
    rw [dif_neg (by simp)]
    simp only [tupA, V]
    exact ⟨_, g2', rfl⟩

/-! ### Deferred calls -/
/-- How the frame is being left: it returns; it panics. -/
inductive LM where
  | ret
  | pan (v : AV)
def MV (σ : Sg) : LM → FrameMode → Prop
  | .ret, m => m = .returning
  | .pan v, m => ∃ x, V σ v x ∧ m = .panicking [{ v := x, recovered := false }]
noncomputable def putL (T : Tm) (i : Nat) : List AV → Tm
  | [] => T
  | v :: r => putL (Tm.put v T i) (Nat.succ i) r
noncomputable def enterA (fn : Func) (vs : List AV) : R (Tm) := match Nat.ble vs.length fn.ntmps, Nat.ble fn.ntmps 512 with
  | true, true => .ok (putL Tm.lf 0 vs)
  | _, _ => .no 532
theorem tget_lf (t : Nat) : tget Tm.lf t = .tup [] := Tm.get_lf t
theorem putL_get : ∀ (vs : List AV) (T : Tm) (i t : Nat), i + vs.length ≤ topTmp → tget (putL T i vs) t = if i ≤ t ∧ t < i + vs.length then vs.getD (t - i) (.tup []) else tget T t
  | [], T, i, t, h => by simp only [putL, List.length_nil, Nat.add_zero]; rw [if_neg (by omega)]
  | v :: r, T, i, t, h => by
    simp only [List.length_cons] at h
    simp only [putL]
    rw [putL_get r _ (i + 1) t (by omega), tget_put (by omega)]
    by_cases h1 : i + 1 ≤ t ∧ t < i + 1 + r.length
    · rw [if_pos h1, if_pos (by simp only [List.length_cons]; omega), show t - i = (t - (i + 1)) + 1 by omega]
      simp
    · rw [if_neg h1]
      by_cases h2 : t = i
      · subst h2
        rw [if_pos rfl, if_pos (by simp only [List.length_cons]; omega)]
        simp
      · rw [if_neg (fun e => h2 (by cases e; rfl)), if_neg (by simp only [List.length_cons]; omega)]
theorem enterA_ok {fn : Func} {vs : List AV} {xs : List Value} {T : Tm} {σ : Sg} {ds : List Deferred} (h : enterA fn vs = .ok T) (hv : Vs σ vs xs) :
    fn.ntmps ≤ topTmp ∧ Ta σ fn.ntmps (tget T) { tmps := xs.toArray ++ Array.replicate (fn.ntmps - xs.toArray.size) undef, defers := ds } := by
  unfold enterA at h
  split at h
  case h_2 => cases h
  rename_i b1 b2
  have b1' := Nat.le_of_ble_eq_true b1
  have b2' := Nat.le_of_ble_eq_true b2
  cases h
  have hlen : xs.length = vs.length := by
    clear b1 b1' 
    induction vs generalizing xs with
    | nil => simp only [Vs] at hv; subst hv; rfl
    | cons v r ih => simp only [Vs] at hv; obtain ⟨x, l', rfl, _, h2⟩ := hv; simp [ih h2]
  refine ⟨by unfold topTmp; omega, by simp; omega, fun t => ?_⟩
  rw [putL_get vs Tm.lf 0 t (by unfold topTmp; omega), tget_lf]
  simp only [Array.getD_eq_getD_getElem?]
  by_cases ht : t < vs.length
  · rw [if_pos (by omega), Array.getElem?_append_left (by simp; omega)]
    simp only [List.getElem?_toArray, Nat.sub_zero]
    obtain ⟨x, g1, g2⟩ := Vs_get hv (List.getElem?_eq_getElem ht)
    rw [g1]
    simp only [Option.getD_some]
    rw [getD_lt ht]; exact g2
  · rw [if_neg (by omega), Array.getElem?_append_right (by simp; omega)]
    have : ((Array.replicate (fn.ntmps - xs.toArray.size) undef)[t - xs.toArray.size]?).getD undef = undef := by
      rw [Array.getElem?_replicate]
      split <;> rfl
    rw [this]; exact V_undef σ

/-- The operation of a region that asks what the panic is. -/
def recOp : List Oper → Option (Option Tmp)
  | [o] => match o.op, o.guard with
    | .call c, none => match c.callee with
      | .builtin .recover => some o.dst
      | _ => none
    | _, _ => none
  | _ => none
/-- What a deferred call leaves behind. -/
noncomputable def dfrR (E : Env) (call : CallR) (drw : DrwR) (lf : Nat) (f : Nat) (vs : List AV) (m : LM) (s : St) : R (LM × St) := match E.P.funcs[f]? with
  | some fn => match fn.body, fn.results.toList with
    | some c, [] => (enterA fn vs).bind fun T =>
      let done (m : LM) (x : R Out) : R (LM × St) := x.bind fun r => match r.2.2.1, r.1 with
        | [], .normal => .ok (m, r.2.2.2)
        | [], .ret => .ok (m, r.2.2.2)
        | _, _ => .no 540
      match c with
      | .seq (.region id ops false) rest => match recOp ops.toList with
        | some d => match m with
          | .pan v => (putA fn.ntmps T d v).bind fun T' => done .ret (exec E call drw fn.ntmps lf rest T' [] s)
          | .ret => (putA fn.ntmps T d .ni).bind fun T' => done .ret (exec E call drw fn.ntmps lf rest T' [] s)
        | none => done m (exec E call drw fn.ntmps lf c T [] s)
      | c => done m (exec E call drw fn.ntmps lf c T [] s)
    | _, _ => .no 541
  | none => .no 542
noncomputable def leaveA (E : Env) (call : CallR) (drw : DrwR) (lf : Nat) (fn : Func) (T : Tm) : List DA → LM → St → R (EE × St)
  | [], .ret, s => (resA E T s fn.results.toList).bind fun vs => .ok (.ret (tupA vs), s)
  | [], .pan v, s => .ok (.pan v, s)
  | .fn f cap args :: ds, m, s => (dfrR E call drw lf f (args ++ cap) m s).bind fun r => leaveA E call drw lf fn T ds r.1 r.2
  | .mark b :: ds, m, s => match s.mem.get b with
    | some (.dfr true) => (s.delB b).bind fun s => leaveA E call drw lf fn T ds m s
    | _ => .no 547
/-! ### A round of a range over a function -/
noncomputable def putP (nt : Nat) : Tm → List Tmp → List AV → R (Tm)
  | T, [], [] => .ok T
  | T, p :: ps, v :: vs => (putA nt T (some p) v).bind fun T => putP nt T ps vs
  | _, _, _ => .no 548
noncomputable def begR (b : Nat) (s : St) : R St := match s.mem.get b with
  | some (.loop .ready pend T nt ps asg body df) => s.setB b (.loop .busy pend T nt ps asg body df)
  | _ => .no 549
noncomputable def endR (b : Nat) (j : Option Code) (s : St) : R St := match s.mem.get b with
  | some (.loop _ _ T nt ps asg body df) => match j with
    | none => s.setB b (.loop .ready none T nt ps asg body df)
    | some c => s.setB b (.loop .done (some c) T nt ps asg body df)
  | _ => .no 550
noncomputable def outR (b : Nat) (r : Out) : R (EE × St) := match r.1 with
  | .normal => (endR b none r.2.2.2).bind fun s => .ok (.ret (.bool true), s)
  | .ret => (endR b (some .ret) r.2.2.2).bind fun s => .ok (.ret (.bool false), s)
  | .exit id => (endR b (some (.exit id)) r.2.2.2).bind fun s => .ok (.ret (.bool false), s)
  | .pan _ => .no 551
noncomputable def rndE (E : Env) (b : Nat) : Env := { E with rd := some b }
noncomputable def roundA (E : Env) (call : CallR) (drw : DrwR) (lf : Nat) (b : Nat) (vs : List AV) (s : St) : R (EE × St) := match s.mem.get b with
  | some (.loop _ _ T nt ps asg body _) => match Nat.ble nt 512 with
    | true => (putP nt T ps vs).bind fun T => (exec (rndE E b) call drw nt lf asg T [] s).bind fun r => match isNormal r.1 with
      | true => (begR b r.2.2.2).bind fun s => (exec (rndE E b) call drw nt lf body r.2.1 r.2.2.1 s).bind fun r => outR b r
      | false => .no 552
    | false => .no 553
  | _ => .no 554
noncomputable def funF (E : Env) (call : CallR) (drw : DrwR) (lf : Nat) (f : Nat) (vs : List AV) (s : St) : R (EE × St) := match E.sum f vs s with
    | some r => r
    | none => R.at 1000000 f (match E.P.funcs[f]? with
    | some fn => match fn.body with
      | some c => (enterA fn vs).bind fun T => (exec E call drw fn.ntmps lf c T [] s).bind fun r => match r.1 with
        | .normal => leaveA E call drw lf fn r.2.1 r.2.2.1 .ret r.2.2.2
        | .ret => leaveA E call drw lf fn r.2.1 r.2.2.1 .ret r.2.2.2
        | .pan v => leaveA E call drw lf fn r.2.1 r.2.2.1 (.pan v) r.2.2.2
        | .exit _ => .no 544
      | none => .no 545
    | none => .no 546)
noncomputable def funA (E : Env) (drw : DrwR) (lf : Nat) : Nat → CallR
  | 0, _, _, _ => .no 543
  | n + 1, t, vs, s => match t with
    | .fn f => funF E (funA E drw lf n) drw lf f vs s
    | .yl b => roundA E (funA E drw lf n) drw lf b vs s
end
end Go.Proofs.YtocabeobfbhajaaGreatDoor.Sx
