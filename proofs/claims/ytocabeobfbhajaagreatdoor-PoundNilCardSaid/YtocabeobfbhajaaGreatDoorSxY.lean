/- The reckoner: code. No program is named here. -/
import Derived.Test.YtocabeobfbhajaaGreatDoorSxX
import Derived.RangeFuncRecord
set_option linter.unusedVariables false
set_option linter.unusedSimpArgs false
namespace Go.Proofs.YtocabeobfbhajaaGreatDoor.Sx
noncomputable section
open Go Go.RowKit

abbrev DrwR := CallR → Nat → List Oper → Tm → List DA → St → R Out
def DrwOK (E : Env) (call : CallR) (drw : DrwR) : Prop := ∀ (ro : Option Nat) nt (ops : Array Oper) id T ds s r, nt ≤ topTmp → drw call nt ops.toList T ds s = .ok r →
  ∀ (σ : Sg) (a : Act) (w : World), Ds E.G σ s.ms w → Ta σ nt (tget T) a → DSs σ ds a.defers → (Code.region id ops true).wpIn (Wd ro) 0 E.P (PX E σ s.ms w nt r) a w
def isNormal : XE → Bool
  | .normal => true
  | _ => false
/-- What goes on where code ended as usual. (All that is handed on is laid open here: else the kernel would walk the whole chain of handings each time.) -/
noncomputable def thenA (r : Out) (k : Tm → List DA → St → R Out) : R Out :=
  Prod.rec (motive := fun _ => R Out) (fun e p => Prod.rec (motive := fun _ => R Out) (fun T p => Prod.rec (motive := fun _ => R Out) (fun ds s => St.rec (motive := fun _ => R Out) (fun m x c =>
    XE.rec (motive := fun _ => R Out) (k T ds ⟨m, x, c⟩) (fun id => .ok (.exit id, T, ds, ⟨m, x, c⟩)) (.ok (.ret, T, ds, ⟨m, x, c⟩)) (fun v => .ok (.pan v, T, ds, ⟨m, x, c⟩)) e) s) p) p) r
theorem thenA_eq (r : Out) (k : Tm → List DA → St → R Out) : thenA r k = match isNormal r.1 with
    | true => k r.2.1 r.2.2.1 r.2.2.2
    | false => .ok r := by
  obtain ⟨e, T, ds, m, x, c⟩ := r
  cases e <;> rfl
noncomputable def iterA (body : Tm → List DA → St → R Out) (n : Nat) : Tm → List DA → St → R Out :=
  Nat.rec (motive := fun _ => Tm → List DA → St → R Out) (fun _ _ _ => .no 520) (fun _ ih T ds s => (body T ds s).bind fun r => thenA r ih) n
theorem iterA_succ (body : Tm → List DA → St → R Out) (n : Nat) (T : Tm) (ds : List DA) (s : St) :
    iterA body (n + 1) T ds s = (body T ds s).bind fun r => match isNormal r.1 with
      | true => iterA body n r.2.1 r.2.2.1 r.2.2.2
      | false => .ok r := by
  show (body T ds s).bind _ = (body T ds s).bind _
  congr 1
  funext r
  exact thenA_eq r _
/-- Leaving a block. -/
def blockX (id : Nat) (r : Out) : Out := match r.1 with
  | .exit id' => match Nat.beq id' id with
    | true => (.normal, r.2)
    | false => r
  | _ => r
abbrev ExR := Env → CallR → DrwR → Nat → Nat → Tm → List DA → St → R Out
noncomputable def regF (draw : Bool) : Nat → Array Oper → ExR :=
  Bool.rec (motive := fun _ => Nat → Array Oper → ExR) (fun id ops E call _ nt _ T ds s => R.at 1000 id (seqR E call nt ops.toList ops.toList T ds s)) (fun id ops _ call drw nt _ T ds s => R.at 1000 id (drw call nt ops.toList T ds s)) draw
noncomputable def condF (v : AV) (kx ky : Tm → List DA → St → R Out) (T : Tm) (ds : List DA) (s : St) : R Out := match v with
  | .bool true => kx T ds s
  | .bool false => ky T ds s
  | _ => .no 521
/-- A record is laid for a range over a function. -/
noncomputable def rndA (E : Env) (T : Tm) (nt : Nat) (ps : Array Tmp) (asg body : Code) (ds : List DA) (s : St) : R (Nat × List DA × St) := match E.rd with
  | none => (s.push (.dfr true)).bind fun p => (p.2.push (.loop .ready none T nt ps.toList asg body p.1)).bind fun q => .ok (q.1, .mark p.1 :: ds, q.2)
  | some b => match s.mem.get b with
    | some (.loop _ _ _ _ _ _ _ df) => (s.push (.loop .ready none T nt ps.toList asg body df)).bind fun q => .ok (q.1, ds, q.2)
    | _ => .no 523
noncomputable def endL (b : Nat) (s : St) : R (Option Code × St) := match s.mem.get b with
  | some (.loop st pend T nt ps asg body df) => match st with
    | .busy => .no 524
    | _ => (s.delB b).bind fun s => .ok (pend, s)
  | _ => .no 525
noncomputable def jmpA (j : Option Code) (T : Tm) (ds : List DA) (s : St) : R Out := match j with
  | none => .ok (.normal, T, ds, s)
  | some .ret => .ok (.ret, T, ds, s)
  | some (.exit id) => .ok (.exit id, T, ds, s)
  | _ => .no 526
noncomputable def bodyB (P : Program) (f : Nat) : Bool := match P.funcs[f]? with
  | some fn => match fn.body with
    | some _ => true
    | none => false
  | none => false
noncomputable def rngF (g : Operand) (ps : Array Tmp) (asg body : Code) : ExR := fun E call _ nt _ T ds s => (opd E.G T g).bind fun v => match v with
  | .fn (.func f) first cap => match bodyB E.P f with
    | true => (rndA E T nt ps asg body ds s).bind fun q => (call (.fn f) (first ++ (.yl q.1 :: cap)) q.2.2).bind fun r => match r.1 with
      | .ret _ => (endL q.1 r.2).bind fun p => jmpA p.1 T q.2.1 p.2
      | .pan v => .ok (.pan v, T, q.2.1, r.2)
    | false => .no 527
  | _ => .no 528
noncomputable def execK (c : Code) : ExR := Code.rec (motive := fun _ => ExR)
    (fun _ _ _ _ _ T ds s => .ok (.normal, T, ds, s))
    (fun id ops draw => regF draw id ops)
    (fun _ _ ihx ihy E call drw nt lf T ds s => (ihx E call drw nt lf T ds s).bind fun r => thenA r (ihy E call drw nt lf))
    (fun c _ _ ihx ihy E call drw nt lf T ds s => (opd E.G T c).bind fun v => condF v (ihx E call drw nt lf) (ihy E call drw nt lf) T ds s)
    (fun id _ ih E call drw nt lf T ds s => (ih E call drw nt lf T ds s).bind fun r => .ok (blockX id r))
    (fun _ ih E call drw nt lf T ds s => iterA (ih E call drw nt lf) lf T ds s)
    (fun g ps x y _ _ => rngF g ps x y)
    (fun id _ _ _ _ _ T ds s => .ok (.exit id, T, ds, s))
    (fun _ _ _ _ _ _ _ _ _ _ => .no 522)
    (fun _ _ _ _ _ _ T ds s => .ok (.normal, T, ds, s))
    (fun _ _ _ _ _ _ _ _ _ => .no 522)
    (fun _ _ _ _ _ T ds s => .ok (.ret, T, ds, s))
    (fun _ _ _ _ _ _ _ _ _ => .no 522) c
noncomputable def exec (E : Env) (call : CallR) (drw : DrwR) (nt lf : Nat) (c : Code) : Tm → List DA → St → R Out := execK c E call drw nt lf
theorem PX.normal {E : Env} {σ : Sg} {M : MS} {w : World} {nt : Nat} {r : Out} {e : Exit} {a : Act} {w' : World} (h : PX E σ M w nt r e a w') (hn : isNormal r.1 = true) :
    e = .normal ∧ ∃ σ', Ds E.G σ' r.2.2.2.ms w' ∧ Ex σ M w σ' r.2.2.2.ms w' ∧ DSs σ' r.2.2.1 a.defers ∧ Ta σ' nt (tget r.2.1) a := by
  obtain ⟨σ', h1, h2, h3, h4⟩ := h
  obtain ⟨x, T, ds, s⟩ := r
  cases x <;> simp [isNormal] at hn
  exact ⟨h4.1, σ', h1, h2, h3, h4.2⟩
theorem PX.notNormal {E : Env} {σ : Sg} {M : MS} {w : World} {nt : Nat} {r : Out} {e : Exit} {a : Act} {w' : World} (h : PX E σ M w nt r e a w') (hn : isNormal r.1 = false) : e ≠ .normal := by
  obtain ⟨σ', h1, h2, h3, h4⟩ := h
  obtain ⟨x, T, ds, s⟩ := r
  cases x <;> simp [isNormal] at hn
  · rw [h4.1]; simp
  · rw [h4.1]; simp
  · obtain ⟨y, _, rfl, _⟩ := h4; simp
def CodeOK (E : Env) (ro : Option Nat) (nt : Nat) (c : Code) (f : Tm → List DA → St → R Out) : Prop := ∀ T ds s r, f T ds s = .ok r →
  ∀ (σ : Sg) (a : Act) (w : World), Ds E.G σ s.ms w → Ta σ nt (tget T) a → DSs σ ds a.defers → RdOK σ ro E.rd → c.wpIn (Wd ro) 0 E.P (PX E σ s.ms w nt r) a w
theorem PX.normal' {E : Env} {σ : Sg} {M : MS} {w : World} {nt : Nat} {r : Out} {e : Exit} {a : Act} {w' : World} {G : Nat} {M' : MS} (h : PX E σ M w nt r e a w') (hn : isNormal r.1 = true) {ro : Option Nat} (hd : Ds E.G σ M w) (hro : RdOK σ ro E.rd) :
    e = .normal ∧ ∃ σ', Ds E.G σ' r.2.2.2.ms w' ∧ Ex σ M w σ' r.2.2.2.ms w' ∧ DSs σ' r.2.2.1 a.defers ∧ Ta σ' nt (tget r.2.1) a ∧ RdOK σ' ro E.rd := by
  obtain ⟨h1, σ', h2, h3, h4, h5⟩ := h.normal hn
  exact ⟨h1, σ', h2, h3, h4, h5, RdOK_mono (h3.le hd) hro⟩
theorem iterA_ok {E : Env} {ro : Option Nat} {nt : Nat} {c : Code} {f : Tm → List DA → St → R Out} (hf : CodeOK E ro nt c f) : ∀ (n : Nat) T ds s r, iterA f n T ds s = .ok r →
    ∀ (σ : Sg) (a : Act) (w : World), Ds E.G σ s.ms w → Ta σ nt (tget T) a → DSs σ ds a.defers → RdOK σ ro E.rd → Code.roundsIn (Wd ro) 0 E.P c (PX E σ s.ms w nt r) n a w
  | 0, T, ds, s, r, h, _, _, _, _, _, _, _ => by cases h
  | n + 1, T, ds, s, r, h, σ, a, w, hd, ht, hds, hro => by
    rw [iterA_succ] at h
    obtain ⟨r1, h1, h⟩ := R.bind_ok h
    rw [roundsIn_succ]
    refine wpIn_mono (hf T ds s r1 h1 σ a w hd ht hds hro) fun e a' w' hp => ?_
    split at h
    · rename_i hn
      obtain ⟨rfl, σ', g1, g2, g3, g4⟩ := hp.normal hn
      have := iterA_ok hf n _ _ _ r h σ' a' w' g1 g4 g3 (RdOK_mono (g2.le hd) hro)
      exact rounds_mono (fun e a w hh => PX.trans g2 hh) n _ _ this
    · rename_i hn
      cases h
      have hne := hp.notNormal hn
      cases e <;> first | exact absurd rfl hne | exact hp
where
  rounds_mono {ro : Option Nat} {P : Program} {c : Code} {Q Q' : Exit → Act → World → Prop} (h : ∀ e a w, Q e a w → Q' e a w) : ∀ (n : Nat) (a : Act) (w : World), Code.roundsIn (Wd ro) 0 P c Q n a w → Code.roundsIn (Wd ro) 0 P c Q' n a w := by
    intro n
    induction n with
    | zero => intro a w hh; exact hh
    | succ n ih =>
      intro a w hh
      rw [roundsIn_succ] at hh ⊢
      refine wpIn_mono hh fun e a w hq => ?_
      cases e <;> first | exact ih _ _ hq | exact h _ _ _ hq
theorem endL_ok {E : Env} {σ : Sg} {b : Nat} {s s' : St} {j : Option Code} {w : World} {p : Nat × Nat} (h : endL b s = .ok (j, s')) (hd : Ds E.G σ s.ms w) (hp : σ.bl b = some p) :
    ∃ w', (Instr.endLoop p.1).run E.P w = .ok j w' ∧ Ds E.G σ s'.ms w' ∧ Ex σ s.ms w σ s'.ms w' := by
  unfold endL at h
  split at h
  case h_2 => cases h
  rename_i st pend T nt ps asg body df hg
  have key : st ≠ .busy → (s.delB b).bind (fun s => .ok (pend, s)) = .ok (j, s') → ∃ w', (Instr.endLoop p.1).run E.P w = .ok j w' ∧ Ds E.G σ s'.ms w' ∧ Ex σ s.ms w σ s'.ms w' := by
    intro hst h
    obtain ⟨s1, h1, h⟩ := R.bind_ok h
    cases h
    obtain ⟨q, hq, ob, ho, hbo⟩ := hd.blk b _ hg
    rw [hp] at hq; cases hq
    obtain ⟨ho0, fn, tm, q, e1, e2, e3, rfl⟩ := hbo
    obtain ⟨d', x'⟩ := delB_ok (.loop { state := .exhausted, pending := j, fn := fn, tmps := tm, params := ps.toArray, assign := asg, body := body, defers := q.1 }) hd hg hp h1
    refine ⟨_, ?_, d', x'⟩
    have hb : (st == LoopState.busy) = false := by cases st <;> first | rfl | exact absurd rfl hst
    simp only [Instr.endLoop, Instr.getLoop, Sem.run_bind, run_getObj_loop ho, Sem.run_pure, Result.andThen_ok, hb, Bool.false_eq_true, if_false, run_setObj_loop _ ho]
    rfl
  cases st with
  | busy => cases h
  | ready => exact key (by simp) h
  | done => exact key (by simp) h
  | exhausted => exact key (by simp) h
/-- A record has been laid. -/
theorem rndA_ok {E : Env} {ro : Option Nat} {nt : Nat} {T : Tm} {ps : Array Tmp} {asg body : Code} {ds ds' : List DA} {s s' : St} {b : Nat} (h : rndA E T nt ps asg body ds s = .ok (b, ds', s')) {σ : Sg} {a : Act} {w : World} (hd : Ds E.G σ s.ms w) (ht : Ta σ nt (tget T) a) (hds : DSs σ ds a.defers) (hro : RdOK σ ro E.rd) (fn : FuncId) :
    ∃ l mark w' σ', (Instr.enterLoop fn a.tmps ps asg body ro).run E.P w = .ok (l, mark) w' ∧ σ'.bl b = some (l, 0) ∧ Ds E.G σ' s'.ms w' ∧ Ex σ s.ms w σ' s'.ms w' ∧ DSs σ' ds' (mark ++ a.defers) := by
  unfold rndA at h
  split at h
  · rename_i hrd
    rw [hrd] at hro
    have hro : ro = none := hro
    subst hro
    obtain ⟨p, h1, h⟩ := R.bind_ok h
    obtain ⟨q, h2, h⟩ := R.bind_ok h
    cases h
    obtain ⟨a1, d1, x1, l1, b1⟩ := push_ok (ob := .deferred (some [])) hd h1 ⟨rfl, rfl⟩
    obtain ⟨a2, d2, x2, l2, b2⟩ := push_ok (ob := .loop { state := .ready, pending := none, fn := fn, tmps := a.tmps, params := ps, assign := asg, body := body, defers := w.heap.size }) d1 h2
      ⟨rfl, fn, a.tmps, (w.heap.size, 0), by rw [a1]; exact (Sg.le_set (d1.fresh _ (Nat.le_refl _))).1 _ _ b1, ht.size, (ht.mono (Sg.le_trans l1 (Sg.le_set (d1.fresh _ (Nat.le_refl _))))).val, by simp⟩
    refine ⟨_, [{ target := .collected w.heap.size, args := #[] }], _, _, ?_, by rw [a2]; exact b2, d2, x1.trans x2, ?_⟩
    · simp only [Instr.enterLoop, Sem.run_bind, run_newObj, Sem.run_pure, Result.andThen_ok]
      rfl
    · exact ⟨(w.heap.size, 0), _, l2.1 _ _ (by rw [a1]; exact b1), rfl, DSs_mono (Sg.le_trans l1 l2) _ _ hds⟩
  · rename_i b0 hrd
    rw [hrd] at hro
    obtain ⟨p, hp, rfl⟩ := hro
    split at h
    case h_2 => cases h
    rename_i df hg
    obtain ⟨q, h2, h⟩ := R.bind_ok h
    cases h
    obtain ⟨p', hp', ob, ho, hbo⟩ := hd.blk b0 _ hg
    rw [hp] at hp'; cases hp'
    obtain ⟨ho0, fn', tm, q', e1, e2, e3, rfl⟩ := hbo
    obtain ⟨a2, d2, x2, l2, b2⟩ := push_ok (ob := .loop { state := .ready, pending := none, fn := fn, tmps := a.tmps, params := ps, assign := asg, body := body, defers := q'.1 }) hd h2
      ⟨rfl, fn, a.tmps, q', (Sg.le_set (hd.fresh _ (Nat.le_refl _))).1 _ _ e1, ht.size, (ht.mono (Sg.le_set (hd.fresh _ (Nat.le_refl _)))).val, by simp⟩
    refine ⟨_, [], _, _, ?_, by rw [a2]; exact b2, d2, x2, DSs_mono l2 _ _ hds⟩
    simp only [Instr.enterLoop, Instr.getLoop, Sem.run_bind, run_getObj_loop ho, run_newObj, Sem.run_pure, Result.andThen_ok]
    rfl
theorem exec_ok {ro : Option Nat} {E : Env} (ok : EnvOK E) {call : CallR} (hc : CallOK E call) {drw : DrwR} (hdr : DrwOK E call drw) {nt : Nat} (hn : nt ≤ topTmp) (lf : Nat) : ∀ c : Code, CodeOK E ro nt c (exec E call drw nt lf c) := by
  intro c
  induction c with
  | skip => intro T ds s r h σ a w hd ht hds hro; cases h; exact wpIn_skip ⟨σ, hd, Ex.refl _ _ _, hds, rfl, ht⟩
  | label l => intro T ds s r h σ a w hd ht hds hro; cases h; exact wpIn_label ⟨σ, hd, Ex.refl _ _ _, hds, rfl, ht⟩
  | exit id => intro T ds s r h σ a w hd ht hds hro; cases h; exact wpIn_exit ⟨σ, hd, Ex.refl _ _ _, hds, rfl, ht⟩
  | ret => intro T ds s r h σ a w hd ht hds hro; cases h; exact wpIn_ret ⟨σ, hd, Ex.refl _ _ _, hds, rfl, ht⟩
  | region id ops draw =>
    intro T ds s r h σ a w hd ht hds hro
    cases draw with
    | true =>
      change R.at 1000 id (drw call nt ops.toList T ds s) = .ok r at h
      exact hdr ro nt ops id T ds s r hn (R.at_ok h) σ a w hd ht hds
    | false =>
      change R.at 1000 id (seqR E call nt ops.toList ops.toList T ds s) = .ok r at h
      exact wpIn_region_list (seqR_ok ok hc hn ops.toList T ds s r (R.at_ok h) σ a w hd ht hds hro)
  | seq x y ihx ihy =>
    intro T ds s r h σ a w hd ht hds hro
    change (exec E call drw nt lf x T ds s).bind (fun r => thenA r (exec E call drw nt lf y)) = .ok r at h
    obtain ⟨r1, h1, h⟩ := R.bind_ok h
    rw [thenA_eq] at h
    refine wpIn_seq (wpIn_mono (ihx T ds s r1 h1 σ a w hd ht hds hro) fun e a' w' hp => ?_)
    split at h
    · rename_i hnn
      obtain ⟨rfl, σ', g1, g2, g3, g4⟩ := hp.normal hnn
      exact wpIn_mono (ihy _ _ _ r h σ' a' w' g1 g4 g3 (RdOK_mono (g2.le hd) hro)) fun e a w hh => PX.trans g2 hh
    · rename_i hnn
      cases h
      have hne := hp.notNormal hnn
      cases e <;> first | exact absurd rfl hne | exact hp
  | cond cc x y ihx ihy =>
    intro T ds s r h σ a w hd ht hds hro
    change (opd E.G T cc).bind (fun v => condF v (exec E call drw nt lf x) (exec E call drw nt lf y) T ds s) = .ok r at h
    obtain ⟨v, h1, h⟩ := R.bind_ok h
    unfold condF at h
    have hv := opd_ok h1 (Od_of hd ht cc)
    split at h
    · simp only [V] at hv
      exact wpIn_cond_true hv (ihx T ds s r h σ a w hd ht hds hro)
    · simp only [V] at hv
      exact wpIn_cond_false hv (ihy T ds s r h σ a w hd ht hds hro)
    · cases h
  | block id c ih =>
    intro T ds s r h σ a w hd ht hds hro
    change (exec E call drw nt lf c T ds s).bind (fun r => .ok (blockX id r)) = .ok r at h
    obtain ⟨r1, h1, h⟩ := R.bind_ok h
    cases h
    refine wpIn_block (wpIn_mono (ih T ds s r1 h1 σ a w hd ht hds hro) fun e a' w' hp => ?_)
    obtain ⟨σ', g1, g2, g3, g4⟩ := hp
    obtain ⟨x, T1, ds1, s1⟩ := r1
    unfold blockX
    cases x with
    | normal => obtain ⟨rfl, g5⟩ := g4; exact ⟨σ', g1, g2, g3, rfl, g5⟩
    | ret => obtain ⟨rfl, g5⟩ := g4; exact ⟨σ', g1, g2, g3, rfl, g5⟩
    | pan v => obtain ⟨y, g5, rfl, g6⟩ := g4; exact ⟨σ', g1, g2, g3, y, g5, rfl, g6⟩
    | exit id' =>
      obtain ⟨rfl, g5⟩ := g4
      dsimp only
      cases hb : Nat.beq id' id with
      | true =>
        have := beq_iff.1 hb
        subst this
        simp only [Exit.inBlock, if_true]
        exact ⟨σ', g1, g2, g3, rfl, g5⟩
      | false =>
        have := beq_false_ne hb
        simp only [Exit.inBlock, if_neg this]
        exact ⟨σ', g1, g2, g3, rfl, g5⟩
  | loop c ih =>
    intro T ds s r h σ a w hd ht hds hro
    change iterA (exec E call drw nt lf c) lf T ds s = .ok r at h
    exact wpIn_loop_rounds lf (iterA_ok ih lf T ds s r h σ a w hd ht hds hro)
  | goto l => intro T ds s r h; cases h
  | scope c ih => intro T ds s r h; cases h
  | rangeFunc g ps x y ihx ihy =>
    intro T ds s r h σ a w hd ht hds hro
    change rngF g ps x y E call drw nt lf T ds s = .ok r at h
    unfold rngF at h
    obtain ⟨v, h1, h⟩ := R.bind_ok h
    have hv := opd_ok h1 (Od_of hd ht g)
    split at h
    case h_2 => cases h
    rename_i f first cap
    split at h
    case h_2 => cases h
    rename_i hbd
    obtain ⟨⟨b, ds1, s1⟩, h2, h⟩ := R.bind_ok h
    obtain ⟨⟨e, s2⟩, h3, h⟩ := R.bind_ok h
    simp only [V] at hv
    obtain ⟨fl, cl, v1, v2, hxv⟩ := hv
    refine wpIn_rangeFunc fun fn _ => ?_
    obtain ⟨l, mark, w1, σ1, k1, k2, k3, k4, k5⟩ := rndA_ok (ro := ro) h2 hd ht hds hro fn
    have hle := k4.le hd
    have hres : (resolve a.eval (rangeCall g l) 0).run E.P w1 = .ok { target := .fn (.func f) cl.toArray, args := (fl ++ [Value.func (.yield l) #[] #[]]).toArray } w1 := by
      unfold resolve
      simp only [hxv, Deferred.ofValue, Sem.run_pure]
      congr 2
      simp [Act.eval]
    have hinv : (invoke (.fn (.func f) cl.toArray) (fl ++ [Value.func (.yield l) #[] #[]]).toArray).run E.P w1 = .ok (.enter f (fl ++ (Value.func (.yield l) #[] #[] :: cl)).toArray) w1 := by
      unfold bodyB at hbd
      split at hbd
      case h_2 => cases hbd
      rename_i fn' hf
      split at hbd
      case h_2 => cases hbd
      rename_i c hb
      simp only [invoke]
      rw [show (fl ++ [Value.func (.yield l) #[] #[]]).toArray ++ cl.toArray = (fl ++ (Value.func (.yield l) #[] #[] :: cl)).toArray by simp]
      exact run_callFunc ok.plain hf hb _ w1
    have hvs : Vs σ1 (first ++ (.yl b :: cap)) (fl ++ (Value.func (.yield l) #[] #[] :: cl)) := by
      refine Vs_append (Vs_mono hle _ _ v1) ?_
      simp only [Vs, V]
      exact ⟨_, cl, rfl, ⟨_, k2, rfl⟩, Vs_mono hle _ _ v2⟩
    refine ⟨l, mark, w1, _, w1, f, _, w1, k1, hres, fun _ _ => trivial, hinv, Wd_deep, ?_⟩
    refine Wd_calls.2 ((hc.1 _ _ _ _ _ h3 σ1 w1 _ k3 hvs).mono fun ec w2 ⟨σ2, g1, g2, g3⟩ => ?_)
    have hle2 := g3.le k3
    have hds2 : DSs σ2 ds1 (mark ++ a.defers) := DSs_mono hle2 _ _ k5
    have hta2 : Ta σ2 nt (tget T) { a with defers := mark ++ a.defers } := ⟨ht.size, (ht.mono (Sg.le_trans hle hle2)).val⟩
    cases e with
    | pan v =>
      obtain ⟨x, k, rfl⟩ := g1
      cases h
      exact ⟨σ2, g2, k4.trans g3, hds2, x, k, rfl, hta2⟩
    | ret v =>
      obtain ⟨x, k, rfl⟩ := g1
      obtain ⟨⟨j, s3⟩, h4, h⟩ := R.bind_ok h
      obtain ⟨w3, m1, m2, m3⟩ := endL_ok h4 g2 (hle2.1 _ _ k2)
      refine ⟨j, w3, m1, ?_⟩
      unfold jmpA at h
      dsimp only at h
      split at h
      · cases h
        exact ⟨σ2, m2, (k4.trans g3).trans m3, hds2, rfl, hta2⟩
      · cases h
        exact wpIn_ret ⟨σ2, m2, (k4.trans g3).trans m3, hds2, rfl, hta2⟩
      · cases h
        exact wpIn_exit ⟨σ2, m2, (k4.trans g3).trans m3, hds2, rfl, hta2⟩
      · cases h
  | refuse why => intro T ds s r h; cases h
end
end Go.Proofs.YtocabeobfbhajaaGreatDoor.Sx
