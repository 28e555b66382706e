/- The reckoner: functions, code, regions in the order of the text. No program is named here. -/
import Derived.Test.YtocabeobfbhajaaGreatDoorSxV
import Derived.Handy
set_option linter.unusedVariables false
set_option linter.unusedSimpArgs false
namespace Go.Proofs.YtocabeobfbhajaaGreatDoor.Sx
noncomputable section
open Go Go.RowKit

/-- How a call ends. -/
inductive EE where
  | ret (v : AV)
  | pan (v : AV)
def EV (σ : Sg) : EE → Ending → Prop
  | .ret v, e => ∃ x, V σ v x ∧ e = .returned x
  | .pan v, e => ∃ x, V σ v x ∧ e = .panicked [{ v := x, recovered := false }]
/-- The program; how many variables of packages it has; what functions without a body yield; what some functions do, where that is known. -/
structure Env where
  G : Nat
  P : Program
  ext : Nat → List AV → R AV
  sum : Nat → List AV → St → Option (R (EE × St))
  rd : Option Nat
/-- In which round a frame is: of the record of that name. -/
def RdOK (σ : Sg) (ro : Option Nat) : Option Nat → Prop
  | none => ro = none
  | some b => ∃ p, σ.bl b = some p ∧ ro = some p.1
theorem RdOK_mono {σ τ : Sg} (h : σ.le τ) {ro rd : Option Nat} (e : RdOK σ ro rd) : RdOK τ ro rd := by
  cases rd with
  | none => exact e
  | some b => obtain ⟨p, h1, h2⟩ := e; exact ⟨p, h.1 _ _ h1, h2⟩
structure EnvOK (E : Env) : Prop where
  plain : Plain E.P
  mixed : E.P.follows .mixedOrders = true
  ext : ∀ f fn vs v, E.P.funcs[f]? = some fn → fn.body = none → E.ext f vs = .ok v → ∀ σ xs, Vs σ vs xs → ∀ w, ∃ x, (callFunc f xs.toArray).run E.P w = .ok (.value x) w ∧ V σ v x
  sum : ∀ f vs s e s', E.sum f vs s = some (.ok (e, s')) → ∀ σ w xs, Ds E.G σ s.ms w → Vs σ vs xs → Calls E.P f xs.toArray w fun ec w' => ∃ σ', EV σ' e ec ∧ Ds E.G σ' s'.ms w' ∧ Ex σ s.ms w σ' s'.ms w'
/-- How code is left; a deferred call. -/
inductive XE where
  | normal
  | exit (id : Nat)
  | ret
  | pan (v : AV)
inductive DA where
  | fn (f : Nat) (cap args : List AV)
  | mark (b : Nat)
def DSs (σ : Sg) : List DA → List Deferred → Prop
  | [], l => l = []
  | .fn f cap args :: r, l => ∃ xs ys l', l = { target := .fn (.func f) xs.toArray, args := ys.toArray } :: l' ∧ Vs σ cap xs ∧ Vs σ args ys ∧ DSs σ r l'
  | .mark b :: r, l => ∃ p l', σ.bl b = some p ∧ l = { target := .collected p.1, args := #[] } :: l' ∧ DSs σ r l'
theorem DSs_mono {σ τ : Sg} (h : σ.le τ) : ∀ (d : List DA) (l : List Deferred), DSs σ d l → DSs τ d l
  | [], l, e => e
  | .fn f cap args :: r, l, e => by
    obtain ⟨xs, ys, l', e, h1, h2, h3⟩ := e
    exact ⟨xs, ys, l', e, Vs_mono h _ _ h1, Vs_mono h _ _ h2, DSs_mono h r l' h3⟩
  | .mark b :: r, l, e => by
    obtain ⟨p, l', h1, e, h3⟩ := e
    exact ⟨p, l', h.1 _ _ h1, e, DSs_mono h r l' h3⟩
abbrev CallR := Tg → List AV → St → R (EE × St)
def CallOK1 (E : Env) (call : CallR) : Prop := ∀ f vs s e s', call (.fn f) vs s = .ok (e, s') → ∀ σ w xs, Ds E.G σ s.ms w → Vs σ vs xs →
  Calls E.P f xs.toArray w fun ec w' => ∃ σ', EV σ' e ec ∧ Ds E.G σ' s'.ms w' ∧ Ex σ s.ms w σ' s'.ms w'
/-- What the yield of a range over a function is held to do: a round. -/
def CallOK2 (E : Env) (call : CallR) : Prop := ∀ b vs s e s', call (.yl b) vs s = .ok (e, s') → ∀ σ w xs p, Ds E.G σ s.ms w → Vs σ vs xs → σ.bl b = some p →
  ∃ l f tm asg body, (Instr.yield p.1 xs.toArray).run E.P w = .ok (.round l f tm asg body) w ∧ RoundIn (Wd none) 0 E.P l f tm asg body w fun ec w' => ∃ σ', EV σ' e ec ∧ Ds E.G σ' s'.ms w' ∧ Ex σ s.ms w σ' s'.ms w'
def CallOK (E : Env) (call : CallR) : Prop := CallOK1 E call ∧ CallOK2 E call
abbrev Out := XE × Tm × List DA × St
/-- What is held of code that has been left. -/
def PX (E : Env) (σ : Sg) (M : MS) (w : World) (nt : Nat) (r : Out) (e : Exit) (a' : Act) (w' : World) : Prop :=
  ∃ σ', Ds E.G σ' r.2.2.2.ms w' ∧ Ex σ M w σ' r.2.2.2.ms w' ∧ DSs σ' r.2.2.1 a'.defers ∧ match r.1 with
    | .normal => e = .normal ∧ Ta σ' nt (tget r.2.1) a'
    | .exit id => e = .exit id ∧ Ta σ' nt (tget r.2.1) a'
    | .ret => e = .ret ∧ Ta σ' nt (tget r.2.1) a'
    | .pan v => ∃ x, V σ' v x ∧ e = .panic [{ v := x, recovered := false }] ∧ Ta σ' nt (tget r.2.1) a'
theorem PX.trans {E : Env} {σ σ' : Sg} {M M' : MS} {w w1 : World} {nt : Nat} {r : Out} {e : Exit} {a : Act} {w' : World} (x : Ex σ M w σ' M' w1) (h : PX E σ' M' w1 nt r e a w') : PX E σ M w nt r e a w' := by
  obtain ⟨τ, h1, h2, h3, h4⟩ := h
  exact ⟨τ, h1, x.trans h2, h3, h4⟩

/-! ### One operation -/
inductive Cl where
  | P | A | L | E | C | X | D | N
def clsO (P : Program) : Op → Cl
  | .move _ | .assign _ | .pick .. | .nilCheck _ | .binOp .. | .unOp .. | .makeInterface .. | .makeFunc .. | .slice .. | .fieldAddr .. | .field .. | .indexAddr .. | .index .. | .typeAssert .. | .extract .. | .build .. => .P
  | .convert src dst _ => match P.underlying src with
    | some .string => match P.underlying dst with
      | some (.slice _) => .E
      | _ => .P
    | some (.slice _) => .L
    | _ => .P
  | .alloc _ | .box .. | .buildSlice .. | .makeSlice .. | .makeMap .. => .A
  | .load .. | .lookup .. | .entry _ => .L
  | .store .. | .mapUpdate .. | .insert .. | .range .. | .next .. => .E
  | .call c => match c.callee with
    | .builtin b => match b with
      | .len => match c.argTypes.toList with
        | t :: _ => match P.underlying t with
          | some (.map _ _) => .L
          | _ => .P
        | _ => .N
      | .cap | .max | .min => .P
      | .append | .copy | .delete | .clear => .E
      | _ => .N
    | _ => .C
  | .panic _ => .X
  | .defer _ => .D
  | _ => .N
inductive OS where
  | val (v : AV) (ds : List DA) (s : St)
  | pan (v : AV) (s : St)
noncomputable def callOp (E : Env) (call : CallR) (g : Tg) (vs : List AV) (s : St) : R (EE × St) := match g with
  | .fn g => match E.P.funcs[g]? with
    | some fn => match fn.body with
      | some _ => call (.fn g) vs s
      | none => (E.ext g vs).bind fun v => .ok (.ret v, s)
    | none => .no 500
  | .yl b => call (.yl b) vs s
noncomputable def dfrA (E : Env) (T : Tm) (c : Call) : R DA := match c.callee with
  | .value f => (opd E.G T f).bind fun v => (opds E.G T c.args.toList).bind fun vs => match v with
    | .fn (.func g) first cap => match E.rd with
      | none => .ok (.fn g cap (first ++ vs))
      | some _ => .no 508
    | _ => .no 501
  | _ => .no 502
noncomputable def opS (E : Env) (call : CallR) (T : Tm) (ds : List DA) (s : St) (op : Op) : R OS := match clsO E.P op with
  | .P => (pevF op E.G E.P T).bind fun v => .ok (.val v ds s)
  | .A => (aev E.G E.P T s.nx op).bind fun q => (s.push q.2).bind fun p => .ok (.val q.1 ds p.2)
  | .L => (lev E.G E.P T s op).bind fun v => .ok (.val v ds s)
  | .E => (sev E.G E.P T s op).bind fun q => .ok (.val q.1 ds q.2)
  | .C => match op with
    | .call c => (cev E.G E.P T c).bind fun q => (callOp E call q.1 q.2 s).bind fun r => match r.1 with
      | .ret v => .ok (.val v ds r.2)
      | .pan v => .ok (.pan v r.2)
    | _ => .no 503
  | .X => match op with
    | .panic x => (opd E.G T x).bind fun v => match v with
      | .ifc t y => .ok (.pan (.ifc t y) s)
      | _ => .no 504
    | _ => .no 505
  | .D => match op with
    | .defer c => (dfrA E T c).bind fun d => .ok (.val (.tup []) (d :: ds) s)
    | _ => .no 506
  | .N => .no 507
/-- The same, laid out for the kernel. -/
noncomputable def opC (op : Op) : Env → CallR → Tm → List DA → St → R OS := match op with
  | .call c => fun E call T ds s => (cev E.G E.P T c).bind fun q => (callOp E call q.1 q.2 s).bind fun r => match r.1 with
      | .ret v => .ok (.val v ds r.2)
      | .pan v => .ok (.pan v r.2)
  | _ => fun _ _ _ _ _ => .no 503
noncomputable def opX (op : Op) : Env → CallR → Tm → List DA → St → R OS := match op with
  | .panic x => fun E _ T _ s => (opd E.G T x).bind fun v => match v with
      | .ifc t y => .ok (.pan (.ifc t y) s)
      | _ => .no 504
  | _ => fun _ _ _ _ _ => .no 505
noncomputable def opD (op : Op) : Env → CallR → Tm → List DA → St → R OS := match op with
  | .defer c => fun E _ T ds s => (dfrA E T c).bind fun d => .ok (.val (.tup []) (d :: ds) s)
  | _ => fun _ _ _ _ _ => .no 506
noncomputable def opF (k : Cl) : Op → Env → CallR → Tm → List DA → St → R OS := Cl.rec (motive := fun _ => Op → Env → CallR → Tm → List DA → St → R OS)
  (fun op E _ T ds s => (pevF op E.G E.P T).bind fun v => .ok (.val v ds s))
  (fun op E _ T ds s => (aev E.G E.P T s.nx op).bind fun q => (s.push q.2).bind fun p => .ok (.val q.1 ds p.2))
  (fun op E _ T ds s => (lev E.G E.P T s op).bind fun v => .ok (.val v ds s))
  (fun op E _ T ds s => (sev E.G E.P T s op).bind fun q => .ok (.val q.1 ds q.2))
  (fun op => opC op) (fun op => opX op) (fun op => opD op) (fun _ _ _ _ _ _ => .no 507) k
theorem opF_eq (E : Env) (call : CallR) (T : Tm) (ds : List DA) (s : St) (op : Op) : opF (clsO E.P op) op E call T ds s = opS E call T ds s op := by
  unfold opS
  cases clsO E.P op <;> first | rfl | (cases op <;> rfl)
/-- What is held of one operation. -/
def OSok (E : Env) (σ : Sg) (s : St) (w : World) (o : Oper) (a : Act) (r : OS) (K : Act → World → Prop) (Q : Exit → Act → World → Prop) : Prop := match r with
  | .val v ds s' => ∀ (σ' : Sg) (x : Value) (a' : Act) (w' : World), a'.tmps = a.tmps → DSs σ' ds a'.defers → V σ' v x → Ds E.G σ' s'.ms w' → Ex σ s.ms w σ' s'.ms w' → K (a'.put o.dst x) w'
  | .pan v s' => ∀ (σ' : Sg) (x : Value) (w' : World), V σ' v x → Ds E.G σ' s'.ms w' → Ex σ s.ms w σ' s'.ms w' → Q (.panic [{ v := x, recovered := false }]) a w'
theorem callOp_ok {ro : Option Nat} {E : Env} (ok : EnvOK E) {call : CallR} (hc : CallOK E call) {g : Tg} {vs : List AV} {s s' : St} {e : EE} (h : callOp E call g vs s = .ok (e, s')) {σ : Sg} {w : World} {xs : List Value} {m : Sem Next} {o : Oper} {c : Call} {a : Act} (hd : Ds E.G σ s.ms w) (hv : Vs σ vs xs)
    (hop : o.op = .call c) (hrun : (execOp a.eval o).run E.P w = m.run E.P w) (hm : TgM σ xs.toArray g m) {K : Act → World → Prop} {Q : Exit → Act → World → Prop}
    (h1 : ∀ v σ' x w', e = .ret v → V σ' v x → Ds E.G σ' s'.ms w' → Ex σ s.ms w σ' s'.ms w' → K (a.put o.dst x) w') (h2 : ∀ v σ' x w', e = .pan v → V σ' v x → Ds E.G σ' s'.ms w' → Ex σ s.ms w σ' s'.ms w' → Q (.panic [{ v := x, recovered := false }]) a w') :
    o.wpIn (Wd ro) 0 E.P a w K Q := by
  have hnd : NoDefer o := fun c' h' => by rw [hop] at h'; cases h'
  unfold callOp at h
  split at h
  case h_2 =>
    rename_i b
    obtain ⟨p, hp, rfl⟩ := hm
    obtain ⟨l, f, tm, asg, body, k1, k2⟩ := hc.2 b vs s e s' h σ w xs p hd hv hp
    refine wpW_round hnd (hrun.trans k1) (RoundIn_W (k2.mono fun ec w' ⟨σ', g1, g2, g3⟩ => ?_))
    cases e with
    | ret v => obtain ⟨x, k1, rfl⟩ := g1; exact h1 v σ' x w' rfl k1 g2 g3
    | pan v => obtain ⟨x, k1, rfl⟩ := g1; exact h2 v σ' x w' rfl k1 g2 g3
  rename_i g
  have hm : m = callFunc g xs.toArray := hm
  subst hm
  split at h
  case h_2 => cases h
  rename_i fn hf
  split at h
  · rename_i cd hb
    rw [run_callFunc ok.plain hf hb] at hrun
    refine wpW_enter hnd hrun ((hc.1 _ _ _ _ _ h σ w xs hd hv).mono fun ec w' ⟨σ', g1, g2, g3⟩ => ?_)
    cases e with
    | ret v => obtain ⟨x, k1, rfl⟩ := g1; exact h1 v σ' x w' rfl k1 g2 g3
    | pan v => obtain ⟨x, k1, rfl⟩ := g1; exact h2 v σ' x w' rfl k1 g2 g3
  · rename_i hb
    obtain ⟨v, h3, h⟩ := R.bind_ok h
    cases h
    obtain ⟨x, g1, g2⟩ := ok.ext g fn vs v hf hb h3 σ xs hv w
    exact wpW_value (hrun.trans g1) (h1 v σ x w rfl g2 hd (Ex.refl _ _ _))
theorem opS_ok {ro : Option Nat} {E : Env} (ok : EnvOK E) {call : CallR} (hc : CallOK E call) {T : Tm} {ds : List DA} {s : St} {o : Oper} {r : OS} (h : opS E call T ds s o.op = .ok r) {σ : Sg} {w : World} {a : Act} (hd : Ds E.G σ s.ms w) (hds : DSs σ ds a.defers) (hro : RdOK σ ro E.rd)
    (d : ∀ y ∈ o.op.operands, Od E.G σ (tget T) a y) {K : Act → World → Prop} {Q : Exit → Act → World → Prop} (hr : OSok E σ s w o a r K Q) : o.wpIn (Wd ro) 0 E.P a w K Q := by
  unfold opS at h
  have hself : ({ a with defers := a.defers } : Act) = a := rfl
  split at h
  · -- P
    obtain ⟨v, h1, h⟩ := R.bind_ok h
    cases h
    rw [pevF_eq] at h1
    obtain ⟨z, g1, g2⟩ := pev_ok h1 d w
    refine wpW_value g1 ?_
    exact hr σ z a w rfl hds g2 hd (Ex.refl _ _ _)
  · -- A
    obtain ⟨q, h1, h⟩ := R.bind_ok h
    obtain ⟨p, h2, h⟩ := R.bind_ok h
    cases h
    obtain ⟨z, ob, g1, g2, g3⟩ := aev_ok h1 d w (hd.fresh _ (Nat.le_refl _))
    obtain ⟨e1, d2, x2, hle, _⟩ := push_ok hd h2 g3
    refine wpW_value g1 ?_
    exact hr _ z a _ rfl (DSs_mono hle _ _ hds) g2 d2 x2
  · -- L
    obtain ⟨v, h1, h⟩ := R.bind_ok h
    cases h
    obtain ⟨z, g1, g2⟩ := lev_ok h1 hd d
    refine wpW_value g1 ?_
    exact hr σ z a w rfl hds g2 hd (Ex.refl _ _ _)
  · -- E
    obtain ⟨q, h1, h⟩ := R.bind_ok h
    cases h
    obtain ⟨σ', z, w', g1, g2, g3, g4⟩ := sev_ok h1 hd d
    have hle := g4.le hd
    rcases g1 with g1 | ⟨g1, rfl⟩
    · refine wpW_value g1 ?_
      exact hr σ' z a w' rfl (DSs_mono hle _ _ hds) g2 g3 g4
    · refine wpW_skip g1 ?_
      exact hr σ' undef a w' rfl (DSs_mono hle _ _ hds) g2 g3 g4
  · -- C
    split at h
    case h_2 => cases h
    rename_i c hop
    obtain ⟨q, h1, h⟩ := R.bind_ok h
    obtain ⟨rr, h2, h⟩ := R.bind_ok h
    obtain ⟨e, s'⟩ := rr
    obtain ⟨g, vs⟩ := q
    obtain ⟨xs, m, k1, k3, k2⟩ := cev_ok (P := E.P) hop h1 d w
    refine callOp_ok ok hc h2 hd k2 hop k1 k3 (fun v σ' x w' he g2 g3 g4 => ?_) (fun v σ' x w' he g2 g3 g4 => ?_)
    · subst he
      cases h
      exact hr σ' x a w' rfl (DSs_mono (g4.le hd) _ _ hds) g2 g3 g4
    · subst he
      cases h
      exact hr σ' x w' g2 g3 g4
  · -- X
    split at h
    case h_2 => cases h
    rename_i x hop
    obtain ⟨v, h1, h⟩ := R.bind_ok h
    rw [hop] at d
    have hv := opd_ok h1 (d x (by simp [Op.operands]))
    split at h
    case h_2 => cases h
    rename_i t y
    cases h
    have hv' := hv
    simp only [V] at hv
    obtain ⟨z, hz, e⟩ := hv
    refine wpW_panic (w' := w) (v := .iface t z) (fun c h' => by rw [hop] at h'; cases h') (by unfold execOp; simp only [hop, e, Instr.panic, Sem.run_bind, run_goPanic, Result.andThen_halt]) ?_
    refine hr σ (.iface t z) w (by rw [← e]; exact hv') hd (Ex.refl _ _ _)
  · -- D
    split at h
    case h_2 => cases h
    rename_i c hop
    obtain ⟨dd, h1, h⟩ := R.bind_ok h
    cases h
    rw [hop] at d
    unfold dfrA at h1
    split at h1
    case h_2 => cases h1
    rename_i f hcal
    obtain ⟨v, h2, h1⟩ := R.bind_ok h1
    obtain ⟨vs, h3, h1⟩ := R.bind_ok h1
    split at h1
    case h_2 => cases h1
    rename_i g first cap _
    split at h1
    case h_2 => cases h1
    rename_i hrd
    cases h1
    rw [hrd] at hro
    have hro : ro = none := hro
    subst hro
    have hf := opd_ok h2 (d f (by simp [Op.operands, Call.operands, hcal]))
    have hus := opds_ok (a := a) h3 (fun y hy => d y (by simp only [Op.operands, Call.operands, hcal, Array.mem_append]; exact .inr (by simpa using hy)))
    simp only [V] at hf
    obtain ⟨fl, cl, v1, v2, hxv⟩ := hf
    have hargs : (c.args.map a.eval) = (c.args.toList.map a.eval).toArray := by rw [← Array.toList_map, Array.toArray_toList]
    have hres : (resolve a.eval c o.type).run E.P w = .ok { target := .fn (.func g) cl.toArray, args := (fl ++ c.args.toList.map a.eval).toArray } w := by
      unfold resolve
      simp only [hcal, hxv, Deferred.ofValue, Sem.run_pure, hargs]
      congr 2
      simp
    refine wpW_defer (w' := w) (d := _) (by unfold execOp; simp only [hop, Sem.run_bind, hres, Result.andThen_ok, Sem.run_pure]; rfl) ?_
    exact hr σ undef { a with defers := _ :: a.defers } w rfl ⟨cl, _, _, rfl, v2, Vs_append v1 hus, hds⟩ (V_undef σ) hd (Ex.refl _ _ _)
  · cases h
end
end Go.Proofs.YtocabeobfbhajaaGreatDoor.Sx
