/- The reckoner's functions are the model's. No program is named here. -/
import Derived.Test.YtocabeobfbhajaaGreatDoorSxZ
set_option linter.unusedVariables false
set_option linter.unusedSimpArgs false
namespace Go.Proofs.YtocabeobfbhajaaGreatDoor.Sx
noncomputable section
open Go Go.RowKit

theorem MV_mono {σ τ : Sg} (h : σ.le τ) {m : LM} {u : FrameMode} (e : MV σ m u) : MV τ m u := by
  cases m with
  | ret => exact e
  | pan v => obtain ⟨x, h1, h2⟩ := e; exact ⟨x, V_mono h _ _ h1, h2⟩
theorem MV_settle {σ : Sg} {m : LM} {u : FrameMode} (e : MV σ m u) : settle u = u ∧ u ≠ .run := by
  cases m with
  | ret => have : u = .returning := e; subst this; exact ⟨rfl, by simp⟩
  | pan v => obtain ⟨x, _, rfl⟩ := e; exact ⟨rfl, by simp⟩
theorem recoverD_some {c₀ : Frame} {cs : List Frame} {z : Value} (h : c₀.mode = .panicking [{ v := z, recovered := false }]) : recoverD (c₀ :: cs) = some (z, { c₀ with mode := .panicking [{ v := z, recovered := true }] } :: cs) := by
  cases c₀
  simp only at h
  subst h
  rfl
theorem recoverD_none {c₀ : Frame} {cs : List Frame} (h : c₀.mode = .returning) : recoverD (c₀ :: cs) = none := by
  cases c₀
  simp only at h
  subst h
  rfl
theorem DSs_nil {σ : Sg} {l : List Deferred} (h : DSs σ [] l) : l = [] := h
/-- What a deferred call is held to do. -/
def DR (E : Env) (σ : Sg) (M : MS) (w : World) (m : LM) (s' : St) : Ending → FrameMode → World → Prop := fun e u' w' => (∃ y, e = .returned y) ∧ ∃ σ', MV σ' m (settle u') ∧ Ds E.G σ' s'.ms w' ∧ Ex σ M w σ' s'.ms w'
theorem recOp_ok {l : List Oper} {d : Option Tmp} (h : recOp l = some d) : ∃ o c, l = [o] ∧ o.op = .call c ∧ c.callee = .builtin .recover ∧ o.guard = none ∧ o.dst = d := by
  unfold recOp at h
  split at h
  case h_2 => cases h
  rename_i o
  split at h
  case h_2 => cases h
  rename_i c ho hg
  split at h
  case h_2 => cases h
  rename_i hc
  cases h
  exact ⟨o, c, rfl, ho, hc, hg, rfl⟩
theorem dfrR_ok {E : Env} (hrd : E.rd = none) (ok : EnvOK E) {call : CallR} (hc : CallOK E call) {drw : DrwR} (hdr : DrwOK E call drw) {lf f : Nat} {vs : List AV} {m m' : LM} {s s' : St} (h : dfrR E call drw lf f vs m s = .ok (m', s'))
    {σ : Sg} {w : World} {xs : List Value} {u : FrameMode} (hd : Ds E.G σ s.ms w) (hv : Vs σ vs xs) (hm : MV σ m u) :
    (∃ fn c, E.P.funcs[f]? = some fn ∧ fn.body = some c) ∧ CallsDIn (Wd none) 0 E.P f xs.toArray u w (DR E σ s.ms w m' s') := by
  unfold dfrR at h
  split at h
  case h_2 => cases h
  rename_i fn hf
  split at h
  case h_2 => cases h
  rename_i c hb hres
  refine ⟨⟨fn, c, hf, hb⟩, ?_⟩
  obtain ⟨T, h1, h⟩ := R.bind_ok h
  obtain ⟨hnt, hta⟩ := enterA_ok (ds := []) h1 hv
  have hres' : fn.results = #[] := arr0 hres
  -- the usual case
  have usual : ∀ {x : Out}, exec E call drw fn.ntmps lf c T [] s = .ok x → (match x.2.2.1, x.1 with | [], .normal => .ok (m, x.2.2.2) | [], .ret => .ok (m, x.2.2.2) | _, _ => .no 540 : R (LM × St)) = .ok (m', s') → CallsDIn (Wd none) 0 E.P f xs.toArray u w (DR E σ s.ms w m' s') := by
    intro x hx hq
    have hwp := exec_ok (ro := none) ok hc hdr hnt lf c T [] s x hx σ _ w hd hta rfl (by rw [hrd]; rfl)
    refine (callsDIn_of_wp (F := Wd none) (n := 0) (R := fun e w' => (∃ y, e = .returned y) ∧ ∃ σ', Ds E.G σ' x.2.2.2.ms w' ∧ Ex σ s.ms w σ' x.2.2.2.ms w') hf hb trivial (wpIn_mono hwp fun e a' w' hp => ?_)).mono fun e u' w' ⟨e1, e2, σ', e3, e4⟩ => ?_
    · obtain ⟨σ', g1, g2, g3, g4⟩ := hp
      obtain ⟨xe, T1, ds1, s1⟩ := x
      cases ds1 with
      | cons d r => cases xe <;> cases hq
      | nil =>
        have hdef := DSs_nil g3
        cases xe with
        | normal => obtain ⟨rfl, g5⟩ := g4; exact ⟨hdef, _, results_none hres' _ _ _, ⟨_, rfl⟩, σ', g1, g2⟩
        | ret => obtain ⟨rfl, g5⟩ := g4; exact ⟨hdef, _, results_none hres' _ _ _, ⟨_, rfl⟩, σ', g1, g2⟩
        | exit id => cases hq
        | pan v => cases hq
    · subst e1
      have hq' : m = m' ∧ x.2.2.2 = s' := by
        split at hq
        · cases hq; exact ⟨rfl, rfl⟩
        · cases hq; exact ⟨rfl, rfl⟩
        · cases hq
      obtain ⟨rfl, rfl⟩ := hq'
      exact ⟨e2, σ', by rw [(MV_settle hm).1]; exact MV_mono (e4.le hd) hm, e3, e4⟩
  dsimp only at h
  split at h
  · rename_i id ops rest _
    split at h
    · rename_i d hrec
      obtain ⟨o, c1, ho1, ho2, ho3, ho4, ho5⟩ := recOp_ok hrec
      have hops : ops = #[o] := arr1 ho1
      -- behind the question
      have behind : ∀ (v : AV) (z : Value) (T' : Tm) (x : Out) (c₀ : Frame) (cs : List Frame) (u' : FrameMode), V σ v z → putA fn.ntmps T d v = .ok T' → exec E call drw fn.ntmps lf rest T' [] s = .ok x →
          (match x.2.2.1, x.1 with | [], .normal => .ok (.ret, x.2.2.2) | [], .ret => .ok (.ret, x.2.2.2) | _, _ => .no 540 : R (LM × St)) = .ok (m', s') → settle u' = .returning →
          rest.wpSIn (Wd none) 0 E.P (bodyPostS E.P fn c₀ cs (DR E σ s.ms w m' s')) (({ tmps := xs.toArray ++ Array.replicate (fn.ntmps - xs.toArray.size) undef, defers := [] } : Act).put o.dst z) ({ c₀ with mode := u' } :: cs) w := by
        intro v z T' x c₀ cs u' hz hput hx hq hs
        obtain ⟨e1, e2⟩ := putA_ok hnt hput
        have hta' : Ta σ fn.ntmps (tget T') (({ tmps := xs.toArray ++ Array.replicate (fn.ntmps - xs.toArray.size) undef, defers := [] } : Act).put o.dst z) := by rw [e1, ← ho5]; exact hta.put (by rw [ho5]; exact e2) hz
        have hwp := exec_ok (ro := none) ok hc hdr hnt lf rest T' [] s x hx σ _ w hd hta' (by rw [defers_put]; rfl) (by rw [hrd]; rfl)
        refine wpSIn_of_wpIn rfl (wpIn_mono hwp fun e a' w' hp => ?_)
        obtain ⟨σ', g1, g2, g3, g4⟩ := hp
        obtain ⟨xe, T1, ds1, s1⟩ := x
        cases ds1 with
        | cons d r => cases xe <;> cases hq
        | nil =>
          have hdef := DSs_nil g3
          cases xe with
          | normal => obtain ⟨rfl, g5⟩ := g4; cases hq; exact ⟨hdef, u', rfl, _, results_none hres' _ _ _, ⟨_, rfl⟩, σ', hs, g1, g2⟩
          | ret => obtain ⟨rfl, g5⟩ := g4; cases hq; exact ⟨hdef, u', rfl, _, results_none hres' _ _ _, ⟨_, rfl⟩, σ', hs, g1, g2⟩
          | exit id => cases hq
          | pan v => cases hq
      have hrun : ∀ a : Act, (execOp a.eval o).run E.P w = .ok .recover w := fun a => by rw [run_builtin ho2 ho3]; rfl
      have hwant : ∀ t, Region.wanted o (yielded #[o] t) = true := fun t => by simp [Region.wanted, ho4]
      refine callsDIn_of_wpSIn hf hb trivial fun c₀ cs hu => ?_
      refine wpSIn_seq (wpSIn_region ?_)
      rw [hops]
      split at h
      · rename_i v _
        obtain ⟨T', h2, h⟩ := R.bind_ok h
        obtain ⟨x, h3, h⟩ := R.bind_ok h
        obtain ⟨z, hz, hmode⟩ := hm
        simp only [List.size_toArray, List.length_cons, List.length_nil, List.range_succ, List.range_zero, List.nil_append, wpOpsSIn, List.getElem?_toArray, List.getElem?_cons_zero, hwant, if_true, hrun]
        have hrd : recoverD (c₀ :: cs) = some (z, { c₀ with mode := .panicking [{ v := z, recovered := true }] } :: cs) := by
          have hu' : c₀.mode = .panicking [{ v := z, recovered := false }] := hu.trans hmode
          exact recoverD_some hu'
        rw [hrd]
        exact ⟨fun _ _ => trivial, behind v z T' x c₀ cs (.panicking [{ v := z, recovered := true }]) hz h2 h3 h rfl⟩
      · obtain ⟨T', h2, h⟩ := R.bind_ok h
        obtain ⟨x, h3, h⟩ := R.bind_ok h
        have hmode : u = .returning := hm
        simp only [List.size_toArray, List.length_cons, List.length_nil, List.range_succ, List.range_zero, List.nil_append, wpOpsSIn, List.getElem?_toArray, List.getElem?_cons_zero, hwant, if_true, hrun]
        have hrd : recoverD (c₀ :: cs) = none := by
          have hu' : c₀.mode = .returning := hu.trans hmode
          exact recoverD_none hu'
        rw [hrd]
        have hc0 : ({ c₀ with mode := .returning } : Frame) = c₀ := by rw [← hmode, ← hu]
        have := behind .ni .nilIface T' x c₀ cs .returning (by simp only [V]) h2 h3 h rfl
        rw [hc0] at this
        exact ⟨fun _ _ => trivial, this⟩
    · obtain ⟨x, h2, h⟩ := R.bind_ok h
      exact usual h2 h
  · obtain ⟨x, h2, h⟩ := R.bind_ok h
    exact usual h2 h
/-- What the leaving of a frame is held to do. -/
theorem leaveA_ok {E : Env} (hrd : E.rd = none) (ok : EnvOK E) {call : CallR} (hc : CallOK E call) {drw : DrwR} (hdr : DrwOK E call drw) {lf : Nat} {fn : Func} {T : Tm} {nt : Nat} {a : Act} {K : Ending → World → Prop} : ∀ (ds : List DA) (l : List Deferred) (m : LM) (u : FrameMode) (s s' : St) (e : EE) (σ : Sg) (w : World),
    leaveA E call drw lf fn T ds m s = .ok (e, s') → Ds E.G σ s.ms w → Ta σ nt (tget T) a → DSs σ ds l → MV σ m u →
    (∀ σ' ec w', EV σ' e ec → Ds E.G σ' s'.ms w' → Ex σ s.ms w σ' s'.ms w' → K ec w') → LeavesInM (Wd none) 0 E.P fn a.tmps K l u w
  | [], l, m, u, s, s', e, σ, w, h, hd, ht, hds, hm, hR => by
    have := DSs_nil hds
    subst this
    cases m with
    | ret =>
      have hu : u = .returning := hm
      subst hu
      obtain ⟨vs, h1, h⟩ := R.bind_ok h
      cases h
      obtain ⟨x, g1, g2⟩ := results_ok hd ht h1
      exact ⟨x, g1, hR σ _ w ⟨x, g2, rfl⟩ hd (Ex.refl _ _ _)⟩
    | pan v =>
      obtain ⟨x, h1, rfl⟩ := hm
      cases h
      exact hR σ _ w ⟨x, h1, rfl⟩ hd (Ex.refl _ _ _)
  | .fn f cap args :: ds, l, m, u, s, s', e, σ, w, h, hd, ht, hds, hm, hR => by
    obtain ⟨r, h1, h⟩ := R.bind_ok h
    obtain ⟨m1, s1⟩ := r
    obtain ⟨xs, ys, l', rfl, v1, v2, hds'⟩ := hds
    obtain ⟨⟨gn, gc, hgf, hgb⟩, hcall⟩ := dfrR_ok hrd ok hc hdr h1 hd (Vs_append v2 v1) hm
    refine ⟨(MV_settle hm).2, .inr ⟨Wd_deep, .func f, xs.toArray, f, (ys ++ xs).toArray, rfl, ?_, fun _ _ => trivial, (hcall.mono fun ec u' w' hdr' => ?_)⟩⟩
    · simp only [invoke]
      rw [show ys.toArray ++ xs.toArray = (ys ++ xs).toArray by simp]
      exact run_callFunc ok.plain hgf hgb _ w
    · obtain ⟨⟨y, rfl⟩, σ', g1, g2, g3⟩ := hdr'
      exact leaveA_ok hrd ok hc hdr ds l' m1 (settle u') s1 s' e σ' w' h g2 (ht.mono (g3.le hd)) (DSs_mono (g3.le hd) _ _ hds') g1 fun τ ec w2 k1 k2 k3 => hR τ ec w2 k1 k2 (g3.trans k3)
  | .mark b :: ds, l, m, u, s, s', e, σ, w, h, hd, ht, hds, hm, hR => by
    obtain ⟨p, l', hp, rfl, hds'⟩ := hds
    unfold leaveA at h
    split at h
    case h_2 => cases h
    rename_i hg
    obtain ⟨s1, h1, h⟩ := R.bind_ok h
    obtain ⟨q, hq, ob, ho, hbo⟩ := hd.blk b _ hg
    rw [hp] at hq; cases hq
    obtain ⟨ho0, rfl⟩ := hbo
    obtain ⟨d', x'⟩ := delB_ok (.deferred none) hd hg hp h1
    exact ⟨(MV_settle hm).2, .inl ⟨p.1, _, rfl, run_takeDeferred ho, leaveA_ok hrd ok hc hdr ds l' m u s1 s' e σ _ h d' ht hds' hm fun τ ec w2 k1 k2 k3 => hR τ ec w2 k1 k2 (x'.trans k3)⟩⟩
/-! ### Rounds -/
theorem putP_ok {nt : Nat} (hn : nt ≤ topTmp) {σ : Sg} : ∀ (ps : List Tmp) (vs : List AV) (xs : List Value) (T T' : Tm) (tm : Array Value), putP nt T ps vs = .ok T' → Vs σ vs xs → tm.size = nt → (∀ t, V σ (tget T t) (tm.getD t undef)) →
    xs.length = ps.length ∧ Ta σ nt (tget T') { tmps := (ps.zip xs).foldl (fun tmps (p : Tmp × Value) => tmps.setIfInBounds p.1 p.2) tm, defers := [] }
  | [], [], xs, T, T', tm, h, hv, hs, ht => by
    simp only [Vs] at hv
    subst hv
    cases h
    exact ⟨rfl, hs, ht⟩
  | p :: ps, v :: vs, xs, T, T', tm, h, hv, hs, ht => by
    obtain ⟨T1, h1, h⟩ := R.bind_ok h
    simp only [Vs] at hv
    obtain ⟨x, l', rfl, hx, hl⟩ := hv
    obtain ⟨e1, e2⟩ := putA_ok hn h1
    have h0 : Ta σ nt (tget T1) (({ tmps := tm, defers := [] } : Act).put (some p) x) := by
      rw [e1]
      exact Ta.put (a := { tmps := tm, defers := [] }) ⟨hs, ht⟩ e2 hx
    have := putP_ok hn ps vs l' T1 T' (tm.setIfInBounds p x) h hl (by simpa using hs) (fun t => h0.val t)
    exact ⟨by simp [this.1], this.2⟩
  | [], v :: vs, xs, T, T', tm, h, hv, hs, ht => by cases h
  | p :: ps, [], xs, T, T', tm, h, hv, hs, ht => by cases h
theorem begR_ok {E : Env} {σ : Sg} {b : Nat} {s s' : St} {w : World} {p : Nat × Nat} (h : begR b s = .ok s') (hd : Ds E.G σ s.ms w) (hp : σ.bl b = some p) :
    ∃ w', (Instr.beginRound p.1).run E.P w = .ok () w' ∧ Ds E.G σ s'.ms w' ∧ Ex σ s.ms w σ s'.ms w' := by
  unfold begR at h
  split at h
  case h_2 => cases h
  rename_i pend T nt ps asg body df hg
  obtain ⟨q, hq, ob, ho, hbo⟩ := hd.blk b _ hg
  rw [hp] at hq; cases hq
  obtain ⟨ho0, fn, tm, q, e1, e2, e3, rfl⟩ := hbo
  obtain ⟨d', x'⟩ := setB_ok (ob' := .loop { state := .busy, pending := pend, fn := fn, tmps := tm, params := ps.toArray, assign := asg, body := body, defers := q.1 }) hd hg hp h ⟨ho0, fn, tm, q, e1, e2, e3, rfl⟩
  exact ⟨_, run_beginRound ho rfl, d', x'⟩
theorem endR_ok {E : Env} {σ : Sg} {b : Nat} {j : Option Code} {s s' : St} {w : World} {p : Nat × Nat} (h : endR b j s = .ok s') (hd : Ds E.G σ s.ms w) (hp : σ.bl b = some p) :
    ∃ w', (Instr.endRound p.1 j).run E.P w = .ok (.bool j.isNone) w' ∧ Ds E.G σ s'.ms w' ∧ Ex σ s.ms w σ s'.ms w' := by
  unfold endR at h
  split at h
  case h_2 => cases h
  rename_i st pend T nt ps asg body df hg
  obtain ⟨q, hq, ob, ho, hbo⟩ := hd.blk b _ hg
  rw [hp] at hq; cases hq
  obtain ⟨ho0, fn, tm, q, e1, e2, e3, rfl⟩ := hbo
  split at h
  · obtain ⟨d', x'⟩ := setB_ok (ob' := .loop { state := .ready, pending := none, fn := fn, tmps := tm, params := ps.toArray, assign := asg, body := body, defers := q.1 }) hd hg hp h ⟨ho0, fn, tm, q, e1, e2, e3, rfl⟩
    exact ⟨_, run_endRound none ho, d', x'⟩
  · rename_i c
    obtain ⟨d', x'⟩ := setB_ok (ob' := .loop { state := .done, pending := some c, fn := fn, tmps := tm, params := ps.toArray, assign := asg, body := body, defers := q.1 }) hd hg hp h ⟨ho0, fn, tm, q, e1, e2, e3, rfl⟩
    exact ⟨_, run_endRound (some c) ho, d', x'⟩
theorem roundA_ok {E : Env} (ok : EnvOK E) {call : CallR} (hc : CallOK E call) {drw : DrwR} (hdr : DrwOK E call drw) {lf b : Nat} {vs : List AV} {s s' : St} {e : EE} (h : roundA E call drw lf b vs s = .ok (e, s'))
    {σ : Sg} {w : World} {xs : List Value} {p : Nat × Nat} (hd : Ds E.G σ s.ms w) (hv : Vs σ vs xs) (hp : σ.bl b = some p) :
    ∃ l f tm asg body, (Instr.yield p.1 xs.toArray).run E.P w = .ok (.round l f tm asg body) w ∧ RoundIn (Wd none) 0 E.P l f tm asg body w fun ec w' => ∃ σ', EV σ' e ec ∧ Ds E.G σ' s'.ms w' ∧ Ex σ s.ms w σ' s'.ms w' := by
  have ok' : EnvOK (rndE E b) := ⟨ok.plain, ok.mixed, ok.ext, ok.sum⟩
  have hc' : CallOK (rndE E b) call := hc
  have hdr' : DrwOK (rndE E b) call drw := hdr
  unfold roundA at h
  split at h
  case h_2 => cases h
  rename_i st pend T nt ps asg body df hg
  split at h
  case h_2 => cases h
  rename_i hb
  have hnt : nt ≤ topTmp := by have := Nat.le_of_ble_eq_true hb; unfold topTmp; omega
  obtain ⟨T1, h1, h⟩ := R.bind_ok h
  obtain ⟨r, h2, h⟩ := R.bind_ok h
  split at h
  case h_2 => cases h
  rename_i hn
  obtain ⟨s2, h3, h⟩ := R.bind_ok h
  obtain ⟨r2, h4, h⟩ := R.bind_ok h
  obtain ⟨q, hq, ob, ho, hbo⟩ := hd.blk b _ hg
  rw [hp] at hq; cases hq
  obtain ⟨ho0, fn, tm, q, e1, e2, e3, rfl⟩ := hbo
  obtain ⟨hlen, hta⟩ := putP_ok hnt ps vs xs T T1 tm h1 hv e2 e3
  refine ⟨p.1, fn, _, asg, body, run_yield ho (by simpa using hlen), ?_⟩
  have hfold : (ps.toArray.zip xs.toArray).foldl (fun tmps (x : Tmp × Value) => tmps.setIfInBounds x.1 x.2) tm = (ps.zip xs).foldl (fun tmps (p : Tmp × Value) => tmps.setIfInBounds p.1 p.2) tm := by
    simp
  refine roundIn_of_wpIn trivial ?_
  rw [Wd_in]
  have hro : RdOK σ (some p.1) (rndE E b).rd := ⟨p, hp, rfl⟩
  have hw1 := exec_ok (ro := some p.1) ok' hc' hdr' hnt lf asg T1 [] s r h2 σ _ w hd hta rfl hro
  rw [← hfold] at hw1
  refine wpIn_mono hw1 fun ex a1 w1 hp1 => ?_
  obtain ⟨rfl, σ1, g1, g2, g3, g4⟩ := hp1.normal hn
  have hle1 := g2.le hd
  obtain ⟨w2, k1, k2, k3⟩ := begR_ok h3 g1 (hle1.1 _ _ hp)
  refine ⟨w2, k1, ?_⟩
  have hw2 := exec_ok (ro := some p.1) ok' hc' hdr' hnt lf body _ _ s2 r2 h4 σ1 a1 w2 k2 g4 g3 (RdOK_mono hle1 hro)
  refine wpIn_mono hw2 fun ex a2 w3 hp2 => ?_
  obtain ⟨σ2, m1, m2, m3, m4⟩ := hp2
  have hle2 := m2.le k2
  have hb2 := hle2.1 _ _ (hle1.1 _ _ hp)
  have hx := (g2.trans k3).trans m2
  unfold outR at h
  obtain ⟨xe, T2, ds2, s3⟩ := r2
  cases xe with
  | normal =>
    obtain ⟨rfl, m5⟩ := m4
    obtain ⟨s4, h5, h⟩ := R.bind_ok h
    cases h
    obtain ⟨w4, n1, n2, n3⟩ := endR_ok h5 m1 hb2
    exact ⟨_, w4, n1, σ2, ⟨.bool true, rfl, rfl⟩, n2, hx.trans n3⟩
  | ret =>
    obtain ⟨rfl, m5⟩ := m4
    obtain ⟨s4, h5, h⟩ := R.bind_ok h
    cases h
    obtain ⟨w4, n1, n2, n3⟩ := endR_ok h5 m1 hb2
    exact ⟨_, w4, n1, σ2, ⟨.bool false, rfl, rfl⟩, n2, hx.trans n3⟩
  | exit id =>
    obtain ⟨rfl, m5⟩ := m4
    obtain ⟨s4, h5, h⟩ := R.bind_ok h
    cases h
    obtain ⟨w4, n1, n2, n3⟩ := endR_ok h5 m1 hb2
    exact ⟨_, w4, n1, σ2, ⟨.bool false, rfl, rfl⟩, n2, hx.trans n3⟩
  | pan v => cases h
theorem funF_ok {E : Env} (hrd : E.rd = none) (ok : EnvOK E) {call : CallR} (hc : CallOK E call) {drw : DrwR} (hdd : DrwOK E call drw) {lf f : Nat} {vs : List AV} {s s' : St} {e : EE} (h : funF E call drw lf f vs s = .ok (e, s'))
    {σ : Sg} {w : World} {xs : List Value} (hd : Ds E.G σ s.ms w) (hv : Vs σ vs xs) : Calls E.P f xs.toArray w fun ec w' => ∃ σ', EV σ' e ec ∧ Ds E.G σ' s'.ms w' ∧ Ex σ s.ms w σ' s'.ms w' := by
  unfold funF at h
  split at h
  · rename_i r hr
    subst h
    exact ok.sum f vs s e s' hr σ w xs hd hv
  replace h := R.at_ok h
  split at h
  case h_2 => cases h
  rename_i fn hf
  split at h
  case h_2 => cases h
  rename_i c hb
  obtain ⟨T, h1, h⟩ := R.bind_ok h
  obtain ⟨hnt, hta⟩ := enterA_ok (ds := []) h1 hv
  obtain ⟨r, h2, h⟩ := R.bind_ok h
  have hwp := exec_ok (ro := none) ok hc hdd hnt lf c T [] s r h2 σ _ w hd hta rfl (by rw [hrd]; rfl)
  refine Wd_calls.1 (callsIn_of_wp_marks (F := Wd none) (n := 0) hf hb trivial (wpIn_mono hwp fun ec a' w' hp => ?_))
  obtain ⟨σ', g1, g2, g3, g4⟩ := hp
  obtain ⟨xe, T1, ds1, s1⟩ := r
  cases xe with
  | normal =>
    obtain ⟨rfl, g5⟩ := g4
    exact leaveA_ok hrd ok hc hdd ds1 a'.defers .ret .returning s1 s' e σ' w' h g1 g5 g3 rfl fun τ ec w2 k1 k2 k3 => ⟨τ, k1, k2, g2.trans k3⟩
  | ret =>
    obtain ⟨rfl, g5⟩ := g4
    exact leaveA_ok hrd ok hc hdd ds1 a'.defers .ret .returning s1 s' e σ' w' h g1 g5 g3 rfl fun τ ec w2 k1 k2 k3 => ⟨τ, k1, k2, g2.trans k3⟩
  | pan v =>
    obtain ⟨x, g5, rfl, g6⟩ := g4
    exact leaveA_ok hrd ok hc hdd ds1 a'.defers (.pan v) (.panicking [{ v := x, recovered := false }]) s1 s' e σ' w' h g1 g6 g3 ⟨x, g5, rfl⟩ fun τ ec w2 k1 k2 k3 => ⟨τ, k1, k2, g2.trans k3⟩
  | exit id => cases h
theorem funA_ok {E : Env} (hrd : E.rd = none) (ok : EnvOK E) {drw : DrwR} (hdr : ∀ call, CallOK E call → DrwOK E call drw) (lf : Nat) : ∀ n, CallOK E (funA E drw lf n)
  | 0 => ⟨fun f vs s e s' h => (by cases h), fun b vs s e s' h => (by cases h)⟩
  | n + 1 => by
    have hc := funA_ok hrd ok hdr lf n
    refine ⟨fun f vs s e s' h σ w xs hd hv => ?_, fun b vs s e s' h σ w xs p hd hv hp => ?_⟩
    · exact funF_ok hrd ok hc (hdr _ hc) h hd hv
    · exact roundA_ok ok hc (hdr _ hc) h hd hv hp
end
end Go.Proofs.YtocabeobfbhajaaGreatDoor.Sx
