/- The reckoner: what a call calls; deferred calls; which kind an operation is. No program is named here. -/
import Derived.Test.YtocabeobfbhajaaGreatDoorSxU
set_option linter.unusedVariables false
set_option linter.unusedSimpArgs false
namespace Go.Proofs.YtocabeobfbhajaaGreatDoor.Sx
noncomputable section
open Go Go.RowKit
variable {P : Program}

/-- No function is the one that the model answers itself. -/
def Plain (P : Program) : Prop := ∀ (f : Nat) (fn : Func), P.funcs[f]? = some fn → (fn.name == "runtime.NumGoroutine") = false

/-- What is called: a function; the yield of a range over a function, by the name of its record. -/
inductive Tg where
  | fn (g : Nat)
  | yl (b : Nat)
def TgM (σ : Sg) (xs : Array Value) : Tg → Sem Next → Prop
  | .fn g, m => m = callFunc g xs
  | .yl b, m => ∃ p, σ.bl b = some p ∧ m = Instr.yield p.1 xs
/-- The function that is called, and its arguments. -/
noncomputable def cev (G : Nat) (P : Program) (T : Tm) (c : Call) : R (Tg × List AV) := match c.callee with
  | .value f => (opd G T f).bind fun v => (opds G T c.args.toList).bind fun vs => match v with
    | .fn g first cap => match g with
      | .func g => .ok (.fn g, first ++ (vs ++ cap))
      | .method name => match first ++ vs with
        | .ifc t v :: r => (methA P t name v).bind fun g => .ok (.fn g.1, g.2 :: r)
        | _ => .no 410
      | _ => .no 411
    | .yl b => .ok (.yl b, vs)
    | _ => .no 412
  | .invoke x name => (opd G T x).bind fun v => (opds G T c.args.toList).bind fun vs => match v with
    | .ifc t v => (methA P t name v).bind fun g => .ok (.fn g.1, g.2 :: vs)
    | _ => .no 413
  | .builtin _ => .no 414
theorem Vs_append {σ : Sg} : ∀ {a b : List AV} {l m : List Value}, Vs σ a l → Vs σ b m → Vs σ (a ++ b) (l ++ m)
  | [], b, l, m, h, g => by simp only [Vs] at h; subst h; simpa using g
  | v :: r, b, l, m, h, g => by
    simp only [Vs] at h
    obtain ⟨x, l', rfl, h1, h2⟩ := h
    simp only [List.cons_append, Vs]
    exact ⟨x, l' ++ m, rfl, h1, Vs_append h2 g⟩
theorem run_callFunc (hp : Plain P) {f : FuncId} {fn : Func} {c : Code} (hf : P.funcs[f]? = some fn) (hb : fn.body = some c) (args : Array Value) (w : World) : (callFunc f args).run P w = .ok (.enter f args) w := by
  unfold callFunc
  simp only [Sem.run_bind, run_program, Result.andThen_ok, hf]
  rw [hp f fn hf, if_neg (by simp)]
  simp only [hb, Option.isNone_some, Bool.false_eq_true, if_false, Sem.run_pure]
theorem cev_ok {G : Nat} {T : Tm} {o : Oper} {c : Call} {f : Tg} {vs : List AV} {σ : Sg} {a : Act} (ho : o.op = .call c) (h : cev G P T c = .ok (f, vs)) (d : ∀ y ∈ o.op.operands, Od G σ (tget T) a y) (w : World) :
    ∃ (xs : List Value) (m : Sem Next), (execOp a.eval o).run P w = m.run P w ∧ TgM σ xs.toArray f m ∧ Vs σ vs xs := by
  rw [ho] at d
  have hrun : (execOp a.eval o).run P w = ((resolve a.eval c o.type).run P w).andThen fun dd w' => (invoke dd.target dd.args).run P w' := by
    unfold execOp
    simp only [ho, Sem.run_bind]
  rw [hrun]
  unfold cev at h
  split at h
  case h_3 => cases h
  · rename_i x hc
    obtain ⟨v, h1, h⟩ := R.bind_ok h
    obtain ⟨us, h2, h⟩ := R.bind_ok h
    have hx := opd_ok h1 (d x (by simp [Op.operands, Call.operands, hc]))
    have hus := opds_ok (a := a) h2 (fun y hy => d y (by simp only [Op.operands, Call.operands, hc, Array.mem_append]; exact .inr (by simpa using hy)))
    have hargs : (c.args.map a.eval) = (c.args.toList.map a.eval).toArray := by rw [← Array.toList_map, Array.toArray_toList]
    split at h
    case h_3 => cases h
    case h_2 =>
      rename_i b _
      cases h
      simp only [V] at hx
      obtain ⟨p, hp, hxv⟩ := hx
      have hres : (resolve a.eval c o.type).run P w = .ok { target := .fn (.yield p.1) #[], args := (c.args.toList.map a.eval).toArray } w := by
        unfold resolve
        simp only [hc, hxv, Deferred.ofValue, Sem.run_pure, hargs]
        congr 2
        simp
      rw [hres, Result.andThen_ok]
      exact ⟨c.args.toList.map a.eval, _, rfl, ⟨p, hp, rfl⟩, hus⟩
    rename_i g first cap _
    simp only [V] at hx
    obtain ⟨fl, cl, v1, v2, hxv⟩ := hx
    have hres : (resolve a.eval c o.type).run P w = .ok { target := .fn g cl.toArray, args := fl.toArray ++ (c.args.toList.map a.eval).toArray } w := by
      unfold resolve
      simp only [hc, hxv, Deferred.ofValue, Sem.run_pure, hargs]
    rw [hres, Result.andThen_ok]
    split at h
    · rename_i g
      cases h
      refine ⟨fl ++ (c.args.toList.map a.eval ++ cl), _, ?_, rfl, Vs_append v1 (Vs_append hus v2)⟩
      simp only [invoke]
      have : fl.toArray ++ (c.args.toList.map a.eval).toArray ++ cl.toArray = (fl ++ (c.args.toList.map a.eval ++ cl)).toArray := by simp
      rw [this]
    · rename_i name
      split at h
      case h_2 => cases h
      rename_i t v r hfv
      obtain ⟨⟨g, gv⟩, h3, h⟩ := R.bind_ok h
      cases h
      have hall := Vs_append v1 hus
      rw [hfv] at hall
      simp only [Vs, V] at hall
      obtain ⟨x0, l', hl, ⟨y, hy, rfl⟩, hr⟩ := hall
      obtain ⟨y', hy', hm1, _⟩ := methA_ok h3 hy w
      refine ⟨y' :: l', _, ?_, rfl, by simp only [Vs]; exact ⟨y', l', rfl, hy', hr⟩⟩
      have e : fl.toArray ++ (c.args.toList.map a.eval).toArray = (Value.iface t y :: l').toArray := by rw [← hl]; simp
      simp only [invoke, e, List.getElem?_toArray, List.getElem?_cons_zero, callMethod, Sem.run_bind, run_program, Result.andThen_ok, hm1]
      have : #[y'] ++ (Value.iface t y :: l').toArray.extract 1 (Value.iface t y :: l').toArray.size = (y' :: l').toArray := by
        apply Array.ext'
        simp
      rw [this]
    · cases h
  · rename_i x name hc
    obtain ⟨v, h1, h⟩ := R.bind_ok h
    obtain ⟨us, h2, h⟩ := R.bind_ok h
    have hx := opd_ok h1 (d x (by simp [Op.operands, Call.operands, hc]))
    have hus := opds_ok (a := a) h2 (fun y hy => d y (by simp only [Op.operands, Call.operands, hc, Array.mem_append]; exact .inr (by simpa using hy)))
    have hargs : (c.args.map a.eval) = (c.args.toList.map a.eval).toArray := by rw [← Array.toList_map, Array.toArray_toList]
    split at h
    case h_2 => cases h
    rename_i t v _
    obtain ⟨⟨g, gv⟩, h3, h⟩ := R.bind_ok h
    cases h
    simp only [V] at hx
    obtain ⟨y, hy, hxv⟩ := hx
    obtain ⟨y', hy', hm1, _⟩ := methA_ok h3 hy w
    refine ⟨y' :: c.args.toList.map a.eval, _, ?_, rfl, by simp only [Vs]; exact ⟨y', _, rfl, hy', hus⟩⟩
    have hres : (resolve a.eval c o.type).run P w = .ok { target := .fn (.method name) #[], args := #[a.eval x] ++ (c.args.toList.map a.eval).toArray } w := by
      unfold resolve
      simp only [hc, hargs, Sem.run_pure]
    rw [hres, Result.andThen_ok]
    have e : #[a.eval x] ++ (c.args.toList.map a.eval).toArray = (Value.iface t y :: c.args.toList.map a.eval).toArray := by rw [hxv]; simp
    simp only [invoke, e, List.getElem?_toArray, List.getElem?_cons_zero, callMethod, Sem.run_bind, run_program, Result.andThen_ok, hm1]
    have : ∀ l : List Value, #[y'] ++ (Value.iface t y :: l).toArray.extract 1 (Value.iface t y :: l).toArray.size = (y' :: l).toArray := by
      intro l
      apply Array.ext'
      simp
    rw [this]
end
end Go.Proofs.YtocabeobfbhajaaGreatDoor.Sx
