/- The reckoner's builtins that change memory: delete, clear, copy, append; ranges over maps. No program is named here. -/
import Derived.Test.YtocabeobfbhajaaGreatDoorSxO
import Derived.Laws.Append
set_option linter.unusedVariables false
set_option linter.unusedSimpArgs false
namespace Go.Proofs.YtocabeobfbhajaaGreatDoor.Sx
noncomputable section
open Go Go.RowKit
variable {P : Program}

/-- The operation is a call of a builtin. -/
theorem run_builtin {o : Oper} {c : Call} {b : Builtin} (ho : o.op = .call c) (hb : c.callee = .builtin b) (ρ : Operand → Value) (w : World) :
    (execOp ρ o).run P w = (builtin b c.argTypes o.type (c.args.map fun | .const _ => true | _ => false) (c.args.map ρ)).run P w := by
  unfold execOp
  simp only [ho, resolve, hb, Sem.run_bind, Sem.run_pure, Result.andThen_ok, invoke]
  rfl
theorem call_opds {o : Oper} {c : Call} {b : Builtin} (ho : o.op = .call c) (hb : c.callee = .builtin b) : o.op.operands = c.args := by
  rw [ho]; simp [Op.operands, Call.operands, hb]
theorem arr2 {α : Type} {a : Array α} {x y : α} (h : a.toList = [x, y]) : a = #[x, y] := by
  cases a; simp at h; rw [h]
noncomputable def deleteE (G : Nat) (P : Program) (T : Tm) (s : St) (c : Call) : R (AV × St) := match c.args.toList, c.argTypes.toList with
  | [m, k], t :: _ => match P.underlying t with
    | some (.map kt _) => (opd G T m).bind fun m => (opd G T k).bind fun k => match m, keyK P kt k with
      | .nm, true => .ok (.tup [], s)
      | .mp b, true => match s.mem.get b with
        | some (.map es clock) => (fnd k es 0).bind fun r => match r with
          | some q => (s.setB b (.map (delE es q.1) clock)).bind fun s' => .ok (.tup [], s')
          | none => .ok (.tup [], s)
        | _ => .no 310
      | _, _ => .no 311
    | _ => .no 312
  | _, _ => .no 313
theorem set_same {w : World} {k : Nat} {ob : Obj} (h : w.heap[k]? = some ob) : ({ w with heap := w.heap.setIfInBounds k ob } : World) = w := by
  have : w.heap.setIfInBounds k ob = w.heap := by
    apply Array.ext_getElem?
    intro i
    rw [Array.getElem?_setIfInBounds]
    split
    · rename_i e; subst e
      split
      · exact h.symm
      · rename_i hn; rw [Array.getElem?_eq_none (by omega)]
    · rfl
  rw [this]
theorem deleteE_ok {G : Nat} {T : Tm} {s : St} {o : Oper} {c : Call} {r : AV × St} {σ : Sg} {a : Act} {w : World} (ho : o.op = .call c) (hc : c.callee = .builtin .delete) (h : deleteE G P T s c = .ok r) (hd : Ds G σ s.ms w) (d : ∀ y ∈ o.op.operands, Od G σ (tget T) a y) :
    Did G P σ s w ((execOp a.eval o).run P w) r := by
  rw [call_opds ho hc] at d
  rw [run_builtin ho hc]
  unfold deleteE at h
  split at h
  case h_2 => cases h
  rename_i m k t ts e1 e2
  rw [arr2 e1] at d ⊢
  rw [show Array.map a.eval #[m, k] = #[a.eval m, a.eval k] by simp]
  have et : c.argTypes[0]? = some t := by rw [← Array.getElem?_toList, e2]; rfl
  split at h
  case h_2 => cases h
  rename_i kt vt ht
  obtain ⟨mv, h1, h⟩ := R.bind_ok h
  obtain ⟨kv, h2, h⟩ := R.bind_ok h
  have hm := opd_ok h1 (d m (by simp))
  have hk := opd_ok h2 (d k (by simp))
  have hV : V σ (.tup []) (.tuple #[]) := by simp [V, Vs]
  split at h
  case h_3 => cases h
  · rename_i hkk _
    cases h
    simp only [V] at hm
    refine ⟨σ, .tuple #[], w, .inl (run_v ?_), hV, hd, Ex.refl _ _ _⟩
    simp [Builtin.delete_, et, run_underlying ht, hm, run_checkKey hkk]
  · rename_i b hkk _
    split at h
    case h_2 => cases h
    rename_i es clock hg
    obtain ⟨f, h4, h⟩ := R.bind_ok h
    simp only [V] at hm
    obtain ⟨p, hp, e3⟩ := hm
    obtain ⟨q, hq, ob, hob, h0, l, hl, rfl⟩ := hd.blk _ _ hg
    rw [hp] at hq; cases hq
    have hf := run_findKey hkk hk hl h4 w
    have hpre : ∀ {w' : World}, (((Instr.findKey kt (a.eval k) l).run P w).andThen fun q w' => Sem.run P (match q with | some (i, _) => setObj p.1 (.map (l.toArray.eraseIdxIfInBounds i) clock) | none => setObj p.1 (.map l.toArray clock)) w') = .ok () w' →
        (Builtin.delete_ c.argTypes o.type #[a.eval m, a.eval k]).run P w = .ok (.tuple #[]) w' := by
      intro w' hw
      unfold Builtin.delete_
      simp only [et, List.getElem?_toArray, List.getElem?_cons_zero, List.getElem?_cons_succ, Sem.run_bind, run_underlying ht, Result.andThen_ok, e3, run_getObj_map hob, run_checkKey hkk]
      cases hfind : (Instr.findKey kt (a.eval k) l).run P w with
      | halt x y => rw [hfind] at hw; cases hw
      | ok q w1 =>
        rw [hfind] at hw
        simp only [Result.andThen_ok] at hw ⊢
        cases q with
        | none => simp only [Sem.run_bind] at hw ⊢; rw [hw]; rfl
        | some q => obtain ⟨i, x⟩ := q; simp only [Sem.run_bind] at hw ⊢; rw [hw]; rfl
    cases f with
    | some j =>
      obtain ⟨j, v0⟩ := j
      simp only at hf h
      obtain ⟨x, g1, g2, _⟩ := hf
      obtain ⟨s', h5, h⟩ := R.bind_ok h
      cases h
      obtain ⟨hds, hex⟩ := setB_ok (ob' := .map (l.eraseIdx j).toArray clock) hd hg hp h5 ⟨h0, _, delE_ok es l j hl, rfl⟩
      refine ⟨σ, .tuple #[], _, .inl (run_v (hpre ?_)), hV, hds, hex⟩
      rw [g1]
      simp only [Result.andThen_ok, run_setObj_map hob]
      congr 4
      simp
    | none =>
      simp only at hf h
      cases h
      refine ⟨σ, .tuple #[], w, .inl (run_v (hpre ?_)), hV, hd, Ex.refl _ _ _⟩
      rw [hf]
      simp only [Result.andThen_ok, run_setObj_map hob]
      rw [set_same hob]
end
end Go.Proofs.YtocabeobfbhajaaGreatDoor.Sx
