/- The reckoner's copy, clear and append. No program is named here. -/
import Derived.Test.YtocabeobfbhajaaGreatDoorSxP
set_option linter.unusedVariables false
set_option linter.unusedSimpArgs false
namespace Go.Proofs.YtocabeobfbhajaaGreatDoor.Sx
noncomputable section
open Go Go.RowKit
variable {P : Program}

/-- How many elements. -/
def lnA : AV → R Nat
  | .sl _ _ n _ _ => .ok n
  | .ns => .ok 0
  | .str n _ => .ok n
  | _ => .no 320
theorem lnA_ok {v : AV} {n : Nat} {σ : Sg} {u : Value} (h : lnA v = .ok n) (hu : V σ v u) (w : World) : (Builtin.lenOf u).run P w = .ok n w := by
  unfold lnA at h
  split at h
  · cases h; simp only [V] at hu; obtain ⟨p, κ, _, rfl, _⟩ := hu; rfl
  · cases h; simp only [V] at hu; subst hu; rfl
  · cases h; simp only [V] at hu; subst hu
    change (Builtin.lenOf (.string (bstr _ _))).run P w = _
    simp only [Builtin.lenOf, bstr_size, Sem.run_pure]
  · cases h
/-- The cells of the first m elements. -/
noncomputable def fcA (s : St) (sz m : Nat) : AV → R (List AV)
  | .ns => .ok []
  | .sl b o _ _ _ => ldc s b o (Nat.mul m sz)
  | .str n N => match Nat.ble m n with
    | true => .ok [.bs m N]
    | false => .no 321
  | _ => .no 322
theorem fcA_ok {G : Nat} {σ : Sg} {s : St} {w : World} (hd : Ds G σ s.ms w) {sz m : Nat} {v : AV} {cs : List AV} {u : Value} (h : fcA s sz m v = .ok cs) (hu : V σ v u) : ∃ l : List Value, (Builtin.firstCells sz m u).run P w = .ok l.toArray w ∧ Cs σ cs l := by
  unfold fcA at h
  split at h
  · cases h; simp only [V] at hu; subst hu; exact ⟨[], rfl, by simp [Cs]⟩
  · rename_i b o n c x
    obtain ⟨p, l, hp, hl, hlen, hrg⟩ := ldc_ok hd h
    simp only [V] at hu
    obtain ⟨q, κ, hq, rfl, _⟩ := hu
    rw [hp] at hq; cases hq
    refine ⟨l, ?_, hl⟩
    have := run_loadCells_list (P := P) w ⟨p.1, p.2 + o, none⟩ l (fun j v hv => by rw [Addr.add_mid]; exact hrg j v hv)
    rw [hlen, Nat.mul_eq] at this
    exact this
  · rename_i n N
    split at h
    case h_2 => cases h
    rename_i hb
    have hb' := Nat.le_of_ble_eq_true hb
    cases h
    simp only [V] at hu; subst hu
    refine ⟨bcs m N, ?_, by rw [Cs_bs]; exact ⟨[], by simp, by simp [Cs]⟩⟩
    change (Builtin.firstCells sz m (.string (bstr n N))).run P w = _
    have e : (bstr n N).extract 0 m = bstr m (bsub N 0 m) := bstr_extract n N 0 m hb' (Nat.zero_le _)
    simp only [Builtin.firstCells, e, Sem.run_pure]
    congr 1
    have e2 : unpack m (bsub N 0 m) = unpack m N := by rw [unpack_bsub n N 0 m (by omega)]; simp [unpack_take n m N hb']
    simp only [bstr, e2, bcs]
    simp [bcellN]
  · cases h
noncomputable def copyE (G : Nat) (P : Program) (T : Tm) (s : St) (c : Call) : R (AV × St) := match c.args.toList, c.argTypes.toList with
  | [x, y], t :: _ => match P.underlying t with
    | some (.slice e) => (szA P e).bind fun sz => (opd G T x).bind fun x => (opd G T y).bind fun y => (lnA x).bind fun n => (lnA y).bind fun k => (fcA s sz (minN k n) y).bind fun cs => match x with
      | .ns => .ok (.int .i64 (.ofNat 0), s)
      | .sl b o _ _ _ => (stc s b o cs).bind fun s' => .ok (.int .i64 (.ofNat (minN k n)), s')
      | _ => .no 323
    | _ => .no 324
  | _, _ => .no 325
theorem copyE_ok {G : Nat} {T : Tm} {s : St} {o : Oper} {c : Call} {r : AV × St} {σ : Sg} {a : Act} {w : World} (ho : o.op = .call c) (hc : c.callee = .builtin .copy) (h : copyE G P T s c = .ok r) (hd : Ds G σ s.ms w) (d : ∀ y ∈ o.op.operands, Od G σ (tget T) a y) :
    Did G P σ s w ((execOp a.eval o).run P w) r := by
  rw [call_opds ho hc] at d
  rw [run_builtin ho hc]
  unfold copyE at h
  split at h
  case h_2 => cases h
  rename_i x y t ts e1 e2
  rw [arr2 e1] at d ⊢
  rw [show Array.map a.eval #[x, y] = #[a.eval x, a.eval y] by simp]
  have et : c.argTypes[0]? = some t := by rw [← Array.getElem?_toList, e2]; rfl
  split at h
  case h_2 => cases h
  rename_i e ht
  obtain ⟨sz, h0, h⟩ := R.bind_ok h
  obtain ⟨xv, h1, h⟩ := R.bind_ok h
  obtain ⟨yv, h2, h⟩ := R.bind_ok h
  obtain ⟨n, h3, h⟩ := R.bind_ok h
  obtain ⟨k, h4, h⟩ := R.bind_ok h
  obtain ⟨cs, h5, h⟩ := R.bind_ok h
  have hx := opd_ok h1 (d x (by simp))
  have hy := opd_ok h2 (d y (by simp))
  have hk := lnA_ok (P := P) h4 hy w
  obtain ⟨l, g1, g2⟩ := fcA_ok (P := P) hd h5 hy
  have hmin : Nat.min k n = minN k n := (minN_eq k n).symm
  split at h
  case h_3 => cases h
  · cases h
    have e3 : 0 = n := R.ok.inj h3
    simp only [V] at hx
    have hm0 : minN k n = 0 := by rw [minN_eq]; omega
    rw [hm0] at g1
    refine ⟨σ, .int .i64 0, w, .inl (run_v ?_), by simp only [V] <;> rfl, hd, Ex.refl _ _ _⟩
    unfold Builtin.copy_
    simp only [et, List.getElem?_toArray, List.getElem?_cons_zero, List.getElem?_cons_succ, Sem.run_bind, run_underlying ht, Result.andThen_ok, hx, hk, szA_ok h0]
    rw [show Nat.min k 0 = 0 from Nat.min_zero k, g1]
    rfl
  · rename_i b o' n' cc xx _ _ _ _
    have e3 : n' = n := R.ok.inj h3
    obtain ⟨s', h6, h⟩ := R.bind_ok h
    cases h
    obtain ⟨p, hp, hth, h1', hds, hex⟩ := stc_ok hd h6 g2
    simp only [V] at hx
    obtain ⟨q, κ, hq, ex, _⟩ := hx
    rw [hp] at hq; cases hq
    rw [e3] at ex
    have hst := run_storeCells_cells (P := P) p.1 (p.2 + o') l 0 w (fun j hj => by simpa using (hth j hj).1) (fun j hj => by simpa using (hth j hj).2) h1'
    simp only [Nat.add_zero] at hst
    refine ⟨σ, .int .i64 (minN k n), _, .inl (run_v ?_), by simp only [V]; rfl, hds, hex⟩
    unfold Builtin.copy_
    simp only [et, List.getElem?_toArray, List.getElem?_cons_zero, List.getElem?_cons_succ, Sem.run_bind, run_underlying ht, Result.andThen_ok, ex, hk, szA_ok h0, hmin, g1, hst]
    rfl
noncomputable def clearE (G : Nat) (P : Program) (T : Tm) (s : St) (c : Call) : R (AV × St) := match c.args.toList, c.argTypes.toList with
  | [x], t :: _ => (opd G T x).bind fun x => match P.underlying t, x with
    | some _, .nm => .ok (.tup [], s)
    | some _, .ns => .ok (.tup [], s)
    | some (.map _ _), .mp b => match s.mem.get b with
      | some (.map _ clock) => (s.setB b (.map [] clock)).bind fun s' => .ok (.tup [], s')
      | _ => .no 326
    | some (.slice e), .sl b o n _ _ => match n with
      | 0 => .ok (.tup [], s)
      | n + 1 => (szA P e).bind fun sz => (zCs P e sz).bind fun z => (stc s b o (repZ (Nat.succ n) z)).bind fun s' => .ok (.tup [], s')
    | _, _ => .no 327
  | _, _ => .no 328
theorem clearE_ok {G : Nat} {T : Tm} {s : St} {o : Oper} {c : Call} {r : AV × St} {σ : Sg} {a : Act} {w : World} (ho : o.op = .call c) (hc : c.callee = .builtin .clear) (h : clearE G P T s c = .ok r) (hd : Ds G σ s.ms w) (d : ∀ y ∈ o.op.operands, Od G σ (tget T) a y) :
    Did G P σ s w ((execOp a.eval o).run P w) r := by
  rw [call_opds ho hc] at d
  rw [run_builtin ho hc]
  unfold clearE at h
  split at h
  case h_2 => cases h
  rename_i x t ts e1 e2
  rw [arr1 e1] at d ⊢
  rw [show Array.map a.eval #[x] = #[a.eval x] by simp]
  have et : c.argTypes[0]? = some t := by rw [← Array.getElem?_toList, e2]; rfl
  obtain ⟨xv, h1, h⟩ := R.bind_ok h
  have hx := opd_ok h1 (d x (by simp))
  have hV : V σ (.tup []) (.tuple #[]) := by simp [V, Vs]
  split at h
  case h_5 => cases h
  · rename_i td ht
    cases h
    simp only [V] at hx
    refine ⟨σ, .tuple #[], w, .inl (run_v ?_), hV, hd, Ex.refl _ _ _⟩
    unfold Builtin.clear_
    simp only [et, List.getElem?_toArray, List.getElem?_cons_zero, Sem.run_bind, run_underlying ht, Result.andThen_ok, hx]
    rfl
  · rename_i td ht
    cases h
    simp only [V] at hx
    refine ⟨σ, .tuple #[], w, .inl (run_v ?_), hV, hd, Ex.refl _ _ _⟩
    unfold Builtin.clear_
    simp only [et, List.getElem?_toArray, List.getElem?_cons_zero, Sem.run_bind, run_underlying ht, Result.andThen_ok, hx]
    rfl
  · rename_i kt vt b ht
    split at h
    case h_2 => cases h
    rename_i es clock hg
    obtain ⟨s', h2, h⟩ := R.bind_ok h
    cases h
    simp only [V] at hx
    obtain ⟨p, hp, ex⟩ := hx
    obtain ⟨q, hq, ob, hob, hz0, l, hl, rfl⟩ := hd.blk _ _ hg
    rw [hp] at hq; cases hq
    obtain ⟨hds, hex⟩ := setB_ok (ob' := .map #[] clock) hd hg hp h2 ⟨hz0, [], by simp [Es], rfl⟩
    refine ⟨σ, .tuple #[], _, .inl (run_v ?_), hV, hds, hex⟩
    unfold Builtin.clear_
    simp only [et, List.getElem?_toArray, List.getElem?_cons_zero, Sem.run_bind, run_underlying ht, Result.andThen_ok, ex, run_getObj_map hob, run_setObj_map hob]
    rfl
  · rename_i e b o' n cc xx ht
    split at h
    · cases h
      simp only [V] at hx
      obtain ⟨p, κ, hp, ex, _⟩ := hx
      refine ⟨σ, .tuple #[], w, .inl (run_v ?_), hV, hd, Ex.refl _ _ _⟩
      unfold Builtin.clear_
      simp only [et, List.getElem?_toArray, List.getElem?_cons_zero, Sem.run_bind, run_underlying ht, Result.andThen_ok, ex]
      rfl
    · rename_i n
      obtain ⟨sz, h2, h⟩ := R.bind_ok h
      obtain ⟨z, h3, h⟩ := R.bind_ok h
      obtain ⟨s', h4, h⟩ := R.bind_ok h
      cases h
      obtain ⟨v, g1, g2, g3, g4⟩ := zCs_ok h3 w
      have hz := repZ_ok (g2 σ) (n + 1)
      obtain ⟨p, hp, hth, h1', hds, hex⟩ := stc_ok hd h4 hz
      simp only [V] at hx
      obtain ⟨q, κ, hq, ex, _⟩ := hx
      rw [hp] at hq; cases hq
      have hst := run_storeCells_cells (P := P) p.1 (p.2 + o') _ 0 w (fun j hj => by simpa using (hth j hj).1) (fun j hj => by simpa using (hth j hj).2) h1'
      simp only [Nat.add_zero] at hst
      have hzc : (Builtin.zeroCells v.cells (n + 1)).toList = (List.replicate (n + 1) v.cells.toList).flatten := by
        unfold Builtin.zeroCells
        rw [zeroRow (by omega)]
      refine ⟨σ, .tuple #[], _, .inl (run_v ?_), hV, hds, hex⟩
      unfold Builtin.clear_
      simp only [et, List.getElem?_toArray, List.getElem?_cons_zero, Sem.run_bind, run_underlying ht, Result.andThen_ok, ex, g1, hzc, hst]
      rfl
end
end Go.Proofs.YtocabeobfbhajaaGreatDoor.Sx
