/- The reckoner's append is the model's. No program is named here. -/
import Derived.Test.YtocabeobfbhajaaGreatDoorSxS
set_option linter.unusedVariables false
set_option linter.unusedSimpArgs false
namespace Go.Proofs.YtocabeobfbhajaaGreatDoor.Sx
noncomputable section
open Go Go.RowKit
variable {P : Program}

/-- A new row with room that a draw left, as append makes it. -/
theorem grown_ok {G : Nat} {σ : Sg} {s : St} {w : World} {cs : List AV} {L : List Value} {e : TypeId} {sz m : Nat} {z : Value} {q : Nat × St} (hd : Ds G σ s.ms w) (hc : Cs σ cs L) (hz : z.cells.size = sz) (hL : L.length = m * sz) (e' : Nat)
    (h : ({ s with nc := Nat.succ s.nc } : St).push (.cells cs (Nat.succ s.nc) sz) = .ok q) :
    ∃ σ', V σ' (.sl q.1 0 m m (Nat.succ s.nc)) (.slice (some ⟨w.heap.size, 0, none⟩) m (m + e')) ∧ Ds G σ' q.2.ms (w.drew.alloc (.cells (L ++ (Builtin.zeroCells z.cells e').toList).toArray e)) ∧ Ex σ s.ms w σ' q.2.ms (w.drew.alloc (.cells (L ++ (Builtin.zeroCells z.cells e').toList).toArray e)) := by
  obtain ⟨d1, x1⟩ := hd.setC e'
  have hb : BO ((σ.setC s.nc e').set s.nx (w.drew.heap.size, 0)) 0 (.cells cs (Nat.succ s.nc) sz) (.cells (L ++ (Builtin.zeroCells z.cells e').toList).toArray e) := by
    refine ⟨_, e, (0, 0), rfl, .inl rfl, L, e' * sz, Cs_mono (Sg.le_trans (x1.le hd) (Sg.le_set (d1.fresh _ (Nat.le_refl _)))) _ _ hc, .inr ⟨s.nc, e', rfl, setC_at _ _ _, rfl⟩, ?_, ?_⟩
    · simp only [List.size_toArray, List.length_append, Array.length_toList, size_zeroCells', hz]; omega
    · intro i v hv
      rw [Nat.zero_add, List.getElem?_toArray, List.getElem?_append_left (List.getElem?_eq_some_iff.1 hv).1]
      exact hv
  obtain ⟨e1, d2, x2, _, hn⟩ := push_ok (d1.drew) h hb
  refine ⟨_, ?_, d2, x1.trans x2.toDrew⟩
  simp only [V]
  rw [e1]
  exact ⟨(w.heap.size, 0), m + e', hn, by simp, .inr ⟨s.nc, e', rfl, setC_at _ _ _, rfl⟩⟩
theorem ldc_run {G : Nat} {σ : Sg} {s : St} {w : World} (d : Ds G σ s.ms w) {b o n : Nat} {cs : List AV} {p : Nat × Nat} (h : ldc s b o n = .ok cs) (hp : σ.bl b = some p) :
    ∃ l, Cs σ cs l ∧ l.length = n ∧ ∀ w' : World, w'.heap = w.heap → (loadCells ⟨p.1, p.2 + o, none⟩ n).run P w' = .ok l.toArray w' := by
  obtain ⟨q, l, hq, hl, hlen, hrg⟩ := ldc_ok d h
  rw [hp] at hq; cases hq
  refine ⟨l, hl, hlen, fun w' hw => ?_⟩
  have := run_loadCells_list (P := P) w' ⟨p.1, p.2 + o, none⟩ l (fun j v hv => by rw [Addr.add_mid]; have := hrg j v hv; simp only [World.cell?, hw] at this ⊢; exact this)
  rw [hlen] at this
  exact this
theorem appZ_ok {G : Nat} {T : Tm} {s : St} {x y : Operand} {t ty rt e : TypeId} {kk : IntKind} {r : AV × St} {σ : Sg} {a : Act} {w : World} (ht : P.underlying t = some (.slice e)) (hty : P.underlying ty = some (.int kk)) (h : appZ G P T s x y e = .ok r) (hd : Ds G σ s.ms w) (dx : Od G σ (tget T) a x) (dy : Od G σ (tget T) a y) :
    Did G P σ s w (((do pure (Next.value (← Builtin.append_ #[t, ty] rt #[a.eval x, a.eval y])) : Sem Next)).run P w) r := by
  unfold appZ at h
  split at h
  · cases h
  rename_i i hi
  obtain ⟨z, h0, ha⟩ := R.bind_ok h
  obtain ⟨xv, h1, hb⟩ := R.bind_ok ha
  obtain ⟨yv, h2, hc⟩ := R.bind_ok hb
  obtain ⟨k, h3, hq⟩ := R.bind_ok hc
  clear h ha hb hc
  have hx := opd_ok h1 dx
  obtain ⟨kk', hy⟩ := idxA_ok h3 (opd_ok h2 dy)
  split at hq
  case h_2 => cases hq
  rename_i b1 b2
  have b1' : 2 * k * i.bytes ≤ 281474976710656 := Nat.le_of_ble_eq_true b1
  have b2' : k ≤ 4611686018427387904 := Nat.le_of_ble_eq_true b2
  obtain ⟨zv, z1, z2, z3, z4⟩ := zCs_ok h0 w
  have hz : ∀ w' : World, (zeroValue e).run P w' = .ok zv w' := by
    intro w'
    obtain ⟨v', z1', _⟩ := zCs_ok h0 w'
    have : v' = zv := by
      simp only [zeroValue, typeInfo, Sem.run_bind, run_program, Result.andThen_ok, hi, Sem.run_pure] at z1 z1'
      cases hzz : i.zero with
      | none => rw [hzz] at z1; cases z1
      | some q => rw [hzz] at z1 z1'; cases z1; cases z1'; rfl
    rw [← this]; exact z1'
  simp only [V] at hx
  rw [hx, hy]
  split at hq
  · cases hq
    have hti : ∀ w' : World, (typeInfo e).run P w' = .ok i w' := fun w' => by simp [typeInfo, hi]
    refine ⟨σ, .slice none 0 0, w, .inl (run_v ?_), by simp only [V], hd, Ex.refl _ _ _⟩
    unfold Builtin.append_
    simp only [List.getElem?_toArray, List.getElem?_cons_zero, List.getElem?_cons_succ, Sem.run_bind, run_underlying ht, run_underlying hty, Result.andThen_ok, run_sizeOf hi, Sem.run_pure, asInt, asIntOf, if_true, hti]
    have wl : IntKind.i64.wrap ((0 : Nat) : Int) = 0 := by decide
    rw [wl, if_neg (by omega)]
    simp only [Sem.run_bind, hti, Result.andThen_ok]
    rw [if_neg (by simp)]
    simp only [Sem.run_bind, Sem.run_pure, Result.andThen_ok]
    simp
  · rename_i k'
    obtain ⟨q, h6, hq⟩ := R.bind_ok hq
    obtain ⟨e', hrun⟩ := run_append_zero (rt := rt) (kk' := kk') (k := k' + 1) ht hty hi hz z3 (by omega) z4 b1' b2'
    obtain ⟨σ', g1, g2, g3⟩ := grown_ok (e := e) (m := k' + 1) hd (repZ_ok (z2 σ) (k' + 1)) z3 (by simp [z3]) e' h6
    have e4 : r = (.sl q.1 0 (Nat.succ k') (Nat.succ k') (Nat.succ s.nc), q.2) := (R.ok.inj hq).symm
    rw [e4]
    exact ⟨σ', _, _, .inl (run_v (by rw [hrun])), g1, g2, g3⟩
theorem appE_ok {G : Nat} {T : Tm} {s : St} {o : Oper} {c : Call} {r : AV × St} {σ : Sg} {a : Act} {w : World} (ho : o.op = .call c) (hcb : c.callee = .builtin .append) (h : appE G P T s c = .ok r) (hd : Ds G σ s.ms w) (d : ∀ y ∈ o.op.operands, Od G σ (tget T) a y) :
    Did G P σ s w ((execOp a.eval o).run P w) r := by
  rw [call_opds ho hcb] at d
  rw [run_builtin ho hcb]
  unfold appE at h
  split at h
  case h_2 => cases h
  rename_i x y t ty e1 e2
  rw [arr2 e1] at d ⊢
  rw [show Array.map a.eval #[x, y] = #[a.eval x, a.eval y] by simp, arr2 e2]
  split at h
  · rename_i e kk ht hty
    exact appZ_ok ht hty h hd (d x (by simp)) (d y (by simp))
  case h_3 => cases h
  rename_i e td hno ht hty
  have hn' : ∀ kk, td ≠ .int kk := fun kk e => hno kk (by rw [e])
  split at h
  · cases h
  rename_i i hi
  obtain ⟨z, h0, ha⟩ := R.bind_ok h; clear h
  obtain ⟨xv, h1, hb⟩ := R.bind_ok ha; clear ha
  obtain ⟨yv, h2, ha⟩ := R.bind_ok hb; clear hb
  obtain ⟨n, h3, hb⟩ := R.bind_ok ha; clear ha
  obtain ⟨k, h4, ha⟩ := R.bind_ok hb; clear hb
  obtain ⟨new, h5, h⟩ := R.bind_ok ha; clear ha
  have hx := opd_ok h1 (d x (by simp))
  have hy := opd_ok h2 (d y (by simp))
  split at h
  case h_2 => cases h
  rename_i b1 b2 b3
  have b1' : 2 * (n + k) * i.bytes ≤ 281474976710656 := Nat.le_of_ble_eq_true b1
  have b2' : n + k ≤ 4611686018427387904 := Nat.le_of_ble_eq_true b2
  have b3' : clen new = k * i.size := beq_iff.1 b3
  obtain ⟨zv, z1, z2, z3, z4⟩ := zCs_ok h0 w
  have hz : ∀ w' : World, (zeroValue e).run P w' = .ok zv w' := by
    intro w'
    obtain ⟨v', z1', _⟩ := zCs_ok h0 w'
    have : v' = zv := by
      simp only [zeroValue, typeInfo, Sem.run_bind, run_program, Result.andThen_ok, hi, Sem.run_pure] at z1 z1'
      cases hzz : i.zero with
      | none => rw [hzz] at z1; cases z1
      | some q => rw [hzz] at z1 z1'; cases z1; cases z1'; rfl
    rw [← this]; exact z1'
  have hk := lnA_ok (P := P) h4 hy w
  obtain ⟨l, f1, f2⟩ := fcA_ok (P := P) hd h5 hy
  have hl := Cs_length _ _ f2
  rw [b3'] at hl
  have hf : ∀ w' : World, w'.heap = w.heap → (Builtin.firstCells i.size k (a.eval y)).run P w' = .ok l.toArray w' := by
    intro w' hw'
    obtain ⟨l', g1, g2⟩ := fcA_ok (P := P) (hd.heap hw') h5 hy
    have : l' = l := by
      cases hv : a.eval y with
      | slice b nn cc =>
        rw [hv] at g1 f1
        cases b with
        | none =>
          simp only [Builtin.firstCells, Sem.run_pure] at g1 f1
          have e1 : #[] = l'.toArray := by injection g1
          have e2 : #[] = l.toArray := by injection f1
          have := e1.symm.trans e2
          simpa using this
        | some b =>
          unfold fcA at h5
          split at h5
          · simp only [V] at hy; rw [hv] at hy; cases hy
          · obtain ⟨p, l1, hp, hl1, hlen, hrg⟩ := ldc_ok hd h5
            simp only [V] at hy
            obtain ⟨q, κ, hq, ey, _⟩ := hy
            rw [hp] at hq; cases hq
            rw [hv] at ey
            injection ey with ey1 ey2 ey3
            injection ey1 with ey1
            subst ey1
            have c1 := run_loadCells_list (P := P) w ⟨p.1, p.2 + _, none⟩ l1 (fun j v hv => by rw [Addr.add_mid]; exact hrg j v hv)
            have c2 := run_loadCells_list (P := P) w' ⟨p.1, p.2 + _, none⟩ l1 (fun j v hv => by rw [Addr.add_mid]; have := hrg j v hv; simp only [World.cell?, hw'] at this ⊢; exact this)
            rw [hlen, Nat.mul_eq] at c1 c2
            simp only [Builtin.firstCells] at g1 f1
            rw [c1] at f1
            rw [c2] at g1
            have e1 : l1.toArray = l'.toArray := by injection g1
            have e2 : l1.toArray = l.toArray := by injection f1
            simpa using e1.symm.trans e2
          · simp only [V] at hy; rw [hv] at hy; cases hy
          · cases h5
      | string sv =>
        rw [hv] at g1 f1
        simp only [Builtin.firstCells, Sem.run_pure] at g1 f1
        have e1 := g1
        have e2 := f1
        injection e1 with e1
        injection e2 with e2
        simpa using e1.symm.trans e2
      | _ => rw [hv] at f1; simp [Builtin.firstCells] at f1
    rw [← this]; exact g1
  split at h
  case h_3 => cases h
  · -- nil
    have e3 : 0 = n := R.ok.inj h3
    simp only [V] at hx
    rw [hx]
    split at h
    · cases h
      have := run_append_in (rt := o.type) (base := none) (n := 0) (κ := 0) ht hty hn' hi hk f1 (by omega)
      exact ⟨σ, .slice none 0 0, w, .inl (run_v (by rw [this]; rfl)), by simp only [V], hd, Ex.refl _ _ _⟩
    · rename_i k'
      obtain ⟨q, h6, hq⟩ := R.bind_ok h
      obtain ⟨e', hrun⟩ := run_append_grow (rt := o.type) (base := none) (n := 0) (κ := 0) (old := []) ht hty hn' hi hk hf (fun w' _ => by simp [Builtin.firstCells]) hz (by omega) (by rw [e3]; exact b1') (by omega)
      obtain ⟨σ', g1, g2, g3⟩ := grown_ok (e := e) hd f2 z3 hl e' h6
      have e4 : r = (.sl q.1 0 (Nat.succ k') (Nat.succ k') (Nat.succ s.nc), q.2) := (R.ok.inj hq).symm
      rw [e4]
      refine ⟨σ', _, _, .inl (run_v (by rw [hrun])), ?_, ?_, ?_⟩
      · rw [show 0 + (k' + 1) = k' + 1 by omega]; exact g1
      · simpa using g2
      · simpa using g3
  · rename_i b o' n' cc xx
    have e3 : n' = n := R.ok.inj h3
    simp only [V] at hx
    obtain ⟨p, κ, hp, ex, hκ⟩ := hx
    rw [e3] at ex h
    rw [ex]
    have hcκ : cc ≤ κ := by rcases hκ with ⟨_, e⟩ | ⟨j, q, _, _, e⟩ <;> omega
    split at h
    · -- there is room
      rename_i hroom
      have hroom' : n + k ≤ cc := Nat.le_of_ble_eq_true hroom
      obtain ⟨s', h6, hq⟩ := R.bind_ok h
      obtain ⟨p', hp', hth, h1', hds, hex⟩ := stc_ok hd h6 f2
      rw [hp] at hp'; cases hp'
      have e4 : r = (.sl b o' (n + k) cc xx, s') := (R.ok.inj hq).symm
      rw [e4]
      have hst := run_storeCells_cells (P := P) p.1 (p.2 + (o' + n * i.size)) l 0 w (fun j hj => by simpa using (hth j hj).1) (fun j hj => by simpa using (hth j hj).2) h1'
      simp only [Nat.add_zero] at hst
      have hrun := run_append_in (rt := o.type) (base := some ⟨p.1, p.2 + o', none⟩) (n := n) (κ := κ) ht hty hn' hi hk f1 (by omega)
      dsimp only at hrun
      rw [addr_add, show p.2 + o' + n * i.size = p.2 + (o' + n * i.size) by omega, hst, Result.andThen_ok] at hrun
      exact ⟨σ, _, _, .inl (run_v hrun), by simp only [V]; exact ⟨p, κ, hp, rfl, hκ⟩, hds, hex⟩
    · rename_i hroom
      have hroom' : cc < n + k := ble_false hroom
      obtain ⟨old, h6, hq⟩ := R.bind_ok h
      obtain ⟨lo, k1, k2, k3⟩ := ldc_run (P := P) hd h6 hp
      have hfo : ∀ (κ' : Nat) (w' : World), w'.heap = w.heap → (Builtin.firstCells i.size n (.slice (some ⟨p.1, p.2 + o', none⟩) n κ')).run P w' = .ok lo.toArray w' := fun κ' w' hw => k3 w' hw
      have hall := capp_ok _ _ _ _ k1 f2
      have hlen : (lo ++ l).length = (n + k) * i.size := by rw [List.length_append, k2, hl, Nat.mul_eq, Nat.add_mul]
      split at hq
      · -- a known capacity: a new row
        have hκ0 : κ = cc := by rcases hκ with ⟨_, e⟩ | ⟨j, q, e, _, _⟩ <;> omega
        obtain ⟨q, h7, hqq⟩ := R.bind_ok hq
        obtain ⟨e', hrun⟩ := run_append_grow (rt := o.type) (base := some ⟨p.1, p.2 + o', none⟩) (n := n) (κ := κ) ht hty hn' hi hk hf (hfo κ) hz (by omega) b1' b2'
        obtain ⟨σ', g1, g2, g3⟩ := grown_ok (e := e) hd hall z3 hlen e' h7
        have e4 : r = (.sl q.1 0 (n + k) (n + k) (Nat.succ s.nc), q.2) := (R.ok.inj hqq).symm
        rw [e4]
        exact ⟨σ', _, _, .inl (run_v hrun), g1, g2, g3⟩
      · -- it is not known whether there is room: the old name goes
        rename_i j
        split at hq
        case h_2 => cases hq
        rename_i cs ext esz hg hone hbt
        split at hq
        case h_2 => cases hq
        rename_i c1 c2 c3
        have c1' : ext = j + 1 := beq_iff.1 c1
        have c2' : esz = i.size := beq_iff.1 c2
        have c3' : clen cs = o' + cc * i.size := beq_iff.1 c3
        have hbt' := Nat.le_of_ble_eq_true hbt
        obtain ⟨q, h7, hqq⟩ := R.bind_ok hq
        have e4 : r = (.sl q.1 0 (n + k) (n + k) (Nat.succ s.nc), q.2) := (R.ok.inj hqq).symm
        rw [e4]
        -- the memory without the old name
        have hget : ∀ m, (Mm.put none s.mem b).get m = if m = b then none else s.mem.get m := fun m => Mm.get_put none s.mem b m (by unfold topName at hbt'; omega)
        let s0 : St := { s with mem := Mm.put none s.mem b }
        have hsub : ∀ m ab, s0.ms.g m = some ab → s.ms.g m = some ab := by
          intro m ab hm
          change (Mm.put none s.mem b).get m = some ab at hm
          rw [hget] at hm
          split at hm
          · cases hm
          · exact hm
        have hd0 : Ds G σ s0.ms w := hd.sub hsub rfl rfl
        have hx0 : ∀ {σ' : Sg} {M' : MS} {w' : World}, Ex σ s0.ms w σ' M' w' → Ex σ s.ms w σ' M' w' := by
          intro σ' M' w' x
          exact ⟨x.bl, x.cp, x.sy, x.nx, x.nc, fun m hm => (x.im m hm).imp id (Im.sub hsub), x.chg.mono fun m _ hm => Im.sub hsub hm⟩
        by_cases hκn : n + k ≤ κ
        · -- in place
          obtain ⟨e0, hce, hκe⟩ : ∃ e0, σ.cp j = some e0 ∧ κ = cc + e0 := by
            rcases hκ with ⟨e, _⟩ | ⟨j', q', e, h8, h9⟩
            · omega
            · obtain rfl : j = j' := by omega
              exact ⟨q', h8, h9⟩
          obtain ⟨p', hp', ob, hob, cA, tA, fr, rfl, hfr, lA, xA, hlA, hXt, hszA, hcA⟩ := hd.blk _ _ hg
          rw [hp] at hp'; cases hp'
          have hxA : xA = e0 * i.size := by
            rcases hXt with ⟨e, _⟩ | ⟨j', q', e, h8, h9⟩
            · omega
            · obtain rfl : j = j' := by omega
              rw [hce] at h8; cases h8; rw [h9, c2']
          have hlenA := Cs_length _ _ hlA
          rw [c3'] at hlenA
          have hmul : (n + k) * i.size ≤ cc * i.size + e0 * i.size := by rw [← Nat.add_mul]; exact Nat.mul_le_mul_right _ (by omega)
          have hnk : n * i.size + k * i.size = (n + k) * i.size := (Nat.add_mul n k i.size).symm
          have hin : p.2 + (o' + n * i.size) + l.length ≤ cA.size := by omega
          have hth := there_of_get hob hfr (o := p.2 + (o' + n * i.size)) (n := l.length) hin
          have h1' := onesA_ok _ _ hone f2
          have hst := run_storeCells_cells (P := P) p.1 (p.2 + (o' + n * i.size)) l 0 w (fun j hj => by simpa using (hth j hj).1) (fun j hj => by simpa using (hth j hj).2) h1'
          simp only [Nat.add_zero] at hst
          have hrun := run_append_in (rt := o.type) (base := some ⟨p.1, p.2 + o', none⟩) (n := n) (κ := κ) ht hty hn' hi hk f1 hκn
          dsimp only at hrun
          rw [addr_add, show p.2 + o' + n * i.size = p.2 + (o' + n * i.size) by omega, hst, Result.andThen_ok] at hrun
          -- the new name
          obtain ⟨d1, x1⟩ := hd.setC (κ - (n + k))
          have hlo : ∀ m v, lo[m]? = some v → cA[p.2 + o' + m]? = some v := by
            intro m v hv
            unfold ldc at h6
            rw [hg] at h6
            obtain ⟨h6a, h6b⟩ := csub_ok hlA h6
            have : lo = (lA.drop o').take (n * i.size) := by
              have r1 := k3 w rfl
              have r2 := run_loadCells_list (P := P) w ⟨p.1, p.2 + o', none⟩ ((lA.drop o').take (n * i.size)) (fun m' v' hv' => by
                rw [Addr.add_mid]
                simp only [World.cell?, hob, Option.isSome_none, Bool.false_eq_true, if_false]
                rw [List.getElem?_take] at hv'
                split at hv'
                · rw [List.getElem?_drop] at hv'; rw [Nat.add_assoc]; exact hcA _ _ hv'
                · cases hv')
              rw [List.length_take, List.length_drop, Nat.min_eq_left (by rw [Nat.mul_eq] at h6a; omega)] at r2
              rw [Nat.mul_eq, r2] at r1
              have : (lA.drop o' |>.take (n * i.size)).toArray = lo.toArray := by injection r1
              simpa using this.symm
            rw [this, List.getElem?_take] at hv
            split at hv
            · rw [List.getElem?_drop] at hv; rw [Nat.add_assoc]; exact hcA _ _ hv
            · cases hv
          have hnew := heap_setCells_fr p.1 tA fr l (p.2 + (o' + n * i.size)) w cA.toList (by rw [Array.toArray_toList]; exact hob) (by rw [Array.length_toList]; exact hin)
          have hbd : BD ((σ.setC s.nc (κ - (n + k))).set s.nx (p.1, p.2 + o')) (p.1, p.2 + o') (.cells (capp old new) (Nat.succ s.nc) i.size) (w.setCells p.1 (p.2 + (o' + n * i.size)) l) := by
            have hLn : (splice cA.toList (p.2 + (o' + n * i.size)) l).length = cA.size := by
              simp only [splice, List.length_append, List.length_take, List.length_drop, Array.length_toList]; omega
            refine ⟨_, hnew, _, tA, fr, rfl, ?_, lo ++ l, (κ - (n + k)) * i.size, Cs_mono (Sg.le_trans (x1.le hd) (Sg.le_set (d1.fresh _ (Nat.le_refl _)))) _ _ hall, .inr ⟨s.nc, _, rfl, setC_at _ _ _, rfl⟩, ?_, ?_⟩
            · rcases hfr with h0 | h0
              · exact .inl h0
              · right; rw [List.size_toArray, hLn]; exact h0
            · rw [List.size_toArray, hLn, hlen]
              have : (n + k) * i.size + (κ - (n + k)) * i.size = κ * i.size := by rw [← Nat.add_mul]; congr 1; omega
              have h9 : κ * i.size = cc * i.size + e0 * i.size := by rw [hκe, Nat.add_mul]
              show p.2 + o' + (n + k) * i.size + (κ - (n + k)) * i.size ≤ cA.size
              omega
            · intro m v hv
              show (splice cA.toList (p.2 + (o' + n * i.size)) l).toArray[p.2 + o' + m]? = some v
              rw [List.getElem?_toArray, splice_get (by rw [Array.length_toList]; exact hin)]
              rw [Nat.mul_eq] at k2
              rcases Nat.lt_or_ge m lo.length with hm | hm
              · rw [List.getElem?_append_left hm] at hv
                rw [if_pos (by omega), Array.getElem?_toList]
                exact hlo m v hv
              · rw [List.getElem?_append_right hm] at hv
                have hm2 := (List.getElem?_eq_some_iff.1 hv).1
                rw [if_neg (by omega), if_pos (by omega), show p.2 + o' + m - (p.2 + (o' + n * i.size)) = m - lo.length by omega]
                exact hv
          obtain ⟨d2, x2⟩ := d1.take (nm := s.nx) hg hp rfl ((Chg.refl (fun k => k = p.1) w).setCells (p := p.1) (fun _ => rfl) _ _) hbd
          unfold St.push at h7
          split at h7
          case h_2 => cases h7
          rename_i hx7
          have hx7' : s.nx ≤ topName := Nat.le_of_ble_eq_true hx7
          cases h7
          have hms : (⟨Mm.put (some (.cells (capp old new) (Nat.succ s.nc) i.size)) (Mm.put none s.mem b) s.nx, Nat.succ s.nx, Nat.succ s.nc⟩ : St).ms = ⟨fun m => if m = s.nx then some (.cells (capp old new) (Nat.succ s.nc) i.size) else if m = b then none else s.mem.get m, s.nx + 1, s.nc + 1⟩ := by
            unfold St.ms
            congr 1
            funext m
            rw [Mm.get_put _ _ s.nx m (by unfold topName at hx7'; omega), hget]
          refine ⟨_, _, _, .inl (run_v hrun), ?_, by rw [hms]; exact d2, by rw [hms]; exact x1.trans x2⟩
          simp only [V]
          exact ⟨(p.1, p.2 + o'), κ, if_pos rfl, rfl, .inr ⟨s.nc, κ - (n + k), rfl, setC_at _ _ _, by show κ = n + k + (κ - (n + k)); omega⟩⟩
        · -- a new row
          obtain ⟨e', hrun⟩ := run_append_grow (rt := o.type) (base := some ⟨p.1, p.2 + o', none⟩) (n := n) (κ := κ) ht hty hn' hi hk hf (hfo κ) hz (by omega) b1' b2'
          obtain ⟨σ', g1, g2, g3⟩ := grown_ok (s := s0) (e := e) hd0 hall z3 hlen e' h7
          exact ⟨σ', _, _, .inl (run_v hrun), g1, g2, hx0 g3⟩
end
end Go.Proofs.YtocabeobfbhajaaGreatDoor.Sx
