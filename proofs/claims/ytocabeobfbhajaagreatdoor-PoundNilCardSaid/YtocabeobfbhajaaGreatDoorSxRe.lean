/- A region that draws its order: the reckoner's answer holds. No program is named here. -/
import Derived.Test.YtocabeobfbhajaaGreatDoorSxRd
set_option linter.unusedVariables false
set_option linter.unusedSimpArgs false
namespace Go.Proofs.YtocabeobfbhajaaGreatDoor.Sx
noncomputable section
open Go Go.RowKit

theorem effA_ok {ro : Option Nat} {E : Env} (ok : EnvOK E) {call : CallR} (hc : CallOK E call) {T : Tm} {s s' : St} {o : Oper} {v : AV} (h : effA E call T s o.op = .ok (v, s')) {σ : Sg} {w : World} {a : Act} (hd : Ds E.G σ s.ms w)
    (d : ∀ y ∈ o.op.operands, Od E.G σ (tget T) a y) (Q : Exit → Act → World → Prop) :
    o.wpIn (Wd ro) 0 E.P a w (fun a' w' => ∃ σ' x, a' = a.put o.dst x ∧ V σ' v x ∧ Ds E.G σ' s'.ms w' ∧ Ex σ s.ms w σ' s'.ms w') Q := by
  unfold effA at h
  split at h
  · obtain ⟨σ', z, w', g1, g2, g3, g4⟩ := sev_ok h hd d
    rcases g1 with g1 | ⟨g1, rfl⟩
    · refine wpW_value g1 ?_
      exact ⟨σ', z, rfl, g2, g3, g4⟩
    · refine wpW_skip g1 ?_
      exact ⟨σ', undef, rfl, g2, g3, g4⟩
  · split at h
    case h_2 => cases h
    rename_i c hop
    obtain ⟨q, h1, h2⟩ := R.bind_ok h
    obtain ⟨rr, h3, h4⟩ := R.bind_ok h2
    obtain ⟨e, s1⟩ := rr
    obtain ⟨g, vs⟩ := q
    obtain ⟨xs, m, k1, k3, k2⟩ := cev_ok (P := E.P) hop h1 d w
    cases e with
    | pan v => cases h4
    | ret v1 =>
      cases h4
      exact callOp_ok ok hc h3 hd k2 hop k1 k3 (fun v' σ' x w' he g2 g3 g4 => by cases he; exact ⟨σ', x, rfl, g2, g3, g4⟩) (fun v' σ' x w' he g2 g3 g4 => by cases he)
  · cases h

section
variable {E : Env} {call : CallR} {nt : Nat} {all : List Oper} {c : Nat} {ms : List Nat} {f : Nat → X} {T : Tm} {s : St}
theorem apart_ok (hm : mks all [] = .ok ms) (ha : apt all all ms [] = true) {i j : Nat} {oi oj : Oper} (hij : i < j) (hi : all[i]? = some oi) (hj : all[j]? = some oj) :
    bfm ms j i = true ∨ (Nat.land (dsB oi.dst 0) (Nat.lor (rdB all oj) (dsB oj.dst 0)) = 0 ∧ Nat.land (dsB oj.dst 0) (rdB all oi) = 0) := by
  obtain ⟨m, h1, _⟩ := mks_at hm hj
  rw [bfm_of h1]
  cases hb : bit m i with
  | true => exact .inl rfl
  | false => exact .inr (apt_ok all ms [] ha j oj m hj h1 i oi (by simpa using hij) (by simpa using hi) hb)
theorem dsB_self {d : Option Tmp} {t : Nat} (h : d = some t) : bit (dsB d 0) t = true := (dsB_bit d 0 t).2 (.inr h)
theorem drw_run {ro : Option Nat} (ok : EnvOK E) (hc : CallOK E call) (hn : nt ≤ topTmp) (hm : mks all [] = .ok ms) (ha : apt all all ms [] = true) (hN : c + all.length ≤ topName) (q : Seq E call nt all c ms T s f)
    (hno : noS c (withK ((f all.length).k + 1) (f all.length).pend (f all.length).fld) (f all.length).Ss = true) (hrd : rdc E c ms (withK ((f all.length).k + 1) (f all.length).pend (f all.length).fld) (f all.length).efs (f all.length).Ss (f all.length).rds = true)
    {ops : Array Oper} (hall : ops.toList = all) (Q : Exit → Act → World → Prop) (df : List Deferred) :
    Nonempty (Run ro E.G E.P ops Q c nt all.length (f all.length).k df (bfm ms) (fun i t => ∃ o, all[i]? = some o ∧ bit (rdB all o) t = true) (fun i => (all[i]?).bind (·.dst)) (kdF f) (fun i => (f (i + 1)).v) (tget T) (fun k => (Sf f all.length s k).ms) (fun i => (f i).k) (flf f all.length)) := by
  have hget : ∀ i, all[i]? = ops[i]? := fun i => by rw [← hall, Array.getElem?_toList]
  have F := FI_ok hm q all.length (Nat.le_refl _)
  have hstep : ∀ i o, ops[i]? = some o → i < all.length ∧ ∃ m, ms[i]? = some m ∧ Step E call nt all c (c + all.length) m o (f i) (f (i + 1)) := fun i o h => by
    rw [← hget] at h
    exact ⟨(List.getElem?_eq_some_iff.1 h).1, q.step i o h⟩
  have hex : ∀ i, i < all.length → ∃ o, ops[i]? = some o ∧ all[i]? = some o := fun i h => ⟨all[i], by rw [← hget]; exact List.getElem?_eq_getElem h, List.getElem?_eq_getElem h⟩
  have hOd : ∀ i o, ops[i]? = some o → ∀ (σ : Sg) (a : Act), (∀ t, (∃ o, all[i]? = some o ∧ bit (rdB all o) t = true) → V σ (tf (fun _ => true) (tget T) (fun i => (all[i]?).bind (·.dst)) (fun i => (f (i + 1)).v) i t) (a.tmps.getD t undef)) → (∀ g, g < E.G → σ.bl g = some (g, 0)) →
      ∀ y ∈ o.op.operands, Od E.G σ (tget (f i).T) a y := fun i o ho σ a hv hg y hy => by
    refine ⟨fun t e => ?_, hg⟩
    subst e
    rw [tf_T hn q i (Nat.le_of_lt (hstep i o ho).1)]
    exact hv t ⟨o, by rw [hget]; exact ho, rdB_bit.2 (.inl hy)⟩
  refine ⟨?_⟩
  refine { size := ?_, dst_eq := ?_, dst_lt := ?_, on_lt := ?_, before := ?_, apart1 := ?_, apart2 := ?_, apart3 := ?_, effs := ?_, ke_lt := ?_, ke_mono := ?_, ke_all := ?_, nx := ?_, noS := ?_, flush := ?_, fl_pos := ?_, wanted := ?_, skip := ?_, pure := ?_, alloc := ?_, read := ?_, eff := ?_ }
  · rw [← hall]; simp
  · intro i o h; simp only [hget, h]; rfl
  · intro i t hi hd
    obtain ⟨o, ho, ho'⟩ := hex i hi
    obtain ⟨_, m, _, sp⟩ := hstep i o ho
    simp only [ho'] at hd
    exact (putA_ok hn sp.put).2 t hd
  · intro i o ho e he hb
    exact mks_on hm (by rw [hget]; exact ho) e he hb
  · intro D hcl j o ho hD i hb
    exact bfm_before hm hall D hcl j o ho hD i hb
  · intro i j t hij hj hd hr
    obtain ⟨oi, _, hi'⟩ := hex i (by omega)
    obtain ⟨oj, hj', hr⟩ := hr
    rcases apart_ok hm ha hij hi' hj' with h | ⟨h1, h2⟩
    · exact h
    · simp only [hi'] at hd
      exact (bit_and h1 (dsB_self hd) (by rw [bit_or, hr]; rfl)).elim
  · intro i j t hij hj hd hr
    obtain ⟨oi, hi', hr⟩ := hr
    obtain ⟨oj, _, hj'⟩ := hex j hj
    rcases apart_ok hm ha hij hi' hj' with h | ⟨h1, h2⟩
    · exact h
    · simp only [hj'] at hd
      exact (bit_and h2 (dsB_self hd) hr).elim
  · intro i j t hij hj hd hr
    obtain ⟨oi, _, hi'⟩ := hex i (by omega)
    obtain ⟨oj, _, hj'⟩ := hex j hj
    rcases apart_ok hm ha hij hi' hj' with h | ⟨h1, h2⟩
    · exact h
    · simp only [hi'] at hd
      simp only [hj'] at hr
      change oi.dst = some t at hd
      change oj.dst = some t at hr
      exact (bit_and h1 (dsB_self hd) (by rw [bit_or, dsB_self hr, Bool.or_true])).elim
  · intro i j hij hj hi' hj'
    exact F.efc i j hij hj hi' hj'
  · intro i hi h; exact F.efk i hi h
  · intro i j hij hj h h'; exact (FI_ok hm q j (by omega)).efk i hij h
  · intro k hk; exact F.eka k hk
  · intro k hk
    exact F.nx k _ (Sf_mem hm q hk)
  · intro k i ab hk hi hka hkf
    exact noS_ok hno k _ (Sf_mem hm q hk) i ab _ ((al_iff hm q).2 ⟨hi, hka, rfl⟩) hkf
  · intro i ab j hi hka hj hkj hfl
    rcases fl_cases hm q hi hka with ⟨e, g1, g2, g3, g4, g5⟩ | ⟨g1, g2⟩
    · obtain rfl : e = j := ke_inj hm q g1 hj g2 hkj (by omega)
      exact g3
    · have := F.efk j hj hkj
      omega
  · intro i ab hi hka
    rcases fl_cases hm q hi hka with ⟨e, g1, g2, g3, g4, g5⟩ | ⟨g1, g2⟩ <;> omega
  · intro i o ho σ a hs hv
    obtain ⟨hi, m, _, sp⟩ := hstep i o ho
    obtain ⟨b, hb1, hb2⟩ := sp.want
    rw [wantA_ok (σ := σ) (a := a) hall hb1 (fun t ht => by
      rw [tf_T hn q i (Nat.le_of_lt hi)]
      exact hv t ⟨o, by rw [hget]; exact ho, rdB_bit.2 (.inr ht)⟩)]
    exact hb2
  · intro i hi hk
    obtain ⟨o, ho, _⟩ := hex i hi
    obtain ⟨_, m, _, sp⟩ := hstep i o ho
    have hk' : (f (i + 1)).kd = .skip := hk
    rcases sp.what with ⟨_, hw⟩ | lo
    · rcases hw with ⟨_, h, _⟩ | ⟨h, _⟩ | ⟨ab, h, _⟩ | ⟨h, _⟩
      · exact h
      · rw [hk'] at h; cases h
      · rw [hk'] at h; cases h
      · rw [hk'] at h; cases h
    · have := lo.kd; rw [hk'] at this; cases this
  · intro i o ho hk σ a w hv hg
    obtain ⟨_, m, _, sp⟩ := hstep i o ho
    have hk' : (f (i + 1)).kd = .pure := hk
    rcases sp.what with ⟨_, hw⟩ | lo
    · rcases hw with ⟨h, _⟩ | ⟨h, h2, _⟩ | ⟨ab, h, _⟩ | ⟨h, _⟩
      · rw [hk'] at h; cases h
      · exact pev_ok h2 (hOd i o ho σ a hv hg) w
      · rw [hk'] at h; cases h
      · rw [hk'] at h; cases h
    · have := lo.kd; rw [hk'] at this; cases this
  · intro i o ab ho hk σ a w hv hg hnone
    obtain ⟨hi, m, _, sp⟩ := hstep i o ho
    have hk' : (f (i + 1)).kd = .alloc ab := hk
    rcases sp.what with ⟨_, hw⟩ | lo
    · rcases hw with ⟨h, _⟩ | ⟨h, h2, _⟩ | ⟨ab', h, h2, _⟩ | ⟨h, _⟩
      · rw [hk'] at h; cases h
      · rw [hk'] at h; cases h
      · rw [hk'] at h; cases h
        rw [(FI_ok hm q i (by omega)).idx] at h2
        exact aev_ok h2 (hOd i o ho σ a hv hg) w hnone
      · rw [hk'] at h; cases h
    · have := lo.kd; rw [hk'] at this; cases this
  · intro i o ho hk k hkm hlo hhi σ a w hds hv
    obtain ⟨hi, m, hmi, sp⟩ := hstep i o ho
    have hk' : (f (i + 1)).kd = .read := hk
    have hbf : ∀ j, bfm ms i j = bit m j := fun j => bfm_of hmi
    have hoa : all[i]? = some o := by rw [hget]; exact ho
    rcases sp.what with ⟨_, hw⟩ | lo
    · rcases hw with ⟨h, _⟩ | ⟨h, h2, _⟩ | ⟨ab', h, h2, _⟩ | ⟨h, h2, _⟩
      · rw [hk'] at h; cases h
      · rw [hk'] at h; cases h
      · rw [hk'] at h; cases h
      by_cases hkk : k = (f i).k
      · subst hkk
        have hst : Sf f all.length s (f i).k = (f i).S := Sf_eq hm q (Nat.le_of_lt hi) (FI_ok hm q i (Nat.le_of_lt hi)).cur
        have hfl := flush_ms (c := c) (N := all.length) hN (kd := kdF f) (p := fun j => (f i).k < flf f all.length j ∧ bfm ms i j = true) (l := bef m (f i).pend) (f i).S (fun j ab => by
          rw [mem_bef, pend_iff hm q (Nat.le_of_lt hi)]
          constructor
          · rintro ⟨⟨h1, h2, h3⟩, h4⟩; exact ⟨by omega, h2, h3, by rw [hbf]; exact h4⟩
          · rintro ⟨h1, h2, h3, h4⟩
            exact ⟨⟨bfm_lt hm h4, h2, h3⟩, by rw [← hbf]; exact h4⟩)
        have hds' : Ds E.G σ (flush c (bef m (f i).pend) (f i).S).ms w := by
          rw [hfl, ← hst]; exact hds
        exact lev_ok h2 hds' (hOd i o ho σ a hv hds.glob)
      · have hr := F.rds i o hi hk hoa
        have hlev := rdc_ok hrd _ hr k _ m hmi (Sf_mem hm q hkm) hkk (winA_ok fun e κ he => by
          obtain ⟨he1, he2, rfl⟩ := (F.efs e κ).1 he
          exact ⟨fun hb => hlo e he1 he2 (by rw [hbf]; exact hb), fun hb => hhi e he1 he2 hb⟩)
        have hfl := flush_ms (c := c) (N := all.length) hN (kd := kdF f) (p := fun j => k < flf f all.length j ∧ bfm ms i j = true) (l := selA k m (withK ((f all.length).k + 1) (f all.length).pend (f all.length).fld)) (Sf f all.length s k) (fun j ab => by
          rw [mem_selA]
          constructor
          · rintro ⟨φ, h1, h2, h3⟩
            obtain ⟨g1, g2, rfl⟩ := (al_iff hm q).1 h1
            exact ⟨g1, g2, h2, by rw [hbf]; exact h3⟩
          · rintro ⟨h1, h2, h3, h4⟩
            exact ⟨_, (al_iff hm q).2 ⟨h1, h2, rfl⟩, h3, by rw [← hbf]; exact h4⟩)
        have hds' : Ds E.G σ (flush c (selA k m (withK ((f all.length).k + 1) (f all.length).pend (f all.length).fld)) (Sf f all.length s k)).ms w := by
          rw [hfl]; exact hds
        exact lev_ok hlev hds' (hOd i o ho σ a hv hds.glob)
    · have := lo.kd; rw [hk'] at this; cases this
  · intro i o ho hk σ a w hdf hds hv
    obtain ⟨hi, m, hmi, sp⟩ := hstep i o ho
    have hk' : (f (i + 1)).kd = .eff := hk
    have hbf : ∀ j, bfm ms i j = bit m j := fun j => bfm_of hmi
    rcases sp.what with ⟨_, hw⟩ | lo
    · rcases hw with ⟨h, _⟩ | ⟨h, h2, _⟩ | ⟨ab', h, h2, _⟩ | ⟨h, h2, _⟩ <;> (rw [hk'] at h; cases h)
    · have hst : Sf f all.length s (f i).k = (f i).S := Sf_eq hm q (Nat.le_of_lt hi) (FI_ok hm q i (Nat.le_of_lt hi)).cur
      have hst' : Sf f all.length s ((f i).k + 1) = (f (i + 1)).S := by
        have := Sf_eq hm q hi (FI_ok hm q (i + 1) hi).cur
        rwa [lo.k] at this
      have hfl := flush_ms (c := c) (N := all.length) hN (kd := kdF f) (p := fun j => flf f all.length j = (f i).k + 1) (l := bef m (f i).pend) (f i).S (fun j ab => by
        rw [mem_bef, pend_iff hm q (Nat.le_of_lt hi)]
        constructor
        · rintro ⟨⟨h1, h2, h3⟩, h4⟩
          refine ⟨by omega, h2, ?_⟩
          rcases fl_cases hm q (by omega) h2 with ⟨e, g1, g2, g3, g4, g5⟩ | ⟨g1, g2⟩
          · rw [g4]
            have e1 : i ≤ e := by
              rcases Nat.lt_or_ge e i with h | h
              · have := (FI_ok hm q i (Nat.le_of_lt hi)).efk e h g2; omega
              · exact h
            have e2 : e ≤ i := by
              rcases Nat.lt_or_ge i e with h | h
              · have := g5 i h hk
                rw [hbf, h4] at this; cases this
              · exact h
            rw [show e = i by omega]
          · have := g2 i hi hk
            rw [hbf, h4] at this; cases this
        · rintro ⟨h1, h2, h3⟩
          have hb : bfm ms i j = true := by
            rcases fl_cases hm q h1 h2 with ⟨e, g1, g2, g3, g4, g5⟩ | ⟨g1, g2⟩
            · obtain rfl : e = i := ke_inj hm q g1 hi g2 hk (by omega)
              exact g3
            · have := F.efk i hi hk
              omega
          exact ⟨⟨bfm_lt hm hb, h2, by omega⟩, by rw [← hbf]; exact hb⟩)
      have hds' : Ds E.G σ (flush c (bef m (f i).pend) (f i).S).ms w := by
        rw [hfl, ← hst]; exact hds
      have := effA_ok (ro := ro) ok hc lo.eff hds' (hOd i o ho σ a hv hds.glob) Q
      refine Oper.wpIn_mono (fun a' w' hp => ?_) this
      obtain ⟨σ', x, g1, g2, g3, g4⟩ := hp
      refine ⟨σ', x, g1, g2, by rw [hst']; exact g3, ?_⟩
      rw [hst']
      rw [hfl, ← hst] at g4
      exact g4
end
theorem drwA_ok {E : Env} (ok : EnvOK E) {call : CallR} (hc : CallOK E call) : DrwOK E call (drwA E) := by
  intro ro nt ops id T ds s r hn h σ a w hd ht hds
  unfold drwA at h
  obtain ⟨ms, hm, h1⟩ := R.bind_ok h
  obtain ⟨ha, h2⟩ := R.iff_ok h1
  obtain ⟨hN, h3⟩ := R.iff_ok h2
  obtain ⟨x, hx, h4⟩ := R.bind_ok h3
  obtain ⟨hno, h5⟩ := R.iff_ok h4
  obtain ⟨hrd, h6⟩ := R.iff_ok h5
  cases h6
  clear h h1 h2 h3 h4 h5
  have hN' : s.nx + ops.toList.length ≤ topName := Nat.le_of_ble_eq_true hN
  have hsz : ops.toList.length = ops.size := by simp
  obtain ⟨f, f0, fN, fs⟩ := goA_ok _ _ _ _ hx
  have q : Seq E call nt ops.toList s.nx ms T { s with nx := Nat.add s.nx ops.toList.length } f := by
    refine ⟨?_, ?_, ?_, ?_, ?_, ?_, ?_, ?_, ?_, Nat.le_refl _, fs⟩ <;> rw [f0]
  subst fN
  obtain ⟨rr⟩ := drw_run (ro := ro) ok hc hn hm ha hN' q hno hrd rfl (PX E σ s.ms w nt (.normal, (f ops.toList.length).T, ds, flush s.nx (f ops.toList.length).pend (f ops.toList.length).S)) a.defers
  have F := FI_ok hm q ops.toList.length (Nat.le_refl _)
  have hs0 : Sf f ops.toList.length { s with nx := Nat.add s.nx ops.toList.length } 0 = { s with nx := Nat.add s.nx ops.toList.length } := by
    refine Sf_eq hm q (i := 0) (Nat.zero_le _) ?_
    rw [q.Ss0]; exact List.mem_cons_self
  have hdr : Ds E.G σ s.ms { w with drawn := w.drawn + 1 } := hd.drew
  have hd0 : Ds E.G σ (MS.mk s.mem.get (s.nx + ops.toList.length) s.nc) { w with drawn := w.drawn + 1 } :=
    ⟨hdr.blk, hdr.inj, fun n hn => hdr.fresh n (Nat.le_trans (Nat.le_add_right _ _) hn), hdr.freshC, hdr.glob⟩
  have hxs : ∀ k, xs s.nx ops.toList.length (kdF f) (fun i => false && decide (k < flf f ops.toList.length i)) = fun _ => none := by
    intro k
    funext n
    unfold xs
    simp
  refine wpIn_region_any ok.mixed (run_any (σ₀ := σ) (M₀ := s.ms) (w₀ := { w with drawn := w.drawn + 1 }) rr ?_ ops.size (Array.replicate ops.size false) 0 σ a _ (by simp) (Nat.zero_le _) ?_ ?_ ?_)
  · -- the end
    intro σ' a' w' v
    refine ⟨σ', ?_, ?_, ?_, rfl, ?_⟩
    · have hfl := flush_ms (c := s.nx) (N := ops.toList.length) hN' (kd := kdF f) (p := fun j => (true && decide ((f ops.toList.length).k < flf f ops.toList.length j)) = true) (l := (f ops.toList.length).pend) (f ops.toList.length).S (fun j ab => by
        rw [pend_iff hm q (Nat.le_refl _)]
        simp)
      have hst : Sf f ops.toList.length { s with nx := Nat.add s.nx ops.toList.length } (f ops.toList.length).k = (f ops.toList.length).S := Sf_eq hm q (Nat.le_refl _) F.cur
      have := v.ds
      simp only [hst] at this
      rw [hfl]
      exact this
    · have hfx := flush_nx s.nx (f ops.toList.length).pend (f ops.toList.length).S
      have hst : Sf f ops.toList.length { s with nx := Nat.add s.nx ops.toList.length } (f ops.toList.length).k = (f ops.toList.length).S := Sf_eq hm q (Nat.le_refl _) F.cur
      have hfl := flush_ms (c := s.nx) (N := ops.toList.length) hN' (kd := kdF f) (p := fun j => (true && decide ((f ops.toList.length).k < flf f ops.toList.length j)) = true) (l := (f ops.toList.length).pend) (f ops.toList.length).S (fun j ab => by
        rw [pend_iff hm q (Nat.le_refl _)]
        simp)
      refine (Ex.drew σ s.ms w).trans ⟨v.bl, v.cp, v.le.2.2, ?_, ?_, ?_, v.chg⟩
      · show s.nx ≤ (flush s.nx (f ops.toList.length).pend (f ops.toList.length).S).nx
        rw [hfx.1]
        exact Nat.le_trans (Nat.le_add_right _ _) (F.nx _ _ F.cur)
      · show s.nc ≤ (flush s.nx (f ops.toList.length).pend (f ops.toList.length).S).nc
        rw [hfx.2]
        have := v.nc
        simp only [hst] at this
        exact this
      · intro b hb
        have := v.im b
        simp only [hst] at this
        refine this ?_
        change Im σ' (flush s.nx (f ops.toList.length).pend (f ops.toList.length).S).ms b at hb
        rw [hfl] at hb
        exact hb
    · rw [v.df]; exact DSs_mono v.le _ _ hds
    · have := v.ta
      rw [← tf_T hn q _ (Nat.le_refl _)] at this
      exact this
  · intro j o _ hj
    simp [Array.getD_eq_getD_getElem?, Array.getElem?_replicate] at hj
    split at hj <;> simp at hj
  · exact ⟨List.range ops.size, by simp, fun i hi _ => by simpa [hsz] using hi⟩
  · -- the start
    have hD : (fun i => (Array.replicate ops.size false).getD i false) = fun _ => false := by
      funext i
      simp only [Array.getD_eq_getD_getElem?, Array.getElem?_replicate]
      split <;> rfl
    rw [hD]
    have hplus : ((Sf f ops.toList.length { s with nx := Nat.add s.nx ops.toList.length } 0).ms.plus (xs s.nx ops.toList.length (kdF f) fun i => false && decide (0 < flf f ops.toList.length i))) = MS.mk s.mem.get (s.nx + ops.toList.length) s.nc := by
      rw [hxs 0, hs0]
      rfl
    refine ⟨fun e he hk => by simp, ?_, ?_, rfl, fun i ab hi hk _ => hd.fresh _ (Nat.le_add_right _ _), Sg.le_refl _, fun _ _ => rfl, fun _ _ => rfl, ?_, ?_, Chg.refl _ _⟩
    · rw [hplus]; exact hd0
    · have : ∀ n, tf (fun _ => false) (tget T) (fun i => (ops.toList[i]?).bind (·.dst)) (fun i => (f (i + 1)).v) n = tget T := by
        intro n
        induction n with
        | zero => rfl
        | succ n ih => rw [tf_succ]; simpa using ih
      rw [this]; exact ht
    · show s.nc ≤ (Sf f ops.toList.length { s with nx := Nat.add s.nx ops.toList.length } 0).nc
      rw [hs0]; exact Nat.le_refl _
    · intro b hb
      rw [hplus] at hb
      exact .inr hb
/-- What the reckoner reckons, holds. -/
theorem funA_sound {E : Env} (hrd : E.rd = none) (ok : EnvOK E) (lf n : Nat) : CallOK E (funA E (drwA E) lf n) := funA_ok hrd ok (fun _ hc => drwA_ok ok hc) lf n
end
end Go.Proofs.YtocabeobfbhajaaGreatDoor.Sx
