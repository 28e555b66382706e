/- The reckoner's append, bytes of strings, ranges over maps. No program is named here. -/
import Derived.Test.YtocabeobfbhajaaGreatDoorSxQ
set_option linter.unusedVariables false
set_option linter.unusedSimpArgs false
namespace Go.Proofs.YtocabeobfbhajaaGreatDoor.Sx
noncomputable section
open Go Go.RowKit
variable {P : Program}

/-! ### A new block with room that a draw left -/
def Sg.setC (σ : Sg) (n e : Nat) : Sg := { σ with cp := fun m => if m = n then some e else σ.cp m }
theorem Sg.le_setC {σ : Sg} {n e : Nat} (h : σ.cp n = none) : σ.le (σ.setC n e) :=
  ⟨fun _ _ h => h, fun m q hm => by
    show (if m = n then some e else σ.cp m) = some q
    by_cases e' : m = n
    · subst e'; rw [h] at hm; cases hm
    · rw [if_neg e']; exact hm, rfl⟩
/-- One more draw is known. -/
theorem Ds.setC {G : Nat} {σ : Sg} {s : St} {w : World} (d : Ds G σ s.ms w) (e : Nat) : Ds G (σ.setC s.nc e) ({ s with nc := Nat.succ s.nc } : St).ms w ∧ Ex σ s.ms w (σ.setC s.nc e) ({ s with nc := Nat.succ s.nc } : St).ms w := by
  have hle := Sg.le_setC (e := e) (d.freshC s.nc (Nat.le_refl _))
  refine ⟨⟨fun n ab h => ?_, d.inj, d.fresh, fun n hn => ?_, d.glob⟩, ⟨fun _ _ => rfl, fun n hn => ?_, rfl, Nat.le_refl _, Nat.le_succ _, fun k h => .inr h, Chg.refl _ _⟩⟩
  · obtain ⟨p, hp, ob, ho, hb⟩ := d.blk n ab h
    exact ⟨p, hp, ob, ho, BO_mono hle hb⟩
  · have : n ≠ s.nc := by rintro rfl; exact absurd hn (Nat.not_succ_le_self _)
    show (if n = s.nc then some e else σ.cp n) = none
    rw [if_neg this]
    exact d.freshC n (Nat.le_of_succ_le hn)
  · have : n ≠ s.nc := by rintro rfl; exact absurd hn (Nat.lt_irrefl _)
    exact if_neg this
theorem setC_at (σ : Sg) (n e : Nat) : (σ.setC n e).cp n = some e := if_pos rfl

/-! ### append -/
/-- append(nil, make(..)...): slices.Grow. -/
noncomputable def appZ (G : Nat) (P : Program) (T : Tm) (s : St) (x y : Operand) (e : TypeId) : R (AV × St) := match P.info? e with
  | none => .no 338
  | some i => (zCs P e i.size).bind fun z => (opd G T x).bind fun x => (opd G T y).bind fun y => (idxA y).bind fun k =>
    match Nat.ble (Nat.mul (Nat.mul 2 k) i.bytes) 281474976710656, Nat.ble k 4611686018427387904, x with
    | true, true, .ns => match k with
      | 0 => .ok (.ns, s)
      | k + 1 => ({ s with nc := Nat.succ s.nc } : St).push (.cells (repZ (Nat.succ k) z) (Nat.succ s.nc) i.size) |>.bind fun q => .ok (.sl q.1 0 (Nat.succ k) (Nat.succ k) (Nat.succ s.nc), q.2)
    | _, _, _ => .no 339
/-- A slice as append meets it: where its elements lie, how many there are, how much room is surely there, and whether there may be more. -/
noncomputable def appE (G : Nat) (P : Program) (T : Tm) (s : St) (c : Call) : R (AV × St) := match c.args.toList, c.argTypes.toList with
  | [x, y], [t, ty] => match P.underlying t, P.underlying ty with
    | some (.slice e), some (.int _) => appZ G P T s x y e
    | some (.slice e), some _ => match P.info? e with
      | none => .no 331
      | some i => (zCs P e i.size).bind fun _ => (opd G T x).bind fun x => (opd G T y).bind fun y => (lnA x).bind fun n => (lnA y).bind fun k => (fcA s i.size k y).bind fun new =>
        match Nat.ble (Nat.mul (Nat.mul 2 (Nat.add n k)) i.bytes) 281474976710656, Nat.ble (Nat.add n k) 4611686018427387904, Nat.beq (clen new) (Nat.mul k i.size) with
        | true, true, true => match x with
          | .ns => match k with
            | 0 => .ok (.ns, s)
            | k + 1 => ({ s with nc := Nat.succ s.nc } : St).push (.cells new (Nat.succ s.nc) i.size) |>.bind fun q => .ok (.sl q.1 0 (Nat.succ k) (Nat.succ k) (Nat.succ s.nc), q.2)
          | .sl b o n cc xx => match Nat.ble (Nat.add n k) cc with
            | true => (stc s b (Nat.add o (Nat.mul n i.size)) new).bind fun s' => .ok (.sl b o (Nat.add n k) cc xx, s')
            | false => (ldc s b o (Nat.mul n i.size)).bind fun old => match xx with
              | 0 => ({ s with nc := Nat.succ s.nc } : St).push (.cells (capp old new) (Nat.succ s.nc) i.size) |>.bind fun q => .ok (.sl q.1 0 (Nat.add n k) (Nat.add n k) (Nat.succ s.nc), q.2)
              | j + 1 => match s.mem.get b, onesA new, Nat.ble b topName with
                | some (.cells cs ext esz), true, true => match Nat.beq ext (Nat.succ j), Nat.beq esz i.size, Nat.beq (clen cs) (Nat.add o (Nat.mul cc i.size)) with
                  | true, true, true => ({ mem := Mm.put none s.mem b, nx := s.nx, nc := Nat.succ s.nc } : St).push (.cells (capp old new) (Nat.succ s.nc) i.size) |>.bind fun q => .ok (.sl q.1 0 (Nat.add n k) (Nat.add n k) (Nat.succ s.nc), q.2)
                  | _, _, _ => .no 332
                | _, _, _ => .no 333
          | _ => .no 334
        | _, _, _ => .no 335
    | _, _ => .no 336
  | _, _ => .no 337
/-- What the model's append does where there is room. -/
theorem run_append_in {t ty e : TypeId} {rt : TypeId} {i : TypeInfo} {td : TypeDesc} {base : Option Addr} {n κ k : Nat} {y : Value} {w : World} {l : List Value} (ht : P.underlying t = some (.slice e)) (hy : P.underlying ty = some td) (hn : ∀ kk, td ≠ .int kk) (hi : P.info? e = some i)
    (hl : (Builtin.lenOf y).run P w = .ok k w) (hf : (Builtin.firstCells i.size k y).run P w = .ok l.toArray w) (hr : n + k ≤ κ) :
    (Builtin.append_ #[t, ty] rt #[.slice base n κ, y]).run P w = ((match base with | some a => storeCells (a.add (n * i.size)) l | none => pure () : Sem Unit).run P w).andThen fun _ w' => .ok (.slice base (n + k) κ) w' := by
  have hz : (td matches .int _) = false := by cases td <;> first | rfl | exact absurd rfl (hn _)
  unfold Builtin.append_
  simp only [List.getElem?_toArray, List.getElem?_cons_zero, List.getElem?_cons_succ, Sem.run_bind, run_underlying ht, run_underlying hy, Result.andThen_ok, run_sizeOf hi, Sem.run_pure, hl]
  have : (match td with | .int k => true | x => false) = false := by cases td <;> first | rfl | exact absurd rfl (hn _)
  simp only [this, Bool.false_eq_true, if_false, Bool.not_false, if_true]
  rw [Sem.run_bind, hl, Result.andThen_ok, if_pos hr, Sem.run_bind, hf, Result.andThen_ok]
  cases base with
  | none => rfl
  | some a => simp only [Sem.run_bind, Sem.run_pure]
theorem size_zeroCells' (z : Array Value) (n : Nat) : (Builtin.zeroCells z n).size = n * z.size := by simp [Builtin.zeroCells]
theorem run_append_grow {t ty e : TypeId} {rt : TypeId} {i : TypeInfo} {td : TypeDesc} {base : Option Addr} {n κ k : Nat} {y z : Value} {w : World} {l old : List Value} (ht : P.underlying t = some (.slice e)) (hy : P.underlying ty = some td) (hn : ∀ kk, td ≠ .int kk) (hi : P.info? e = some i)
    (hl : (Builtin.lenOf y).run P w = .ok k w) (hf : ∀ w' : World, w'.heap = w.heap → (Builtin.firstCells i.size k y).run P w' = .ok l.toArray w') (ho : ∀ w' : World, w'.heap = w.heap → (Builtin.firstCells i.size n (.slice base n κ)).run P w' = .ok old.toArray w')
    (hz : ∀ w' : World, (zeroValue e).run P w' = .ok z w') (hr : κ < n + k) (hb : 2 * (n + k) * i.bytes ≤ 281474976710656) (hs : n + k ≤ 4611686018427387904) :
    ∃ e', (Builtin.append_ #[t, ty] rt #[.slice base n κ, y]).run P w = .ok (.slice (some ⟨w.heap.size, 0, none⟩) (n + k) (n + k + e')) (w.drew.alloc (.cells (old ++ l ++ (Builtin.zeroCells z.cells e').toList).toArray e)) := by
  have this : (match td with | .int k => true | x => false) = false := by cases td <;> first | rfl | exact absurd rfl (hn _)
  have hcap := le_nextslicecap hr
  have hcap2 := nextslicecap_le hr
  have hbb : ¬ (Builtin.nextslicecap (n + k) κ * i.bytes > 2 ^ 48) := by
    have : Builtin.nextslicecap (n + k) κ * i.bytes ≤ 2 * (n + k) * i.bytes := Nat.mul_le_mul_right _ hcap2
    omega
  have hmax : ¬ (((n + k : Nat) : Int) > IntKind.i64.max ∧ (False ∨ i.bytes = 0)) := by
    have e : IntKind.i64.max = 9223372036854775807 := by decide
    rw [e]; omega
  refine ⟨(w.tape w.drawn (.appendCap (n + k) κ e)) % (2 ^ 63 - (n + k)), ?_⟩
  unfold Builtin.append_
  simp only [List.getElem?_toArray, List.getElem?_cons_zero, List.getElem?_cons_succ, Sem.run_bind, run_underlying ht, run_underlying hy, Result.andThen_ok, run_sizeOf hi, Sem.run_pure]
  simp only [this, Bool.false_eq_true, if_false, Bool.not_false, if_true]
  have hti : ∀ w' : World, (typeInfo e).run P w' = .ok i w' := fun w' => by simp [typeInfo, hi]
  rw [Sem.run_bind, hl, Result.andThen_ok, if_neg (by omega), Sem.run_bind, hti, Result.andThen_ok, if_neg hmax, Sem.run_bind, hti, Result.andThen_ok, if_neg hbb, Sem.run_bind, run_choose]
  simp only [Question.forced, Bool.false_eq_true, if_false, Result.andThen_ok, Question.cut, Sem.run_bind, hti, run_askRoom]
  have hw : ({ w with drawn := w.drawn + 1 } : World) = w.drew := rfl
  rw [hw, ho w.drew rfl, Result.andThen_ok, hf w.drew rfl, Result.andThen_ok, hz, Result.andThen_ok]
  simp only [newRow, Sem.run_bind, run_newObj, Result.andThen_ok, Sem.run_pure]
  congr 3
  · congr 1
    apply Array.ext'
    simp

theorem run_append_zero {t ty e : TypeId} {rt : TypeId} {i : TypeInfo} {kk kk' : IntKind} {k : Nat} {z : Value} {w : World} (ht : P.underlying t = some (.slice e)) (hy : P.underlying ty = some (.int kk)) (hi : P.info? e = some i)
    (hz : ∀ w' : World, (zeroValue e).run P w' = .ok z w') (hzs : z.cells.size = i.size) (hr : 0 < k) (hi0 : 0 < i.size) (hb : 2 * k * i.bytes ≤ 281474976710656) (hs : k ≤ 4611686018427387904) :
    ∃ e', (Builtin.append_ #[t, ty] rt #[.slice none 0 0, .int kk' k]).run P w = .ok (.slice (some ⟨w.heap.size, 0, none⟩) k (k + e')) (w.drew.alloc (.cells ((List.replicate k z.cells.toList).flatten ++ (Builtin.zeroCells z.cells e').toList).toArray e)) := by
  have hcap2 := nextslicecap_le (old := 0) (need := k) (by omega)
  have hbb : ¬ (Builtin.nextslicecap k 0 * i.bytes > 2 ^ 48) := by
    have : Builtin.nextslicecap k 0 * i.bytes ≤ 2 * k * i.bytes := Nat.mul_le_mul_right _ hcap2
    omega
  have wl : IntKind.i64.wrap (k : Int) = k := by rw [← wrapA_eq]; unfold wrapA; simp only [Int.ofNat_eq_natCast]; rw [show Nat.ble k (hiN .i64) = true from Nat.ble_eq_true_of_le (show _ ≤ 9223372036854775807 by omega)]
  have hmax : ¬ (((k : Nat) : Int) > IntKind.i64.max ∧ (True ∨ i.bytes = 0)) := by
    have e : IntKind.i64.max = 9223372036854775807 := by decide
    rw [e]; omega
  have hlb : ¬ ((k : Int) * (i.bytes : Int) > 2 ^ 48) := by
    have h1 : k * i.bytes ≤ 2 * k * i.bytes := Nat.mul_le_mul_right _ (by omega)
    have : ((k * i.bytes : Nat) : Int) ≤ 281474976710656 := Int.ofNat_le.2 (Nat.le_trans h1 hb)
    rw [Int.natCast_mul] at this
    have e2 : (2 : Int) ^ 48 = 281474976710656 := by decide
    rw [e2]
    exact Int.not_lt.2 this
  have hti : ∀ w' : World, (typeInfo e).run P w' = .ok i w' := fun w' => by simp [typeInfo, hi]
  have hks : ¬ (k * i.size = 0) := by
    have := Nat.mul_pos hr hi0
    omega
  refine ⟨(w.tape w.drawn (.appendCap k 0 e)) % (2 ^ 63 - k), ?_⟩
  unfold Builtin.append_
  simp only [List.getElem?_toArray, List.getElem?_cons_zero, List.getElem?_cons_succ, Sem.run_bind, run_underlying ht, run_underlying hy, Result.andThen_ok, run_sizeOf hi, Sem.run_pure, asInt, asIntOf, wl, if_true, hti]
  rw [if_neg (by omega)]
  simp only [Sem.run_bind, hti, Result.andThen_ok]
  rw [if_neg hlb]
  simp only [Sem.run_bind, Sem.run_pure, Result.andThen_ok, Int.toNat_natCast, Nat.zero_add]
  rw [if_neg (by omega)]
  simp only [Sem.run_bind, hti, Result.andThen_ok]
  rw [if_neg hmax]
  simp only [Sem.run_bind, hti, Result.andThen_ok]
  rw [if_neg hbb]
  rw [Sem.run_bind, run_choose]
  simp only [Question.forced, Bool.false_eq_true, if_false, Result.andThen_ok, Question.cut, Sem.run_bind, hti, run_askRoom, Builtin.firstCells, Sem.run_pure, Bool.not_true, if_neg hks, hz]
  have hw : ({ w with drawn := w.drawn + 1 } : World) = w.drew := rfl
  have hrow : Builtin.zeroCells z.cells k = (List.replicate k z.cells.toList).flatten.toArray := zeroRow (by omega)
  simp only [newRow, Sem.run_bind, run_newObj, Result.andThen_ok, Sem.run_pure, hrow, hw]
  congr 3
  congr 1
  apply Array.ext'
  simp
theorem Ds.heap {G : Nat} {σ : Sg} {M : MS} {w w' : World} (d : Ds G σ M w) (h : w'.heap = w.heap) : Ds G σ M w' :=
  ⟨fun n ab e => by obtain ⟨p, hp, ob, ho, hb⟩ := d.blk n ab e; exact ⟨p, hp, ob, by rw [h]; exact ho, hb⟩, d.inj, d.fresh, d.freshC, d.glob⟩
theorem Ex.toDrew {σ σ' : Sg} {M M' : MS} {w w' : World} (e : Ex σ M w.drew σ' M' w') : Ex σ M w σ' M' w' := (Ex.drew σ M w).trans e
/-- A name goes, another one comes for its block, which may have been written. -/
theorem Ds.take {G : Nat} {σ : Sg} {M : MS} {w w' : World} (d : Ds G σ M w) {b nm base : Nat} {ab0 ab : AB} {p : Nat × Nat} (hg : M.g b = some ab0) (hp : σ.bl b = some p) (hnm : nm = M.nx) (hc : Chg (fun k => k = p.1) w w') (hb : BD (σ.set nm (p.1, base)) (p.1, base) ab w') :
    Ds G (σ.set nm (p.1, base)) ⟨fun n => if n = nm then some ab else if n = b then none else M.g n, M.nx + 1, M.nc⟩ w' ∧ Ex σ M w (σ.set nm (p.1, base)) ⟨fun n => if n = nm then some ab else if n = b then none else M.g n, M.nx + 1, M.nc⟩ w' := by
  subst hnm
  have hf : σ.bl M.nx = none := d.fresh _ (Nat.le_refl _)
  have hle : σ.le (σ.set M.nx (p.1, base)) := Sg.le_set hf
  have hnew : (σ.set M.nx (p.1, base)).bl M.nx = some (p.1, base) := if_pos rfl
  have hold : ∀ n, n ≠ M.nx → (σ.set M.nx (p.1, base)).bl n = σ.bl n := fun n hn => if_neg hn
  have hoth : ∀ n ab q, n ≠ b → M.g n = some ab → σ.bl n = some q → q.1 ≠ p.1 := fun n ab q hn h1 h2 => d.inj n b _ _ q p hn h1 hg h2 hp
  refine ⟨⟨?_, ?_, ?_, d.freshC, ?_⟩, ⟨fun n hn => hold n (by omega), fun _ _ => rfl, rfl, Nat.le_succ _, Nat.le_refl _, ?_, hc.mono fun k _ e => ⟨b, ab0, p, hg, hp, e.symm⟩⟩⟩
  · intro n a h
    change (if n = M.nx then some ab else if n = b then none else M.g n) = some a at h
    split at h
    · rename_i e; cases h; subst e; exact ⟨_, hnew, hb⟩
    · rename_i e
      split at h
      · cases h
      · rename_i e2
        obtain ⟨q, hq, ob, ho, hbo⟩ := d.blk n a h
        exact ⟨q, hle.1 _ _ hq, ob, by rw [hc.block q.1 (lt_of_get ho) (hoth n a q e2 h hq)]; exact ho, BO_mono hle hbo⟩
  · intro n k a a' q q' hnk h1 h2 hq hq'
    change (if n = M.nx then some ab else if n = b then none else M.g n) = some a at h1
    change (if k = M.nx then some ab else if k = b then none else M.g k) = some a' at h2
    by_cases e1 : n = M.nx
    · subst e1
      rw [if_neg (Ne.symm hnk)] at h2
      split at h2
      · cases h2
      · rename_i e2
        rw [hnew] at hq; cases hq
        rw [hold k (Ne.symm hnk)] at hq'
        exact fun e => hoth k a' q' e2 h2 hq' e.symm
    · rw [if_neg e1] at h1
      split at h1
      · cases h1
      · rename_i e2
        rw [hold n e1] at hq
        by_cases e3 : k = M.nx
        · subst e3
          rw [hnew] at hq'; cases hq'
          exact hoth n a q e2 h1 hq
        · rw [if_neg e3] at h2
          rw [hold k e3] at hq'
          split at h2
          · cases h2
          · exact d.inj n k a a' q q' hnk h1 h2 hq hq'
  · intro n hn
    rw [hold n (by have : M.nx + 1 ≤ n := hn; omega)]
    exact d.fresh n (Nat.le_of_succ_le hn)
  · intro g hg'
    have := d.glob g hg'
    rw [hold g (by rintro rfl; rw [hf] at this; cases this)]
    exact this
  · rintro k ⟨n, a, q, h, hq, rfl⟩
    change (if n = M.nx then some ab else if n = b then none else M.g n) = some a at h
    split at h
    · rename_i e; subst e
      rw [hnew] at hq; cases hq
      exact .inr ⟨b, ab0, p, hg, hp, rfl⟩
    · rename_i e
      split at h
      · cases h
      · rw [hold n e] at hq
        exact .inr ⟨n, a, q, h, hq, rfl⟩
end
end Go.Proofs.YtocabeobfbhajaaGreatDoor.Sx
