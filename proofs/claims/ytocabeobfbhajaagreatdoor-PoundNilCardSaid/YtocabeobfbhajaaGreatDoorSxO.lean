/- The reckoner's operations that change memory: stores, maps. No program is named here. -/
import Derived.Test.YtocabeobfbhajaaGreatDoorSxN
set_option linter.unusedVariables false
set_option linter.unusedSimpArgs false
namespace Go.Proofs.YtocabeobfbhajaaGreatDoor.Sx
noncomputable section
open Go Go.RowKit
variable {P : Program}

/-- What an operation that changes memory is held to do. -/
def Did (G : Nat) (P : Program) (σ : Sg) (s : St) (w : World) (run : Result Next) (r : AV × St) : Prop :=
  ∃ σ' z w', (run = .ok (.value z) w' ∨ run = .ok .skip w' ∧ z = undef) ∧ V σ' r.1 z ∧ Ds G σ' r.2.ms w' ∧ Ex σ s.ms w σ' r.2.ms w'

/-! ### A new block, at the next name -/
noncomputable def St.push (s : St) (ab : AB) : R (Nat × St) := match Nat.ble s.nx topName with
  | true => .ok (s.nx, { mem := Mm.put (some ab) s.mem s.nx, nx := Nat.succ s.nx, nc := s.nc })
  | false => .no 300
theorem push_ok {G : Nat} {σ : Sg} {s : St} {w : World} {ab : AB} {ob : Obj} {q : Nat × St} (d : Ds G σ s.ms w) (h : s.push ab = .ok q) (hb : BO (σ.set s.nx (w.heap.size, 0)) 0 ab ob) :
    q.1 = s.nx ∧ Ds G (σ.set s.nx (w.heap.size, 0)) q.2.ms (w.alloc ob) ∧ Ex σ s.ms w (σ.set s.nx (w.heap.size, 0)) q.2.ms (w.alloc ob) ∧ σ.le (σ.set s.nx (w.heap.size, 0)) ∧ (σ.set s.nx (w.heap.size, 0)).bl s.nx = some (w.heap.size, 0) := by
  unfold St.push at h
  split at h
  case h_2 => cases h
  rename_i hx
  have hx' := Nat.le_of_ble_eq_true hx
  cases h
  have hf : σ.bl s.nx = none := d.fresh _ (Nat.le_refl _)
  have d1 : Ds G σ ⟨s.mem.get, s.nx + 1, s.nc⟩ w := ⟨d.blk, d.inj, fun n hn => d.fresh n (Nat.le_of_succ_le (show s.nx + 1 ≤ n from hn)), d.freshC, d.glob⟩
  have hms : (⟨Mm.put (some ab) s.mem s.nx, Nat.succ s.nx, s.nc⟩ : St).ms = (⟨s.mem.get, s.nx + 1, s.nc⟩ : MS).addB s.nx ab := by
    unfold St.ms MS.addB
    congr 1
    funext m
    exact Mm.get_put (some ab) s.mem s.nx m (by unfold topName at hx'; omega)
  have d2 := d1.addB (n := s.nx) (ab := ab) (Nat.lt_succ_self _) hf hb
  obtain ⟨e1, e2, e3⟩ := Ex.addB (ab := ab) d1 ob hf
  refine ⟨rfl, by rw [hms]; exact d2, ⟨fun n hn => e1 n (by have : n < s.nx := hn; omega), fun _ _ => rfl, rfl, by show s.nx ≤ s.nx + 1; omega, Nat.le_refl _, ?_, e3⟩, Sg.le_set hf, if_pos rfl⟩
  intro k hk
  rw [hms] at hk
  exact e2 k hk

/-! ### An object in place of another -/
noncomputable def St.setB (s : St) (b : Nat) (ab : AB) : R St := match Nat.ble b topName with
  | true => .ok { s with mem := Mm.put (some ab) s.mem b }
  | false => .no 301
theorem setB_ok {G : Nat} {σ : Sg} {s s' : St} {w : World} {b : Nat} {ab ab' : AB} {p : Nat × Nat} {ob' : Obj} (d : Ds G σ s.ms w) (hg : s.mem.get b = some ab) (hp : σ.bl b = some p) (h : s.setB b ab' = .ok s') (hb : BO σ p.2 ab' ob') :
    Ds G σ s'.ms { w with heap := w.heap.setIfInBounds p.1 ob' } ∧ Ex σ s.ms w σ s'.ms { w with heap := w.heap.setIfInBounds p.1 ob' } := by
  unfold St.setB at h
  split at h
  case h_2 => cases h
  rename_i hx
  have hx' := Nat.le_of_ble_eq_true hx
  cases h
  have hget : ∀ n, ({ s with mem := Mm.put (some ab') s.mem b } : St).ms.g n = if n = b then some ab' else s.mem.get n := by
    intro n
    show (Mm.put (some ab') s.mem b).get n = _
    rw [Mm.get_put _ s.mem b n (by unfold topName at hx'; omega)]
  obtain ⟨q, hq, ob, ho, _⟩ := d.blk _ _ hg
  rw [hp] at hq; cases hq
  have hlt := lt_of_get ho
  have hh : ∀ k, (w.heap.setIfInBounds p.1 ob')[k]? = if k = p.1 then some ob' else w.heap[k]? := by
    intro k
    rw [Array.getElem?_setIfInBounds]
    by_cases e : p.1 = k
    · subst e; simp [hlt]
    · rw [if_neg e, if_neg (Ne.symm e)]
  refine ⟨⟨?_, ?_, d.fresh, d.freshC, d.glob⟩, ⟨fun _ _ => rfl, fun _ _ => rfl, rfl, Nat.le_refl _, Nat.le_refl _, ?_, ⟨rfl, rfl, rfl, by simp, fun k hk hn => ?_⟩⟩⟩
  · intro n a hn
    rw [hget] at hn
    split at hn
    · rename_i e
      cases hn
      subst e
      exact ⟨p, hp, ob', by rw [hh, if_pos rfl], hb⟩
    · rename_i hnb
      obtain ⟨q, hq, oq, hoq, hbq⟩ := d.blk n a hn
      refine ⟨q, hq, oq, ?_, hbq⟩
      rw [hh, if_neg (fun e => d.inj n b _ _ q p hnb hn hg hq hp e)]
      exact hoq
  · intro n k a a' q q' hnk hn hk hq hq'
    rw [hget] at hn hk
    have hn' : ∃ a, s.mem.get n = some a := by
      split at hn
      · rename_i e; subst e; exact ⟨_, hg⟩
      · exact ⟨_, hn⟩
    have hk' : ∃ a, s.mem.get k = some a := by
      split at hk
      · rename_i e; subst e; exact ⟨_, hg⟩
      · exact ⟨_, hk⟩
    obtain ⟨_, hn'⟩ := hn'
    obtain ⟨_, hk'⟩ := hk'
    exact d.inj n k _ _ q q' hnk hn' hk' hq hq'
  · rintro k ⟨n, a, q, hn, hq, rfl⟩
    rw [hget] at hn
    split at hn
    · rename_i e; subst e; exact .inr ⟨n, _, q, hg, hq, rfl⟩
    · exact .inr ⟨n, a, q, hn, hq, rfl⟩
  · show (w.heap.setIfInBounds p.1 ob')[k]? = _
    rw [hh, if_neg (fun e => hn ⟨b, ab, p, hg, hp, e.symm⟩)]
/-- An object changes, and nothing is said of it any more. -/
noncomputable def St.delB (s : St) (b : Nat) : R St := match Nat.ble b topName with
  | true => .ok { s with mem := Mm.put none s.mem b }
  | false => .no 302
theorem delB_ok {G : Nat} {σ : Sg} {s s' : St} {w : World} {b : Nat} {ab : AB} {p : Nat × Nat} (ob' : Obj) (d : Ds G σ s.ms w) (hg : s.mem.get b = some ab) (hp : σ.bl b = some p) (h : s.delB b = .ok s') :
    Ds G σ s'.ms { w with heap := w.heap.setIfInBounds p.1 ob' } ∧ Ex σ s.ms w σ s'.ms { w with heap := w.heap.setIfInBounds p.1 ob' } := by
  unfold St.delB at h
  split at h
  case h_2 => cases h
  rename_i hx
  have hx' := Nat.le_of_ble_eq_true hx
  cases h
  have hget : ∀ n, ({ s with mem := Mm.put none s.mem b } : St).ms.g n = if n = b then none else s.mem.get n := by
    intro n
    show (Mm.put none s.mem b).get n = _
    rw [Mm.get_put _ s.mem b n (by unfold topName at hx'; omega)]
  have hsub : ∀ n a, ({ s with mem := Mm.put none s.mem b } : St).ms.g n = some a → n ≠ b ∧ s.mem.get n = some a := by
    intro n a hn
    rw [hget] at hn
    split at hn
    · cases hn
    · rename_i e; exact ⟨e, hn⟩
  obtain ⟨q, hq, ob, ho, _⟩ := d.blk _ _ hg
  rw [hp] at hq; cases hq
  have hlt := lt_of_get ho
  have hh : ∀ k, (w.heap.setIfInBounds p.1 ob')[k]? = if k = p.1 then some ob' else w.heap[k]? := by
    intro k
    rw [Array.getElem?_setIfInBounds]
    by_cases e : p.1 = k
    · subst e; simp [hlt]
    · rw [if_neg e, if_neg (Ne.symm e)]
  refine ⟨⟨?_, ?_, d.fresh, d.freshC, d.glob⟩, ⟨fun _ _ => rfl, fun _ _ => rfl, rfl, Nat.le_refl _, Nat.le_refl _, ?_, ⟨rfl, rfl, rfl, by simp, fun k hk hn => ?_⟩⟩⟩
  · intro n a hn
    obtain ⟨hnb, hn⟩ := hsub n a hn
    obtain ⟨q, hq, oq, hoq, hbq⟩ := d.blk n a hn
    refine ⟨q, hq, oq, ?_, hbq⟩
    rw [hh, if_neg (fun e => d.inj n b _ _ q p hnb hn hg hq hp e)]
    exact hoq
  · intro n k a a' q q' hnk hn hk hq hq'
    exact d.inj n k _ _ q q' hnk (hsub n a hn).2 (hsub k a' hk).2 hq hq'
  · rintro k ⟨n, a, q, hn, hq, rfl⟩
    exact .inr ⟨n, a, q, (hsub n a hn).2, hq, rfl⟩
  · show (w.heap.setIfInBounds p.1 ob')[k]? = _
    rw [hh, if_neg (fun e => hn ⟨b, ab, p, hg, hp, e.symm⟩)]
theorem run_setObj_map {r clock : Nat} {l : List MapEntry} {w : World} {ob : Obj} (h : w.heap[r]? = some (.map l.toArray clock)) : (setObj r ob).run P w = .ok () { w with heap := w.heap.setIfInBounds r ob } := by
  simp only [setObj, Sem.run, h]

/-! ### The operations -/
noncomputable def storeE (G : Nat) (P : Program) (T : Tm) (s : St) (t : TypeId) (x v : Operand) : R (AV × St) :=
  (opd G T x).bind fun x => (opd G T v).bind fun v => match x with
    | .ptr b o => (cellsA v).bind fun cs => (szA P t).bind fun n => match Nat.beq (clen cs) n with
      | true => (stc s b o cs).bind fun s' => .ok (.tup [], s')
      | false => .no 302
    | _ => .no 303
theorem run_storeVar {t : TypeId} {n b o : Nat} {v : Value} {w : World} (hn : szA P t = .ok n) (hl : v.cells.size = n) (ht : w.there b o v.cells.toList.length) (h1 : ∀ x ∈ v.cells.toList, x.oneCell' = true) :
    (storeVar t ⟨b, o, none⟩ v).run P w = .ok () (w.setCells b o v.cells.toList) := by
  have := run_storeCells_cells (P := P) b o v.cells.toList 0 w (fun j hj => by simpa using (ht j hj).1) (fun j hj => by simpa using (ht j hj).2) h1
  simp only [Nat.add_zero] at this
  unfold storeVar
  simp only [Sem.run_bind, szA_ok hn, Result.andThen_ok]
  rw [if_neg (by simp [hl])]
  exact this
theorem storeE_ok {G : Nat} {T : Tm} {s : St} {o : Oper} {t : TypeId} {x v : Operand} {r : AV × St} {σ : Sg} {a : Act} {w : World} (ho : o.op = .store t x v) (h : storeE G P T s t x v = .ok r) (hd : Ds G σ s.ms w) (d : ∀ y ∈ o.op.operands, Od G σ (tget T) a y) :
    Did G P σ s w ((execOp a.eval o).run P w) r := by
  rw [ho] at d
  obtain ⟨xv, h1, h⟩ := R.bind_ok h
  obtain ⟨vv, h2, h⟩ := R.bind_ok h
  have hx := opd_ok h1 (d x (by simp [Op.operands]))
  have hv := opd_ok h2 (d v (by simp [Op.operands]))
  split at h
  case h_2 => cases h
  rename_i b o'
  obtain ⟨cs, h3, h⟩ := R.bind_ok h
  obtain ⟨n, h4, h⟩ := R.bind_ok h
  split at h
  case h_2 => cases h
  rename_i hb
  obtain ⟨s', h5, h⟩ := R.bind_ok h
  cases h
  have hcs := cellsA_ok h3 hv
  obtain ⟨p, hp, ht, h1', hds, hex⟩ := stc_ok hd h5 hcs
  simp only [V] at hx
  obtain ⟨q, hq, e⟩ := hx
  rw [hp] at hq; cases hq
  have hlen := Cs_length _ _ hcs
  rw [Array.length_toList] at hlen
  refine ⟨σ, undef, _, .inr ⟨?_, rfl⟩, V_undef σ, hds, hex⟩
  unfold execOp
  simp only [ho, Sem.run_bind, Instr.storeAt, e, Instr.sureAddr, Sem.run_pure, Result.andThen_ok, run_storeVar h4 (hlen.trans (beq_iff.1 hb)) ht h1']
/-- The entry at a place is given another key and value. -/
def setE (k v : AV) : List (AV × AV × Nat) → Nat → List (AV × AV × Nat)
  | [], _ => []
  | e :: r, 0 => (k, v, e.2.2) :: r
  | e :: r, i + 1 => e :: setE k v r i
def delE : List (AV × AV × Nat) → Nat → List (AV × AV × Nat)
  | [], _ => []
  | _ :: r, 0 => r
  | e :: r, i + 1 => e :: delE r i
def pushE (es : List (AV × AV × Nat)) (e : AV × AV × Nat) : List (AV × AV × Nat) := match es with
  | [] => [e]
  | x :: r => x :: pushE r e
theorem pushE_ok {σ : Sg} {k v : AV} {n : Nat} {x y : Value} (hk : V σ k x) (hv : V σ v y) : ∀ (es : List (AV × AV × Nat)) (l : List MapEntry), Es σ es l → Es σ (pushE es (k, v, n)) (l ++ [⟨x, y, n⟩])
  | [], l, h => by simp only [Es] at h; subst h; simp only [pushE, Es, List.nil_append]; exact ⟨x, y, [], rfl, hk, hv, rfl⟩
  | (k', v', b) :: r, l, h => by
    simp only [Es] at h
    obtain ⟨x', y', l', rfl, h1, h2, h3⟩ := h
    simp only [pushE, Es, List.cons_append]
    exact ⟨x', y', _, rfl, h1, h2, pushE_ok hk hv r l' h3⟩
theorem setE_ok {σ : Sg} {k v : AV} {x y : Value} (hk : V σ k x) (hv : V σ v y) : ∀ (es : List (AV × AV × Nat)) (l : List MapEntry) (i : Nat), Es σ es l → Es σ (setE k v es i) (l.modify i fun e => { e with key := x, val := y })
  | [], l, i, h => by simp only [Es] at h; subst h; simp [setE, Es]
  | (k', v', b) :: r, l, 0, h => by
    simp only [Es] at h
    obtain ⟨x', y', l', rfl, h1, h2, h3⟩ := h
    simp only [setE, Es, List.modify_zero_cons]
    exact ⟨x, y, l', rfl, hk, hv, h3⟩
  | (k', v', b) :: r, l, i + 1, h => by
    simp only [Es] at h
    obtain ⟨x', y', l', rfl, h1, h2, h3⟩ := h
    simp only [setE, Es, List.modify_succ_cons]
    exact ⟨x', y', _, rfl, h1, h2, setE_ok hk hv r l' i h3⟩
theorem delE_ok {σ : Sg} : ∀ (es : List (AV × AV × Nat)) (l : List MapEntry) (i : Nat), Es σ es l → Es σ (delE es i) (l.eraseIdx i)
  | [], l, i, h => by simp only [Es] at h; subst h; simp [delE, Es]
  | (k', v', b) :: r, l, 0, h => by
    simp only [Es] at h
    obtain ⟨x', y', l', rfl, h1, h2, h3⟩ := h
    simpa only [delE, List.eraseIdx_cons_zero] using h3
  | (k', v', b) :: r, l, i + 1, h => by
    simp only [Es] at h
    obtain ⟨x', y', l', rfl, h1, h2, h3⟩ := h
    simp only [delE, Es, List.eraseIdx_cons_succ]
    exact ⟨x', y', _, rfl, h1, h2, delE_ok r l' i h3⟩
noncomputable def updE (G : Nat) (P : Program) (T : Tm) (s : St) (t : TypeId) (m k v : Operand) : R (AV × St) := match P.underlying t with
  | some (.map kt _) => (opd G T m).bind fun m => (opd G T k).bind fun k => (opd G T v).bind fun v => match m with
    | .mp b => match s.mem.get b, keyK P kt k with
      | some (.map es clock), true => (fnd k es 0).bind fun r => match r with
        | some q => (s.setB b (.map (setE k v es q.1) clock)).bind fun s' => .ok (.tup [], s')
        | none => (s.setB b (.map (pushE es (k, v, clock)) (Nat.succ clock))).bind fun s' => .ok (.tup [], s')
      | _, _ => .no 304
    | _ => .no 305
  | _ => .no 306
theorem sameBits_of {d : TypeDesc} {u v : Value} (h : Instr.sameNow d u v = some true) : Instr.sameBits 10000 v u = true ∧ v = u := by
  unfold Instr.sameNow at h
  split at h
  · split at h
    · rename_i k a k' b hk
      subst hk
      have : a = b := by simpa using h
      subst this
      simp [Instr.sameBits]
    · cases h
  · rename_i a b
    have h' : (a == b) = true := Option.some.inj h
    rw [beq_toListBytes, ByteArray.toList_eq, ByteArray.toList_eq] at h'
    have : a = b := by
      apply ByteArray.ext
      apply Array.ext'
      simpa using h'
    subst this
    refine ⟨?_, rfl⟩
    unfold Instr.sameBits
    rw [beq_toListBytes]; simp
  · rename_i a b
    have : a = b := by simpa using h
    subst this
    simp [Instr.sameBits]
  · cases h
theorem updE_ok {G : Nat} {T : Tm} {s : St} {o : Oper} {t : TypeId} {m k v : Operand} {r : AV × St} {σ : Sg} {a : Act} {w : World} (ho : o.op = .mapUpdate t m k v ∨ o.op = .insert t m k v) (h : updE G P T s t m k v = .ok r) (hd : Ds G σ s.ms w) (d : ∀ y ∈ o.op.operands, Od G σ (tget T) a y) :
    Did G P σ s w ((execOp a.eval o).run P w) r := by
  have d' : Od G σ (tget T) a m ∧ Od G σ (tget T) a k ∧ Od G σ (tget T) a v := by
    rcases ho with ho | ho <;> (rw [ho] at d; exact ⟨d m (by simp [Op.operands]), d k (by simp [Op.operands]), d v (by simp [Op.operands])⟩)
  unfold updE at h
  split at h
  case h_2 => cases h
  rename_i kt et ht
  obtain ⟨mv, h1, h⟩ := R.bind_ok h
  obtain ⟨kv, h2, h⟩ := R.bind_ok h
  obtain ⟨vv, h3, h⟩ := R.bind_ok h
  have hm := opd_ok h1 d'.1
  have hk := opd_ok h2 d'.2.1
  have hv := opd_ok h3 d'.2.2
  split at h
  case h_2 => cases h
  rename_i b
  split at h
  case h_2 => cases h
  rename_i es clock hg hkk
  obtain ⟨f, h4, h⟩ := R.bind_ok h
  simp only [V] at hm
  obtain ⟨p, hp, e1⟩ := hm
  obtain ⟨q, hq, ob, hob, h0, l, hl, rfl⟩ := hd.blk _ _ hg
  rw [hp] at hq; cases hq
  have hrun : (execOp a.eval o).run P w = ((Instr.mapUpdate t (a.eval m) (a.eval k) (a.eval v)).run P w).andThen fun _ w' => .ok .skip w' := by
    unfold execOp
    rcases ho with ho | ho <;> simp only [ho, Sem.run_bind, Sem.run_pure]
  rw [hrun]
  have hf := run_findKey hkk hk hl h4 w
  unfold Instr.mapUpdate
  simp only [Sem.run_bind, run_underlying ht, Result.andThen_ok, e1, run_getObj_map hob, run_checkKey hkk]
  cases f with
  | some j =>
    obtain ⟨j, v0⟩ := j
    simp only at hf h
    obtain ⟨x, g1, g2, dd, e', g3, g4, g5⟩ := hf
    obtain ⟨s', h5, h⟩ := R.bind_ok h
    cases h
    obtain ⟨sb1, sb2⟩ := sameBits_of g5
    have hkey : (Instr.keyThatStays (((l.toArray[j]?).map (·.key)).getD (a.eval k)) (a.eval k)).run P w = .ok (a.eval k) w := by
      simp only [List.getElem?_toArray, g4, Option.map_some, Option.getD_some, Instr.keyThatStays, sb1, if_true, Sem.run_pure]
    obtain ⟨hds, hex⟩ := setB_ok (ob' := .map (l.modify j fun (e : MapEntry) => { e with key := a.eval k, val := a.eval v }).toArray clock) hd hg hp h5 ⟨h0, _, setE_ok hk hv es l j hl, rfl⟩
    refine ⟨σ, undef, _, .inr ⟨?_, rfl⟩, V_undef σ, hds, hex⟩
    simp only [g1, Result.andThen_ok, Sem.run_bind, hkey, run_setObj_map hob]
    congr 4
    simp
  | none =>
    simp only at hf h
    obtain ⟨s', h5, h⟩ := R.bind_ok h
    cases h
    obtain ⟨hds, hex⟩ := setB_ok (ob' := .map (l ++ [(⟨a.eval k, a.eval v, clock⟩ : MapEntry)]).toArray (clock + 1)) hd hg hp h5 ⟨h0, _, pushE_ok hk hv es l hl, rfl⟩
    refine ⟨σ, undef, _, .inr ⟨?_, rfl⟩, V_undef σ, hds, hex⟩
    simp only [hf, Result.andThen_ok, run_setObj_map hob]
    congr 4
    simp
end
end Go.Proofs.YtocabeobfbhajaaGreatDoor.Sx
