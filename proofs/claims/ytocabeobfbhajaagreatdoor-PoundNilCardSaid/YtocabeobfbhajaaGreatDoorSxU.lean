/- The reckoner: bytes of strings, ranges over maps; all that changes memory, as one function. No program is named here. -/
import Derived.Test.YtocabeobfbhajaaGreatDoorSxT
set_option linter.unusedVariables false
set_option linter.unusedSimpArgs false
namespace Go.Proofs.YtocabeobfbhajaaGreatDoor.Sx
noncomputable section
open Go Go.RowKit
variable {P : Program}

noncomputable def bytE (G : Nat) (P : Program) (T : Tm) (s : St) (src dst : TypeId) (x : Operand) : R (AV × St) := match P.underlying src, P.underlying dst with
  | some .string, some (.slice e) => match P.underlying e with
    | some (.int .u8) => (opd G T x).bind fun v => match v with
      | .str n N => ({ s with nc := Nat.succ s.nc } : St).push (.cells [.bs n N] (Nat.succ s.nc) 1) |>.bind fun q => .ok (.sl q.1 0 n n (Nat.succ s.nc), q.2)
      | _ => .no 340
    | _ => .no 341
  | _, _ => .no 342
theorem bytE_ok {G : Nat} {T : Tm} {s : St} {o : Oper} {src dst : TypeId} {x : Operand} {r : AV × St} {σ : Sg} {a : Act} {w : World} (ho : o.op = .convert src dst x) (h : bytE G P T s src dst x = .ok r) (hd : Ds G σ s.ms w) (d : ∀ y ∈ o.op.operands, Od G σ (tget T) a y) :
    Did G P σ s w ((execOp a.eval o).run P w) r := by
  rw [ho] at d
  unfold bytE at h
  split at h
  case h_2 => cases h
  rename_i e hs ht
  split at h
  case h_2 => cases h
  rename_i he
  obtain ⟨v, h1, h⟩ := R.bind_ok h
  have hv := opd_ok h1 (d x (by simp [Op.operands]))
  split at h
  case h_2 => cases h
  rename_i n N
  obtain ⟨q, h2, h⟩ := R.bind_ok h
  cases h
  simp only [V] at hv
  obtain ⟨e', he'⟩ : ∃ e', e' = (w.tape w.drawn (.appendCap n 0 e)) % (2 ^ 63 - n) := ⟨_, rfl⟩
  obtain ⟨d1, x1⟩ := hd.setC e'
  let A : Array Value := (bcs n N).toArray ++ Array.replicate e' (.int .u8 0)
  have hA : A.size = n + e' := by simp [A, bcs_length]
  have hb : BO ((σ.setC s.nc e').set s.nx (w.drew.heap.size, 0)) 0 (.cells [.bs n N] (Nat.succ s.nc) 1) (.cells A e (A.size, A.size + 1)) := by
    refine ⟨A, e, (A.size, A.size + 1), rfl, .inr (Nat.le_refl _), bcs n N, e' * 1, by rw [Cs_bs]; exact ⟨[], by simp, by simp [Cs]⟩, .inr ⟨s.nc, e', rfl, setC_at _ _ _, rfl⟩, by rw [bcs_length, hA]; omega, ?_⟩
    intro i v hv
    rw [Nat.zero_add, Array.getElem?_append_left (by have := (List.getElem?_eq_some_iff.1 hv).1; simpa using this), List.getElem?_toArray]
    exact hv
  obtain ⟨e1, d2, x2, _, hn⟩ := push_ok d1.drew h2 hb
  have hrun : (convert src dst (a.eval x)).run P w = .ok (.slice (some ⟨w.heap.size, 0, none⟩) n (n + e')) (w.drew.alloc (.cells A e (A.size, A.size + 1))) := by
    rw [hv]
    change (convert src dst (.string (bstr n N))).run P w = _
    unfold convert
    rw [Sem.run_bind, run_underlying hs, Result.andThen_ok, Sem.run_bind, run_underlying ht, Result.andThen_ok]
    dsimp only
    rw [Sem.run_bind, run_underlying he, Result.andThen_ok]
    dsimp only
    unfold Conv.stringToBytes
    rw [Sem.run_bind, run_choose]
    simp only [Question.forced, Bool.false_eq_true, if_false, Result.andThen_ok, Question.cut, bstr_size]
    rw [← he']
    have hdata : (bstr n N).data.map (fun b => Value.int .u8 (b.toNat : Int)) = (bcs n N).toArray := by
      show (unpack n N).toArray.map _ = _
      simp [bcs, bcellN]
    rw [hdata, show n + e' - n = e' by omega]
    simp only [newRow, Sem.run_bind, run_newObj, Sem.run_pure, Result.andThen_ok, markStringish]
    have hsh : ∀ W : World, W.heap = w.heap.push (.cells A e) → W.shape? w.heap.size = some (e, A.size) := by
      intro W hW
      simp [World.shape?, hW]
    rw [run_shape, Result.andThen_ok, hsh _ rfl]
    dsimp only
    rw [run_freeze, Result.andThen_ok]
    congr 1
    unfold World.freeze World.alloc World.drew
    simp only [Nat.succ_ne_self, if_false]
    congr 1
    apply Array.ext_getElem?
    intro j
    rw [Array.getElem?_modify, Array.getElem?_push, Array.getElem?_push]
    by_cases hj : w.heap.size = j
    · subst hj
      simp [A]
    · rw [if_neg hj, if_neg (Ne.symm hj), if_neg (Ne.symm hj)]
  refine ⟨_, .slice (some ⟨w.heap.size, 0, none⟩) n (n + e'), _, .inl ?_, ?_, d2, x1.trans x2.toDrew⟩
  · unfold execOp
    simp only [ho]
    exact run_v hrun
  · simp only [V]
    rw [e1]
    exact ⟨(w.heap.size, 0), n + e', hn, by simp, .inr ⟨s.nc, e', rfl, setC_at _ _ _, rfl⟩⟩

/-! ### Ranges -/
noncomputable def rngE (G : Nat) (P : Program) (T : Tm) (s : St) (t : TypeId) (x : Operand) : R (AV × St) := (opd G T x).bind fun v => match P.underlying t, v with
  | some (.map _ _), .nm => (s.push (.mit none 0 [] 0)).bind fun q => .ok (.ptr q.1 0, q.2)
  | some (.map _ _), .mp b => match s.mem.get b with
    | some (.map _ clock) => (s.push (.mit (some b) clock [] clock)).bind fun q => .ok (.ptr q.1 0, q.2)
    | _ => .no 350
  | _, _ => .no 351
theorem rngE_ok {G : Nat} {T : Tm} {s : St} {o : Oper} {t : TypeId} {x : Operand} {r : AV × St} {σ : Sg} {a : Act} {w : World} (ho : o.op = .range t x) (h : rngE G P T s t x = .ok r) (hd : Ds G σ s.ms w) (d : ∀ y ∈ o.op.operands, Od G σ (tget T) a y) :
    Did G P σ s w ((execOp a.eval o).run P w) r := by
  rw [ho] at d
  obtain ⟨v, h1, h⟩ := R.bind_ok h
  have hv := opd_ok h1 (d x (by simp [Op.operands]))
  split at h
  case h_3 => cases h
  · rename_i k e ht
    obtain ⟨q, h2, h⟩ := R.bind_ok h
    cases h
    obtain ⟨e1, d2, x2, _, hn⟩ := push_ok (ob := .mapIter none 0 #[] 0) hd h2 ⟨rfl, rfl⟩
    simp only [V] at hv
    refine ⟨_, .pointer (some ⟨w.heap.size, 0, none⟩), _, .inl ?_, ?_, d2, x2⟩
    · unfold execOp
      simp only [ho]
      refine run_v ?_
      unfold Instr.range
      simp only [Sem.run_bind, run_underlying ht, Result.andThen_ok, hv, Sem.run_pure, run_newObj]
      rfl
    · simp only [V]; rw [e1]; exact ⟨(w.heap.size, 0), hn, by simp⟩
  · rename_i k e b ht
    split at h
    case h_2 => cases h
    rename_i es clock hg
    obtain ⟨q, h2, h⟩ := R.bind_ok h
    cases h
    simp only [V] at hv
    obtain ⟨p, hp, ev⟩ := hv
    obtain ⟨p', hp', ob, hob, h0, l, hl, rfl⟩ := hd.blk _ _ hg
    rw [hp] at hp'; cases hp'
    have hle : σ.le (σ.set s.nx (w.heap.size, 0)) := Sg.le_set (hd.fresh _ (Nat.le_refl _))
    obtain ⟨e1, d2, x2, _, hn⟩ := push_ok (ob := .mapIter (some p.1) clock #[] clock) hd h2 ⟨rfl, p, hle.1 _ _ hp, rfl⟩
    refine ⟨_, .pointer (some ⟨w.heap.size, 0, none⟩), _, .inl ?_, ?_, d2, x2⟩
    · unfold execOp
      simp only [ho]
      refine run_v ?_
      unfold Instr.range
      simp only [Sem.run_bind, run_underlying ht, Result.andThen_ok, ev, run_getObj_map hob, Sem.run_pure, run_newObj]
      rfl
    · simp only [V]; rw [e1]; exact ⟨(w.heap.size, 0), hn, by simp⟩
def memN (n : Nat) : List Nat → Bool
  | [] => false
  | x :: r => match Nat.beq x n with
    | true => true
    | false => memN n r
theorem memN_eq (n : Nat) : ∀ l : List Nat, memN n l = l.contains n
  | [] => rfl
  | x :: r => by
    unfold memN
    cases h : Nat.beq x n with
    | true => have := beq_iff.1 h; subst this; simp
    | false =>
      have hne := beq_false_ne h
      rw [memN_eq n r]
      simp [List.contains_cons]
      exact fun e => absurd e.symm hne
/-- The entries that are to come. -/
def leftE (seen : List Nat) : List (AV × AV × Nat) → List (AV × AV × Nat)
  | [] => []
  | e :: r => match memN e.2.2 seen with
    | true => leftE seen r
    | false => e :: leftE seen r
def minBorn (n : Nat) : List (AV × AV × Nat) → Bool
  | [] => true
  | e :: r => match Nat.ble n e.2.2 with
    | true => minBorn n r
    | false => false
def stopB {α β : Type} (a : List α) (b : List β) (c : Bool) : Bool := match a, b, c with
  | _ :: _, _ :: _, true => true
  | _, _, _ => false
theorem stopB_eq {α β : Type} (a : List α) (b : List β) (c : Bool) : stopB a b c = (!a.isEmpty && !b.isEmpty && c) := by
  cases a <;> cases b <;> cases c <;> rfl
noncomputable def nxtE (G : Nat) (P : Program) (T : Tm) (s : St) (it : Operand) (isS : Bool) : R (AV × St) := (opd G T it).bind fun v => match v, isS with
  | .ptr b 0, false => match s.mem.get b with
    | some (.mit none _ _ _) => .ok (.tup [.bool false], s)
    | some (.mit (some m) since seen last) => match s.mem.get m with
      | some (.map es clock) => match stopB seen es (minBorn last es) with
        | true => .no 352
        | false => match leftE seen es with
          | [] => .ok (.tup [.bool false], s)
          | [e] => match Nat.ble since e.2.2 with
            | true => .no 353
            | false => (s.setB b (.mit (some m) since (seen ++ [e.2.2]) clock)).bind fun s' => .ok (.tup [.bool true, e.1, e.2.1], s')
          | _ => .no 354
      | _ => .no 355
    | _ => .no 356
  | _, _ => .no 357
theorem leftE_ok {σ : Sg} (seen : List Nat) : ∀ (es : List (AV × AV × Nat)) (l : List MapEntry), Es σ es l → Es σ (leftE seen es) (l.filter fun e => !seen.contains e.born)
  | [], l, h => by simp only [Es] at h; subst h; simp [leftE, Es]
  | (k, v, b) :: r, l, h => by
    simp only [Es] at h
    obtain ⟨x, y, l', rfl, h1, h2, h3⟩ := h
    have ih := leftE_ok seen r l' h3
    unfold leftE
    rw [memN_eq]
    simp only
    cases hb : seen.contains b with
    | true => rw [List.filter_cons_of_neg (by simpa using hb)]; exact ih
    | false =>
      rw [List.filter_cons_of_pos (by simpa using hb)]
      simp only [Es]
      exact ⟨x, y, _, rfl, h1, h2, ih⟩
theorem minBorn_ok {σ : Sg} (n : Nat) : ∀ (es : List (AV × AV × Nat)) (l : List MapEntry), Es σ es l → minBorn n es = l.all (fun e => decide (e.born ≥ n))
  | [], l, h => by simp only [Es] at h; subst h; rfl
  | (k, v, b) :: r, l, h => by
    simp only [Es] at h
    obtain ⟨x, y, l', rfl, h1, h2, h3⟩ := h
    have ih := minBorn_ok n r l' h3
    unfold minBorn
    simp only
    cases hb : Nat.ble n b with
    | true => have := Nat.le_of_ble_eq_true hb; rw [List.all_cons, ih]; simp [this]
    | false => have := ble_false hb; rw [List.all_cons]; simp; omega
theorem nxtE_ok {G : Nat} {T : Tm} {s : St} {o : Oper} {it : Operand} {isS : Bool} {r : AV × St} {σ : Sg} {a : Act} {w : World} (ho : o.op = .next it isS) (h : nxtE G P T s it isS = .ok r) (hd : Ds G σ s.ms w) (d : ∀ y ∈ o.op.operands, Od G σ (tget T) a y) :
    Did G P σ s w ((execOp a.eval o).run P w) r := by
  rw [ho] at d
  obtain ⟨v, h1, h⟩ := R.bind_ok h
  have hv := opd_ok h1 (d it (by simp [Op.operands]))
  have hover : V σ (.tup [.bool false]) (.tuple #[.bool false]) := by simp only [V, Vs]; exact ⟨[.bool false], ⟨_, _, rfl, rfl, rfl⟩, rfl⟩
  split at h
  case h_2 => cases h
  rename_i b
  simp only [V] at hv
  obtain ⟨p, hp, ev⟩ := hv
  split at h
  case h_3 => cases h
  · rename_i since seen last hg
    cases h
    obtain ⟨p', hp', ob, hob, h0, rfl⟩ := hd.blk _ _ hg
    rw [hp] at hp'; cases hp'
    refine ⟨σ, .tuple #[.bool false], w, .inl ?_, hover, hd, Ex.refl _ _ _⟩
    unfold execOp
    simp only [ho]
    refine run_v ?_
    have ho' : (getObj p.1).run P w = .ok (.mapIter none since seen.toArray last) w := by simp only [getObj, Sem.run, hob]
    rw [ev, show (⟨p.1, p.2 + 0, none⟩ : Addr) = ⟨p.1, 0, none⟩ by rw [h0]]
    unfold Instr.next
    simp only [Sem.run_bind, ho', Result.andThen_ok, Sem.run_pure]
  · rename_i m since sn last hg
    split at h
    case h_2 => cases h
    rename_i es clock hgm
    obtain ⟨p', hp', ob, hob, h0, q, hq, rfl⟩ := hd.blk _ _ hg
    rw [hp] at hp'; cases hp'
    obtain ⟨q', hq', ob2, hob2, h02, l, hl, rfl⟩ := hd.blk _ _ hgm
    rw [hq] at hq'; cases hq'
    have ho' : (getObj p.1).run P w = .ok (.mapIter (some q.1) since sn.toArray last) w := by simp only [getObj, Sem.run, hob]
    split at h
    · cases h
    rename_i hst
    have hgd : (!sn.toArray.isEmpty && !l.toArray.isEmpty && l.toArray.all (fun e => decide (e.born ≥ last))) = false := by
      rw [stopB_eq, minBorn_ok last es l hl] at hst
      rw [List.all_toArray, ← hst]
      have : l.toArray.isEmpty = es.isEmpty := by
        have := Es_length hl
        cases es <;> cases l <;> simp at this <;> rfl
      rw [this]; simp
    have hle := leftE_ok sn es l hl
    have hfil : l.toArray.filter (fun e => !sn.toArray.contains e.born) = (l.filter fun e => !sn.contains e.born).toArray := by simp
    split at h
    case h_3 => cases h
    · rename_i hleft
      cases h
      rw [hleft] at hle
      simp only [Es] at hle
      refine ⟨σ, .tuple #[.bool false], w, .inl ?_, hover, hd, Ex.refl _ _ _⟩
      unfold execOp
      simp only [ho]
      refine run_v ?_
      rw [ev, show (⟨p.1, p.2 + 0, none⟩ : Addr) = ⟨p.1, 0, none⟩ by rw [h0]]
      unfold Instr.next
      simp only [Sem.run_bind, ho', Result.andThen_ok, run_getObj_map hob2, hgd, Bool.false_eq_true, if_false, hfil, hle]
      simp [Question.forced]
    · rename_i e hleft
      obtain ⟨k, vv, bn⟩ := e
      split at h
      · cases h
      rename_i hbn
      have hbn' := ble_false hbn
      simp only at hbn'
      obtain ⟨s', h2, h⟩ := R.bind_ok h
      cases h
      rw [hleft] at hle
      simp only [Es] at hle
      obtain ⟨x, y, l', hle, k1, k2, k3⟩ := hle
      subst k3
      obtain ⟨hds, hex⟩ := setB_ok (ob' := .mapIter (some q.1) since (sn ++ [bn]).toArray clock) hd hg hp h2 ⟨h0, q, hq, rfl⟩
      refine ⟨σ, .tuple #[.bool true, x, y], _, .inl ?_, ?_, hds, hex⟩
      · unfold execOp
        simp only [ho]
        refine run_v ?_
        rw [ev, show (⟨p.1, p.2 + 0, none⟩ : Addr) = ⟨p.1, 0, none⟩ by rw [h0]]
        unfold Instr.next
        have hset : (setObj p.1 (.mapIter (some q.1) since (sn ++ [bn]).toArray clock)).run P w = .ok () { w with heap := w.heap.setIfInBounds p.1 (.mapIter (some q.1) since (sn ++ [bn]).toArray clock) } := by simp only [setObj, Sem.run, hob]
        simp only [Sem.run_bind, ho', Result.andThen_ok, run_getObj_map hob2, hgd, Bool.false_eq_true, if_false, hfil, hle]
        have f1 : (#[(⟨x, y, bn⟩ : MapEntry)].filter fun e => decide (e.born < since)) = #[⟨x, y, bn⟩] := by simp [hbn']
        have f2 : (#[(⟨x, y, bn⟩ : MapEntry)].filter fun e => decide (e.born ≥ since)) = #[] := by simp; omega
        rw [f1, f2]
        simp [Question.forced]
        rw [hset]
        rfl
      · simp only [V, Vs]
        exact ⟨[.bool true, x, y], ⟨_, _, rfl, rfl, _, _, rfl, k1, _, _, rfl, k2, rfl⟩, rfl⟩
/-! ### All that changes memory, but calls -/
noncomputable def sev (G : Nat) (P : Program) (T : Tm) (s : St) : Op → R (AV × St)
  | .store t x v => storeE G P T s t x v
  | .mapUpdate t m k v => updE G P T s t m k v
  | .insert t m k v => updE G P T s t m k v
  | .convert src dst x => bytE G P T s src dst x
  | .range t x => rngE G P T s t x
  | .next it b => nxtE G P T s it b
  | .call c => match c.callee with
    | .builtin b => match b with
      | .append => appE G P T s c
      | .copy => copyE G P T s c
      | .delete => deleteE G P T s c
      | .clear => clearE G P T s c
      | _ => .no 360
    | _ => .no 361
  | _ => .no 362
theorem sev_ok {G : Nat} {T : Tm} {s : St} {o : Oper} {r : AV × St} {σ : Sg} {a : Act} {w : World} (h : sev G P T s o.op = .ok r) (hd : Ds G σ s.ms w) (d : ∀ y ∈ o.op.operands, Od G σ (tget T) a y) :
    Did G P σ s w ((execOp a.eval o).run P w) r := by
  cases ho : o.op <;> rw [ho] at h <;> simp only [sev] at h <;> (try cases h; done)
  case store t x v => exact storeE_ok ho h hd d
  case mapUpdate t m k v => exact updE_ok (.inl ho) h hd d
  case insert t m k v => exact updE_ok (.inr ho) h hd d
  case convert t x v => exact bytE_ok ho h hd d
  case range t x => exact rngE_ok ho h hd d
  case next it b => exact nxtE_ok ho h hd d
  case call c =>
    cases hc : c.callee <;> rw [hc] at h <;> simp only at h <;> (try cases h; done)
    case builtin b =>
    cases b <;> simp only at h <;> (try cases h; done)
    · exact appE_ok ho hc h hd d
    · exact clearE_ok ho hc h hd d
    · exact copyE_ok ho hc h hd d
    · exact deleteE_ok ho hc h hd d
end
end Go.Proofs.YtocabeobfbhajaaGreatDoor.Sx
