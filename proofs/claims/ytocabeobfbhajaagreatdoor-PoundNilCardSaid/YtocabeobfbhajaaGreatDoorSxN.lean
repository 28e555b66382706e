/- The reckoner's operations that read. No program is named here. -/
import Derived.Test.YtocabeobfbhajaaGreatDoorSxM
set_option linter.unusedVariables false
set_option linter.unusedSimpArgs false
namespace Go.Proofs.YtocabeobfbhajaaGreatDoor.Sx
noncomputable section
open Go Go.RowKit
variable {P : Program}

/-! ### Keys -/
def keyEq : AV → AV → R Bool
  | .int k m, .int k' n => match kindEq k k' with
    | true => .ok (eqI m n)
    | false => .no 200
  | .str n N, .str m M => .ok (strEq n N m M)
  | .bool a, .bool b => .ok (eqB a b)
  | _, _ => .no 201
/-- A key of a plain type. -/
def keyK (P : Program) (t : TypeId) (k : AV) : Bool := match P.underlying t, k with
  | some (.int _), .int _ _ => true
  | some .string, .str _ _ => true
  | some .bool, .bool _ => true
  | _, _ => false
def fnd (k : AV) : List (AV × AV × Nat) → Nat → R (Option (Nat × AV))
  | [], _ => .ok none
  | e :: r, i => (keyEq k e.1).bind fun t => match t with
    | true => .ok (some (i, e.2.1))
    | false => fnd k r (Nat.succ i)
theorem keyEq_ok {σ : Sg} {t : TypeId} {d : TypeDesc} {k k' : AV} {r : Bool} {u v : Value} (hd : P.underlying t = some d) (hk : keyK P t k = true) (h : keyEq k k' = .ok r) (hu : V σ k u) (hv : V σ k' v) : Instr.sameNow d u v = some r := by
  unfold keyEq at h
  unfold keyK at hk
  rw [hd] at hk
  split at h
  · split at h
    case h_2 => cases h
    rename_i hkk
    have := kindEq_ok hkk
    subst this
    cases h
    simp only [V] at hu hv
    subst hu; subst hv
    cases d <;> simp at hk
    simp only [Instr.sameNow, if_true, eqI_eq]
    rfl
  · cases h
    simp only [V] at hu hv
    subst hu; subst hv
    cases d <;> simp at hk
    simp only [Instr.sameNow, strEq_ok, beq_toListBytes, toList_mk]
    congr 1
    rw [Bool.eq_iff_iff]; simp
  · cases h
    simp only [V] at hu hv
    subst hu; subst hv
    cases d <;> simp at hk
    simp only [Instr.sameNow, eqB_ok]
  · cases h
theorem fnd_ok {σ : Sg} {t : TypeId} {d : TypeDesc} {k : AV} {u : Value} (hd : P.underlying t = some d) (hk : keyK P t k = true) (hu : V σ k u) : ∀ (es : List (AV × AV × Nat)) (l : List MapEntry) (i : Nat) (r : Option (Nat × AV)), Es σ es l → fnd k es i = .ok r →
    match r with
    | none => Instr.findNow d u l i = some none
    | some (j, v) => i ≤ j ∧ j - i < l.length ∧ ∃ x, Instr.findNow d u l i = some (some (j, x)) ∧ V σ v x ∧ ∃ e', l[j - i]? = some e' ∧ Instr.sameNow d u e'.key = some true
  | [], l, i, r, he, h => by
    simp only [Es] at he
    subst he
    cases h
    rfl
  | (k', v', b) :: es, l, i, r, he, h => by
    simp only [Es] at he
    obtain ⟨x, y, l', rfl, h1, h2, h3⟩ := he
    obtain ⟨q, h4, h⟩ := R.bind_ok h
    have hs := keyEq_ok hd hk h4 hu h1
    cases q with
    | true =>
      cases h
      refine ⟨Nat.le_refl _, by simp, y, by simp [Instr.findNow, hs], h2, ⟨x, y, b⟩, by simp, hs⟩
    | false =>
      have ih := fnd_ok hd hk hu es l' (i + 1) r h3 h
      cases r with
      | none => simp only [Instr.findNow, hs]; exact ih
      | some q =>
        obtain ⟨j, vv⟩ := q
        obtain ⟨g1, g2, x', g3, g4, e', g5, g6⟩ := ih
        refine ⟨by omega, by simp; omega, x', by simp only [Instr.findNow, hs]; exact g3, g4, e', ?_, g6⟩
        rw [show j - i = (j - (i + 1)) + 1 by omega]
        simpa using g5
theorem keyK_some {t : TypeId} {k : AV} (h : keyK P t k = true) : ∃ d, P.underlying t = some d ∧ (d = .string ∨ d = .bool ∨ ∃ kk, d = .int kk) := by
  unfold keyK at h
  split at h
  · rename_i kk _ _ hd; exact ⟨_, hd, .inr (.inr ⟨_, rfl⟩)⟩
  · rename_i hd; exact ⟨_, hd, .inl rfl⟩
  · rename_i hd; exact ⟨_, hd, .inr (.inl rfl)⟩
  · cases h
theorem run_checkKey {t : TypeId} {k : AV} (h : keyK P t k = true) (e : Bool) (u : Value) (w : World) : (Instr.checkKey e 10000 t u).run P w = .ok () w := by
  obtain ⟨d, hd, hh⟩ := keyK_some h
  unfold Instr.checkKey
  rw [Sem.run_bind, run_underlying hd, Result.andThen_ok]
  rcases hh with rfl | rfl | ⟨kk, rfl⟩ <;> rfl
theorem run_findKey {σ : Sg} {t : TypeId} {k : AV} {u : Value} {es : List (AV × AV × Nat)} {l : List MapEntry} {r : Option (Nat × AV)} (hk : keyK P t k = true) (hu : V σ k u) (he : Es σ es l) (h : fnd k es 0 = .ok r) (w : World) :
    match r with
    | none => (Instr.findKey t u l).run P w = .ok none w
    | some (j, v) => ∃ x, (Instr.findKey t u l).run P w = .ok (some (j, x)) w ∧ V σ v x ∧ ∃ d e', P.underlying t = some d ∧ l[j]? = some e' ∧ Instr.sameNow d u e'.key = some true := by
  obtain ⟨d, hd, _⟩ := keyK_some hk
  have := fnd_ok hd hk hu es l 0 r he h
  cases r with
  | none =>
    simp only at this ⊢
    unfold Instr.findKey
    rw [Sem.run_bind, run_underlying hd, Result.andThen_ok, this]; rfl
  | some q =>
    obtain ⟨j, v⟩ := q
    obtain ⟨_, _, x, g3, g4, e', g5, g6⟩ := this
    refine ⟨x, ?_, g4, d, e', hd, g5, g6⟩
    unfold Instr.findKey
    rw [Sem.run_bind, run_underlying hd, Result.andThen_ok, g3]; rfl

/-! ### Reading -/
/-- The entries of a map. -/
noncomputable def mapA (s : St) : AV → R (List (AV × AV × Nat))
  | .nm => .ok []
  | .mp b => match s.mem.get b with
    | some (.map es _) => .ok es
    | _ => .no 202
  | _ => .no 203
def lastN : List Nat → Option Nat
  | [] => none
  | [x] => some x
  | _ :: r => lastN r
def bornF (n : Nat) : List (AV × AV × Nat) → R AV
  | [] => .no 204
  | e :: r => match Nat.beq e.2.2 n with
    | true => .ok (.tup [e.1, e.2.1])
    | false => bornF n r
noncomputable def lev (G : Nat) (P : Program) (T : Tm) (s : St) : Op → R AV
  | .load t x => (opd G T x).bind fun v => match v with
    | .ptr b o => match P.underlying t with
      | some d => match rowD d with
        | true => (szA P t).bind fun n => (ldc s b o n).bind fun cs => .ok (.agg cs)
        | false => ld1 s b o
      | none => .no 205
    | _ => .no 206
  | .lookup t m k ok => match P.underlying t with
    | some (.map kt et) => (opd G T m).bind fun m => (opd G T k).bind fun k => (mapA s m).bind fun es => match keyK P kt k with
      | true => (fnd k es 0).bind fun r => match r with
        | some q => .ok (match ok with | true => .tup [q.2, .bool true] | false => q.2)
        | none => (zeroA P et).bind fun z => .ok (match ok with | true => .tup [z, .bool false] | false => z)
      | false => .no 207
    | _ => .no 208
  | .convert src dst x => match P.underlying src, P.underlying dst with
    | some (.slice e), some .string => match P.underlying e with
      | some (.int .u8) => (opd G T x).bind fun v => match v with
        | .ns => .ok (.str 0 0)
        | .sl b o n _ _ => (ldc s b o n).bind fun cs => match cs with
          | [] => .ok (.str 0 0)
          | [.bs n N] => .ok (.str n N)
          | _ => .no 209
        | _ => .no 210
      | _ => .no 211
    | _, _ => .no 212
  | .entry it => (opd G T it).bind fun v => match v with
    | .ptr b 0 => match s.mem.get b with
      | some (.mit (some m) _ seen step) => match lastN seen, s.mem.get m with
        | some n, some (.map es clock) => match Nat.beq clock step with
          | true => bornF n es
          | false => .no 213
        | _, _ => .no 214
      | _ => .no 215
    | _ => .no 216
  | .call c => match c.callee with
    | .builtin .len => match c.args.toList, c.argTypes.toList with
      | [x], [t] => match P.underlying t with
        | some (.map _ _) => (opd G T x).bind fun m => (mapA s m).bind fun es => .ok (.int .i64 (.ofNat es.length))
        | _ => .no 217
      | _, _ => .no 218
    | _ => .no 219
  | _ => .no 220
theorem Es_length {σ : Sg} : ∀ {es : List (AV × AV × Nat)} {l : List MapEntry}, Es σ es l → l.length = es.length
  | [], l, h => by simp only [Es] at h; subst h; rfl
  | (k, v, b) :: r, l, h => by
    simp only [Es] at h
    obtain ⟨x, y, l', rfl, _, _, h⟩ := h
    simp [Es_length h]
/-- What is known of a map in a world. -/
theorem mapA_ok {G : Nat} {σ : Sg} {s : St} {w : World} (d : Ds G σ s.ms w) {v : AV} {u : Value} {es : List (AV × AV × Nat)} (h : mapA s v = .ok es) (hu : V σ v u) :
    (u = .map none ∧ es = []) ∨ ∃ r l clock, u = .map (some r) ∧ w.heap[r]? = some (.map l.toArray clock) ∧ Es σ es l := by
  unfold mapA at h
  split at h
  · cases h; simp only [V] at hu; exact .inl ⟨hu, rfl⟩
  · rename_i b
    split at h
    case h_2 => cases h
    rename_i es' clock hg
    cases h
    simp only [V] at hu
    obtain ⟨p, hp, rfl⟩ := hu
    obtain ⟨q, hq, ob, ho, h0, l, hl, rfl⟩ := d.blk _ _ hg
    rw [hp] at hq; cases hq
    exact .inr ⟨p.1, l, clock, rfl, ho, hl⟩
  · cases h
theorem run_getObj_map {r : Nat} {l : List MapEntry} {clock : Nat} {w : World} (h : w.heap[r]? = some (.map l.toArray clock)) : (getObj r).run P w = .ok (.map l.toArray clock) w := by
  simp only [getObj, Sem.run, h]
theorem foldl_push : ∀ (l : List UInt8) (s : ByteArray), (l.map fun b => ((b.toNat : Nat) : Int)).foldl (fun r n => r.push (UInt8.ofNat n.toNat)) s = ⟨s.data ++ l.toArray⟩
  | [], s => by cases s; simp
  | b :: l, s => by
    rw [List.map_cons, List.foldl_cons, foldl_push l]
    apply ByteArray.ext
    simp
theorem lev_ok {G : Nat} {T : Tm} {s : St} {o : Oper} {v : AV} {σ : Sg} {a : Act} {w : World} (h : lev G P T s o.op = .ok v) (hd : Ds G σ s.ms w) (d : ∀ x ∈ o.op.operands, Od G σ (tget T) a x) :
    ∃ z, (execOp a.eval o).run P w = .ok (.value z) w ∧ V σ v z := by
  obtain ⟨dst, op, ty, pos, after, guard⟩ := o
  simp only at h d
  unfold execOp
  cases op <;> simp only [lev] at h <;> (try cases h; done)
  case load t x =>
    obtain ⟨u, h1, h⟩ := R.bind_ok h
    have hu := opd_ok h1 (d x (by simp [Op.operands]))
    split at h
    case h_2 => cases h
    rename_i b o
    simp only [V] at hu
    obtain ⟨p, hp, e⟩ := hu
    split at h
    case h_2 => cases h
    rename_i td ht
    split at h
    · rename_i hr
      obtain ⟨n, h2, h⟩ := R.bind_ok h
      obtain ⟨cs, h3, h⟩ := R.bind_ok h
      cases h
      obtain ⟨q, l, hq, hl, hlen, hrg⟩ := ldc_ok hd h3
      rw [hp] at hq; cases hq
      refine ⟨.agg l.toArray, run_v ?_, by simp only [V]; exact ⟨l, hl, rfl⟩⟩
      rw [e]
      have hi : (P.info? t).map (·.size) = some l.length := by
        unfold szA at h2
        split at h2
        · rename_i i hi; cases h2; rw [hi, hlen]; rfl
        · cases h2
      exact run_loadAt_mid w p.1 (p.2 + o) t l td hrg ht (by cases td <;> first | rfl | cases hr) hi
    · rename_i hr
      obtain ⟨q, x', hq, hx, hc⟩ := ld1_ok hd h
      rw [hp] at hq; cases hq
      refine ⟨x', run_v ?_, hx⟩
      rw [e]
      simp only [Instr.loadAt, Instr.sureAddr, Sem.run_bind, Sem.run_pure, Result.andThen_ok, loadVar, run_isAgg ht, hr, Bool.false_eq_true, if_false, run_load, hc]
  case lookup t m k ok =>
    split at h
    case h_2 => cases h
    rename_i kt et ht
    obtain ⟨mv, h1, h⟩ := R.bind_ok h
    obtain ⟨kv, h2, h⟩ := R.bind_ok h
    obtain ⟨es, h3, h⟩ := R.bind_ok h
    have hm := opd_ok h1 (d m (by simp [Op.operands]))
    have hk := opd_ok h2 (d k (by simp [Op.operands]))
    split at h
    case h_2 => cases h
    rename_i hkk
    obtain ⟨r, h4, h⟩ := R.bind_ok h
    have tail : ∀ (bb : Bool) (l : List MapEntry), Es σ es l → ∃ z, (((Instr.checkKey bb 10000 kt (a.eval k)).run P w).andThen fun _ w' => ((Instr.findKey kt (a.eval k) l).run P w').andThen fun q w' => Sem.run P
        (match q with
          | some (_, v) => do
            let x ← pure (v, true)
            pure (if ok = true then Value.tuple #[x.fst, Value.bool x.snd] else x.fst)
          | none => do
            let y ← zeroValue et
            let x ← pure (y, false)
            pure (if ok = true then Value.tuple #[x.fst, Value.bool x.snd] else x.fst)) w') = .ok z w ∧ V σ v z := by
      intro bb l hl
      rw [run_checkKey hkk, Result.andThen_ok]
      have hf := run_findKey hkk hk hl h4 w
      cases r with
      | none =>
        simp only at hf h
        obtain ⟨z, h5, h⟩ := R.bind_ok h
        obtain ⟨zv, g1, g2⟩ := zeroA_ok h5 w
        rw [hf, Result.andThen_ok]
        simp only [Sem.run_bind, g1, Result.andThen_ok, Sem.run_pure]
        cases ok with
        | true => cases h; exact ⟨_, rfl, by simp only [V, Vs, if_true]; exact ⟨[zv, .bool false], ⟨zv, _, rfl, g2 σ, _, _, rfl, rfl, rfl⟩, rfl⟩⟩
        | false => cases h; exact ⟨_, rfl, g2 σ⟩
      | some q =>
        obtain ⟨j, vv⟩ := q
        simp only at hf h
        obtain ⟨x, g1, g2, _⟩ := hf
        rw [g1, Result.andThen_ok]
        simp only [Sem.run_bind, Result.andThen_ok, Sem.run_pure]
        cases ok with
        | true => cases h; exact ⟨_, rfl, by simp only [V, Vs, if_true]; exact ⟨[x, .bool true], ⟨x, _, rfl, g2, _, _, rfl, rfl, rfl⟩, rfl⟩⟩
        | false => cases h; exact ⟨_, rfl, g2⟩
    unfold Instr.lookup
    rcases mapA_ok hd h3 hm with ⟨e1, rfl⟩ | ⟨rr, l, clock, e1, ho, hl⟩
    · obtain ⟨z, g1, g2⟩ := tail true [] (by simp [Es])
      refine ⟨z, run_v ?_, g2⟩
      rw [← g1]
      simp only [Sem.run_bind, run_underlying ht, Result.andThen_ok, e1, Sem.run_pure]
      rfl
    · obtain ⟨z, g1, g2⟩ := tail l.toArray.isEmpty l hl
      refine ⟨z, run_v ?_, g2⟩
      rw [← g1]
      simp only [Sem.run_bind, run_underlying ht, Result.andThen_ok, e1, Sem.run_pure, run_getObj_map ho]
      rfl
  case convert src dst x =>
    split at h
    case h_2 => cases h
    rename_i e hs ht
    split at h
    case h_2 => cases h
    rename_i he
    obtain ⟨u, h1, h⟩ := R.bind_ok h
    have hu := opd_ok h1 (d x (by simp [Op.operands]))
    split at h
    case h_3 => cases h
    · cases h
      simp only [V] at hu
      refine ⟨.string (bstr 0 0), run_v ?_, by simp only [V]; rfl⟩
      rw [hu, run_convert_bytes_string w src dst e _ _ _ hs he ht]
      rfl
    · rename_i b o n c i
      obtain ⟨cs, h2, h⟩ := R.bind_ok h
      obtain ⟨p, l, hp, hl, hlen, hrg⟩ := ldc_ok hd h2
      simp only [V] at hu
      obtain ⟨q, κ, hq, e1, _⟩ := hu
      rw [hp] at hq; cases hq
      have main : ∀ N, l = bcs n N → ∃ z, (convert src dst (a.eval x)).run P w = .ok z w ∧ V σ (.str n N) z := by
        intro N hN
        refine ⟨.string (bstr n N), ?_, by simp only [V]; rfl⟩
        rw [e1, run_convert_bytes_string w src dst e _ _ _ hs he ht]
        have hcells : (loadCells ⟨p.1, p.2 + o, none⟩ n).run P w = .ok (((unpack n N).map fun b => ((b.toNat : Nat) : Int)).map (Value.int .u8)).toArray w := by
          have := run_loadCells_list (P := P) w ⟨p.1, p.2 + o, none⟩ l (fun j v hv => by rw [Addr.add_mid]; exact hrg j v hv)
          rw [hlen] at this
          rw [this, hN, bcs, List.map_map]
          rfl
        rw [run_bytesToString w _ _ _ _ hcells, foldl_push, show (⟨ByteArray.empty.data ++ (unpack n N).toArray⟩ : ByteArray) = bstr n N from by apply ByteArray.ext; simp [bstr]]
      split at h
      · cases h
        simp only [Cs] at hl
        subst hl
        simp only [List.length_nil] at hlen
        subst hlen
        obtain ⟨z, g1, g2⟩ := main 0 rfl
        exact ⟨z, run_v g1, g2⟩
      · rename_i k N
        cases h
        rw [Cs_bs] at hl
        obtain ⟨m, rfl, hm⟩ := hl
        simp only [Cs] at hm
        subst hm
        rw [List.append_nil, bcs_length] at hlen
        subst hlen
        obtain ⟨z, g1, g2⟩ := main N (by simp)
        exact ⟨z, run_v g1, g2⟩
      · cases h
  case entry it =>
    obtain ⟨u, h1, h⟩ := R.bind_ok h
    have hu := opd_ok h1 (d it (by simp [Op.operands]))
    split at h
    case h_2 => cases h
    rename_i b
    simp only [V] at hu
    obtain ⟨p, hp, e1⟩ := hu
    split at h
    case h_2 => cases h
    rename_i m since seen step hg
    split at h
    case h_2 => cases h
    rename_i n es clock hn hgm
    split at h
    case h_2 => cases h
    rename_i hcl
    have hcl' := beq_iff.1 hcl
    subst hcl'
    obtain ⟨q, hq, ob, ho, hp0, q', hq', rfl⟩ := hd.blk _ _ hg
    rw [hp] at hq; cases hq
    obtain ⟨q2, hq2, ob2, ho2, hq20, l, hl, rfl⟩ := hd.blk _ _ hgm
    rw [hq'] at hq2; cases hq2
    have hlast : ∀ (l : List Nat) (n : Nat), lastN l = some n → l.toArray.back? = some n := by
      intro l
      induction l with
      | nil => intro n h; cases h
      | cons x r ih =>
        intro n h
        cases r with
        | nil => cases h; rfl
        | cons y r =>
          have := ih n h
          simp only [List.back?_toArray] at this ⊢
          rw [List.getLast?_cons_cons]; exact this
    have hfind : ∀ (es : List (AV × AV × Nat)) (l : List MapEntry) (v : AV), Es σ es l → bornF n es = .ok v → ∃ e, l.find? (fun e => e.born == n) = some e ∧ V σ v (.tuple #[e.key, e.val]) := by
      intro es
      induction es with
      | nil => intro l v _ h; cases h
      | cons x r ih =>
        intro l v hl hh
        obtain ⟨k, vv, bn⟩ := x
        simp only [Es] at hl
        obtain ⟨kx, vx, l', rfl, h1, h2, h3⟩ := hl
        unfold bornF at hh
        split at hh
        · rename_i hb
          have := beq_iff.1 hb
          simp only at this
          subst this
          cases hh
          exact ⟨⟨kx, vx, bn⟩, by simp, by simp only [V, Vs]; exact ⟨[kx, vx], ⟨kx, _, rfl, h1, vx, _, rfl, h2, rfl⟩, rfl⟩⟩
        · rename_i hb
          have hne := beq_false_ne hb
          obtain ⟨e, g1, g2⟩ := ih l' v h3 hh
          refine ⟨e, ?_, g2⟩
          rw [List.find?_cons_of_neg (by simpa using hne)]
          exact g1
    obtain ⟨e, g1, g2⟩ := hfind es l v hl h
    refine ⟨_, run_v ?_, g2⟩
    have ep : (⟨p.1, p.2 + 0, none⟩ : Addr) = ⟨p.1, 0, none⟩ := by rw [hp0]
    rw [e1, ep]
    have ho' : (getObj p.1).run P w = .ok (.mapIter (some q'.1) since seen.toArray clock) w := by simp only [getObj, Sem.run, ho]
    unfold Instr.entry
    simp only [Sem.run_bind, ho', Result.andThen_ok, hlast _ _ hn, run_getObj_map ho2, bne_self_eq_false, Bool.false_eq_true, if_false]
    rw [show l.toArray.find? (fun e => e.born == n) = some e by rw [← g1]; simp]
    rfl
  case call c =>
    obtain ⟨callee, args, ats⟩ := c
    simp only [Op.operands, Call.operands] at d
    cases callee <;> simp only at h <;> (try cases h; done)
    case builtin b =>
    dsimp only at d
    simp only [resolve, Sem.run_bind, Sem.run_pure, Result.andThen_ok, invoke]
    cases b <;> simp only at h <;> (try cases h; done)
    case len =>
      split at h
      case h_2 => cases h
      rename_i x t e1 e2
      split at h
      case h_2 => cases h
      rename_i kt et ht
      obtain ⟨m, h1, h⟩ := R.bind_ok h
      obtain ⟨es, h2, h⟩ := R.bind_ok h
      cases h
      rw [arr1 e1] at d ⊢
      rw [arr1 e2]
      have hm := opd_ok h1 (d x (by simp))
      refine ⟨.int .i64 es.length, run_v ?_, by simp only [V]; rfl⟩
      rcases mapA_ok hd h2 hm with ⟨e3, rfl⟩ | ⟨rr, l, clock, e3, ho, hl⟩
      · simp [Builtin.len_, run_underlying ht, e3, goInt]
      · simp [Builtin.len_, run_underlying ht, e3, goInt, run_getObj_map ho, Es_length hl]
end
end Go.Proofs.YtocabeobfbhajaaGreatDoor.Sx
