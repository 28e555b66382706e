/- A region that draws its order: one run in the order of the text. No program is named here. -/
import Derived.Test.YtocabeobfbhajaaGreatDoorSxRa
set_option linter.unusedVariables false
set_option linter.unusedSimpArgs false
namespace Go.Proofs.YtocabeobfbhajaaGreatDoor.Sx
noncomputable section
open Go Go.RowKit

/-! ### Values that are the same -/
def eqFn : Fn → Fn → Bool
  | .func f, .func g => Nat.beq f g
  | _, _ => false
theorem eqFn_ok {f g : Fn} (h : eqFn f g = true) : f = g := by
  cases f <;> cases g <;> simp only [eqFn] at h <;> (try cases h; done)
  rw [Nat.eq_of_beq_eq_true h]
mutual
def eqAV : AV → AV → Bool
  | .bool a, w => match w with
    | .bool b => eqB a b
    | _ => false
  | .int k a, w => match w with
    | .int j b => match decide (k = j) with
      | true => eqI a b
      | false => false
    | _ => false
  | .str n N, w => match w with
    | .str m M => match Nat.beq n m with
      | true => Nat.beq N M
      | false => false
    | _ => false
  | .ptr b o, w => match w with
    | .ptr b' o' => match Nat.beq b b' with
      | true => Nat.beq o o'
      | false => false
    | _ => false
  | .np, w => match w with
    | .np => true
    | _ => false
  | .sl b o n c x, w => match w with
    | .sl b' o' n' c' x' => match Nat.beq b b', Nat.beq o o', Nat.beq n n', Nat.beq c c', Nat.beq x x' with
      | true, true, true, true, true => true
      | _, _, _, _, _ => false
    | _ => false
  | .ns, w => match w with
    | .ns => true
    | _ => false
  | .mp b, w => match w with
    | .mp b' => Nat.beq b b'
    | _ => false
  | .nm, w => match w with
    | .nm => true
    | _ => false
  | .fn f x c, w => match w with
    | .fn f' x' c' => match eqFn f f', eqAVs x x', eqAVs c c' with
      | true, true, true => true
      | _, _, _ => false
    | _ => false
  | .nf, w => match w with
    | .nf => true
    | _ => false
  | .ifc t v, w => match w with
    | .ifc t' v' => match Nat.beq t t' with
      | true => eqAV v v'
      | false => false
    | _ => false
  | .ni, w => match w with
    | .ni => true
    | _ => false
  | .agg cs, w => match w with
    | .agg cs' => eqAVs cs cs'
    | _ => false
  | .bs n N, w => match w with
    | .bs m M => match Nat.beq n m with
      | true => Nat.beq N M
      | false => false
    | _ => false
  | .top, _ => false
  | .tup cs, w => match w with
    | .tup cs' => eqAVs cs cs'
    | _ => false
  | .sym i, w => match w with
    | .sym j => Nat.beq i j
    | _ => false
  | .yl i, w => match w with
    | .yl j => Nat.beq i j
    | _ => false
def eqAVs : List AV → List AV → Bool
  | [], w => match w with
    | [] => true
    | _ => false
  | v :: r, w => match w with
    | v' :: r' => match eqAV v v' with
      | true => eqAVs r r'
      | false => false
    | _ => false
end
mutual
theorem eqAV_ok : ∀ (v w : AV), eqAV v w = true → v = w
  | .bool a, w, h => by
    cases w <;> simp only [eqAV] at h <;> (try cases h; done)
    rw [eqB_ok] at h; simp at h; rw [h]
  | .int k a, w, h => by
    cases w <;> simp only [eqAV] at h <;> (try cases h; done)
    split at h
    · rename_i hk; simp at hk; rw [eqI_eq] at h; simp at h; rw [hk, h]
    · cases h
  | .str n N, w, h => by
    cases w <;> simp only [eqAV] at h <;> (try cases h; done)
    split at h
    · rename_i hk; rw [Nat.eq_of_beq_eq_true hk, Nat.eq_of_beq_eq_true h]
    · cases h
  | .ptr n N, w, h => by
    cases w <;> simp only [eqAV] at h <;> (try cases h; done)
    split at h
    · rename_i hk; rw [Nat.eq_of_beq_eq_true hk, Nat.eq_of_beq_eq_true h]
    · cases h
  | .np, w, h => by cases w <;> simp only [eqAV] at h <;> first | rfl | cases h
  | .sl b o n c x, w, h => by
    cases w <;> simp only [eqAV] at h <;> (try cases h; done)
    split at h
    · rename_i h1 h2 h3 h4 h5
      rw [Nat.eq_of_beq_eq_true h1, Nat.eq_of_beq_eq_true h2, Nat.eq_of_beq_eq_true h3, Nat.eq_of_beq_eq_true h4, Nat.eq_of_beq_eq_true h5]
    · cases h
  | .ns, w, h => by cases w <;> simp only [eqAV] at h <;> first | rfl | cases h
  | .mp b, w, h => by
    cases w <;> simp only [eqAV] at h <;> (try cases h; done)
    rw [Nat.eq_of_beq_eq_true h]
  | .nm, w, h => by cases w <;> simp only [eqAV] at h <;> first | rfl | cases h
  | .fn f x c, w, h => by
    cases w <;> simp only [eqAV] at h <;> (try cases h; done)
    split at h
    · rename_i h1 h2 h3
      rw [eqFn_ok h1, eqAVs_ok _ _ h2, eqAVs_ok _ _ h3]
    · cases h
  | .nf, w, h => by cases w <;> simp only [eqAV] at h <;> first | rfl | cases h
  | .ifc t v, w, h => by
    cases w <;> simp only [eqAV] at h <;> (try cases h; done)
    split at h
    · rename_i hk; rw [Nat.eq_of_beq_eq_true hk, eqAV_ok _ _ h]
    · cases h
  | .ni, w, h => by cases w <;> simp only [eqAV] at h <;> first | rfl | cases h
  | .agg cs, w, h => by
    cases w <;> simp only [eqAV] at h <;> (try cases h; done)
    rw [eqAVs_ok _ _ h]
  | .bs n N, w, h => by
    cases w <;> simp only [eqAV] at h <;> (try cases h; done)
    split at h
    · rename_i hk; rw [Nat.eq_of_beq_eq_true hk, Nat.eq_of_beq_eq_true h]
    · cases h
  | .top, w, h => by simp only [eqAV] at h; cases h
  | .tup cs, w, h => by
    cases w <;> simp only [eqAV] at h <;> (try cases h; done)
    rw [eqAVs_ok _ _ h]
  | .sym i, w, h => by
    cases w <;> simp only [eqAV] at h <;> (try cases h; done)
    rw [Nat.eq_of_beq_eq_true h]
  | .yl i, w, h => by
    cases w <;> simp only [eqAV] at h <;> (try cases h; done)
    rw [Nat.eq_of_beq_eq_true h]
theorem eqAVs_ok : ∀ (v w : List AV), eqAVs v w = true → v = w
  | [], w, h => by cases w <;> simp only [eqAVs] at h <;> first | rfl | cases h
  | v :: r, w, h => by
    cases w <;> simp only [eqAVs] at h <;> (try cases h; done)
    split at h
    · rename_i hk; rw [eqAV_ok _ _ hk, eqAVs_ok _ _ h]
    · cases h
end

/-! ### The run -/
structure Rec where
  i : Nat
  T : Tm
  op : Op
  v : AV
  k : Nat
structure X where
  i : Nat
  T : Tm
  k : Nat
  S : St
  Ss : List (Nat × St)
  pend : List (Nat × AB)
  fld : List (Nat × AB × Nat)
  rds : List Rec
  efs : List (Nat × Nat)
  v : AV
  kd : Kd
noncomputable def flush (c : Nat) : List (Nat × AB) → St → St
  | [], s => s
  | (j, ab) :: r, s => (flush c r s).addB (Nat.add c j) ab
/-- Those blocks that stand before, those that do not. -/
def bef (m : Nat) : List (Nat × AB) → List (Nat × AB)
  | [] => []
  | (j, ab) :: r => match bit m j with
    | true => (j, ab) :: bef m r
    | false => bef m r
def nbef (m : Nat) : List (Nat × AB) → List (Nat × AB)
  | [] => []
  | (j, ab) :: r => match bit m j with
    | true => nbef m r
    | false => (j, ab) :: nbef m r
def withK (k : Nat) : List (Nat × AB) → List (Nat × AB × Nat) → List (Nat × AB × Nat)
  | [], l => l
  | (j, ab) :: r, l => (j, ab, k) :: withK k r l
def allB (m : Nat) : List (Nat × Nat) → Bool
  | [] => true
  | (e, _) :: r => match bit m e with
    | true => allB m r
    | false => false
noncomputable def effA (E : Env) (call : CallR) (T : Tm) (s : St) (op : Op) : R (AV × St) := match clsO E.P op with
  | .E => sev E.G E.P T s op
  | .C => match op with
    | .call c => (cev E.G E.P T c).bind fun q => (callOp E call q.1 q.2 s).bind fun r => match r.1 with
      | .ret v => .ok (v, r.2)
      | .pan _ => .no 620
    | _ => .no 621
  | _ => .no 622
noncomputable def stp (E : Env) (call : CallR) (nt : Nat) (all : List Oper) (c cN : Nat) (m : Nat) (o : Oper) (x : X) : R X := (wantA x.T all o).bind fun b => match b with
  | false => (putA nt x.T o.dst (.tup [])).bind fun T' => .ok { x with i := Nat.succ x.i, T := T', v := .tup [], kd := .skip }
  | true => match clsO E.P o.op with
    | .P => (pevF o.op E.G E.P x.T).bind fun v => (putA nt x.T o.dst v).bind fun T' => .ok { x with i := Nat.succ x.i, T := T', v := v, kd := .pure }
    | .A => (aev E.G E.P x.T (Nat.add c x.i) o.op).bind fun q => (putA nt x.T o.dst q.1).bind fun T' => .ok { x with i := Nat.succ x.i, T := T', v := q.1, kd := .alloc q.2, pend := (x.i, q.2) :: x.pend }
    | .L => (lev E.G E.P x.T (flush c (bef m x.pend) x.S) o.op).bind fun v => (putA nt x.T o.dst v).bind fun T' =>
      .ok { x with i := Nat.succ x.i, T := T', v := v, kd := .read, rds := ⟨x.i, x.T, o.op, v, x.k⟩ :: x.rds }
    | _ => R.iff (allB m x.efs) 630 ((effA E call x.T (flush c (bef m x.pend) x.S) o.op).bind fun q => R.iff (Nat.ble cN q.2.nx) 631 ((putA nt x.T o.dst q.1).bind fun T' =>
      .ok { i := Nat.succ x.i, T := T', v := q.1, kd := .eff, k := Nat.succ x.k, S := q.2, Ss := (Nat.succ x.k, q.2) :: x.Ss, pend := nbef m x.pend, fld := withK (Nat.succ x.k) (bef m x.pend) x.fld, rds := x.rds, efs := (x.i, x.k) :: x.efs }))
noncomputable def goA (E : Env) (call : CallR) (nt : Nat) (all : List Oper) (c cN : Nat) : List Oper → List Nat → X → R X
  | [], _, x => .ok x
  | _ :: _, [], _ => .no 640
  | o :: r, m :: ms, x => (stp E call nt all c cN m o x).bind fun y => goA E call nt all c cN r ms y
/-- No block lies where it will be put. -/
noncomputable def isNo (s : St) (n : Nat) : Bool := match s.mem.get n with
  | none => true
  | some _ => false
noncomputable def noS1 (c k : Nat) (s : St) : List (Nat × AB × Nat) → Bool
  | [] => true
  | (j, _, f) :: r => match Nat.ble f k with
    | true => noS1 c k s r
    | false => match isNo s (Nat.add c j) with
      | true => noS1 c k s r
      | false => false
noncomputable def noS (c : Nat) (al : List (Nat × AB × Nat)) : List (Nat × St) → Bool
  | [] => true
  | (k, s) :: r => match noS1 c k s al with
    | true => noS c al r
    | false => false
/-- Those blocks that are there and are no part of the memory, at a read. -/
def selA (k m : Nat) : List (Nat × AB × Nat) → List (Nat × AB)
  | [] => []
  | (j, ab, f) :: r => match Nat.ble (Nat.succ k) f with
    | true => match bit m j with
      | true => (j, ab) :: selA k m r
      | false => selA k m r
    | false => selA k m r
/-- Whether a read may stand behind k effects. -/
def winA (ms : List Nat) (i m k : Nat) : List (Nat × Nat) → Bool
  | [] => true
  | (e, κ) :: r => match bit m e with
    | true => match Nat.ble (Nat.succ κ) k with
      | true => winA ms i m k r
      | false => false
    | false => match bfm ms e i with
      | true => match Nat.ble k κ with
        | true => winA ms i m k r
        | false => false
      | false => winA ms i m k r
def sameA (v : AV) : R AV → Bool
  | .ok w => eqAV v w
  | .no _ => false
noncomputable def rdc1 (E : Env) (c : Nat) (ms : List Nat) (al : List (Nat × AB × Nat)) (efs : List (Nat × Nat)) (r : Rec) (m : Nat) : List (Nat × St) → Bool
  | [] => true
  | (k, s) :: l => match Nat.beq k r.k with
    | true => rdc1 E c ms al efs r m l
    | false => match winA ms r.i m k efs with
      | false => rdc1 E c ms al efs r m l
      | true => match sameA r.v (lev E.G E.P r.T (flush c (selA k m al) s) r.op) with
        | true => rdc1 E c ms al efs r m l
        | false => false
noncomputable def rdc (E : Env) (c : Nat) (ms : List Nat) (al : List (Nat × AB × Nat)) (efs : List (Nat × Nat)) (Ss : List (Nat × St)) : List Rec → Bool
  | [] => true
  | r :: l => match ms[r.i]? with
    | some m => match rdc1 E c ms al efs r m Ss with
      | true => rdc E c ms al efs Ss l
      | false => false
    | none => false
noncomputable def drwA (E : Env) (call : CallR) (nt : Nat) (all : List Oper) (T : Tm) (ds : List DA) (s : St) : R Out :=
  (mks all []).bind fun ms => R.iff (apt all all ms []) 650 <| R.iff (Nat.ble (Nat.add s.nx all.length) topName) 651 <|
  (goA E call nt all s.nx (Nat.add s.nx all.length) all ms { i := 0, T := T, k := 0, S := { s with nx := Nat.add s.nx all.length }, Ss := [(0, { s with nx := Nat.add s.nx all.length })], pend := [], fld := [], rds := [], efs := [], v := .tup [], kd := .skip }).bind fun x =>
  R.iff (noS s.nx (withK (Nat.succ x.k) x.pend x.fld) x.Ss) 652 <| R.iff (rdc E s.nx ms (withK (Nat.succ x.k) x.pend x.fld) x.efs x.Ss x.rds) 653 <|
  .ok (.normal, x.T, ds, flush s.nx x.pend x.S)

/-! ### A step -/
section
variable (E : Env) (call : CallR) (nt : Nat) (all : List Oper) (c cN m : Nat) (o : Oper) (x y : X)
structure Quiet : Prop where
  k : y.k = x.k
  S : y.S = x.S
  Ss : y.Ss = x.Ss
  fld : y.fld = x.fld
  efs : y.efs = x.efs
structure Loud : Prop where
  kd : y.kd = .eff
  all : allB m x.efs = true
  eff : effA E call x.T (flush c (bef m x.pend) x.S) o.op = .ok (y.v, y.S)
  nx : cN ≤ y.S.nx
  k : y.k = x.k + 1
  Ss : y.Ss = (x.k + 1, y.S) :: x.Ss
  pend : y.pend = nbef m x.pend
  fld : y.fld = withK (x.k + 1) (bef m x.pend) x.fld
  rds : y.rds = x.rds
  efs : y.efs = (x.i, x.k) :: x.efs
structure Step : Prop where
  i : y.i = x.i + 1
  put : putA nt x.T o.dst y.v = .ok y.T
  want : ∃ b, wantA x.T all o = .ok b ∧ b = match y.kd with | .skip => false | _ => true
  what : (Quiet x y ∧ ((y.kd = .skip ∧ y.v = .tup [] ∧ y.pend = x.pend ∧ y.rds = x.rds) ∨ (y.kd = .pure ∧ pev E.G E.P x.T o.op = .ok y.v ∧ y.pend = x.pend ∧ y.rds = x.rds) ∨
      (∃ ab, y.kd = .alloc ab ∧ aev E.G E.P x.T (c + x.i) o.op = .ok (y.v, ab) ∧ y.pend = (x.i, ab) :: x.pend ∧ y.rds = x.rds) ∨
      (y.kd = .read ∧ lev E.G E.P x.T (flush c (bef m x.pend) x.S) o.op = .ok y.v ∧ y.pend = x.pend ∧ y.rds = ⟨x.i, x.T, o.op, y.v, x.k⟩ :: x.rds))) ∨ Loud E call c cN m o x y
end
theorem stp_ok {E : Env} {call : CallR} {nt : Nat} {all : List Oper} {c cN m : Nat} {o : Oper} {x y : X} (h : stp E call nt all c cN m o x = .ok y) : Step E call nt all c cN m o x y := by
  unfold stp at h
  obtain ⟨b, hb, h1⟩ := R.bind_ok h
  clear h
  cases b with
  | false =>
    obtain ⟨T', ht, h2⟩ := R.bind_ok h1
    cases h2
    exact ⟨rfl, ht, ⟨_, hb, rfl⟩, .inl ⟨⟨rfl, rfl, rfl, rfl, rfl⟩, .inl ⟨rfl, rfl, rfl, rfl⟩⟩⟩
  | true =>
    have loud : R.iff (allB m x.efs) 630 ((effA E call x.T (flush c (bef m x.pend) x.S) o.op).bind fun q => R.iff (Nat.ble cN q.2.nx) 631 ((putA nt x.T o.dst q.1).bind fun T' =>
      .ok { i := Nat.succ x.i, T := T', v := q.1, kd := .eff, k := Nat.succ x.k, S := q.2, Ss := (Nat.succ x.k, q.2) :: x.Ss, pend := nbef m x.pend, fld := withK (Nat.succ x.k) (bef m x.pend) x.fld, rds := x.rds, efs := (x.i, x.k) :: x.efs })) = .ok y → Step E call nt all c cN m o x y := by
      intro h2
      obtain ⟨ha, h3⟩ := R.iff_ok h2
      obtain ⟨q, hq, h4⟩ := R.bind_ok h3
      obtain ⟨hn, h5⟩ := R.iff_ok h4
      obtain ⟨T', ht, h6⟩ := R.bind_ok h5
      cases h6
      exact ⟨rfl, ht, ⟨_, hb, rfl⟩, .inr ⟨rfl, ha, hq, Nat.le_of_ble_eq_true hn, rfl, rfl, rfl, rfl, rfl, rfl⟩⟩
    dsimp only at h1
    split at h1
    · obtain ⟨v, hv, h2⟩ := R.bind_ok h1
      rw [pevF_eq] at hv
      obtain ⟨T', ht, h3⟩ := R.bind_ok h2
      cases h3
      exact ⟨rfl, ht, ⟨_, hb, rfl⟩, .inl ⟨⟨rfl, rfl, rfl, rfl, rfl⟩, .inr (.inl ⟨rfl, hv, rfl, rfl⟩)⟩⟩
    · obtain ⟨q, hq, h2⟩ := R.bind_ok h1
      obtain ⟨T', ht, h3⟩ := R.bind_ok h2
      cases h3
      exact ⟨rfl, ht, ⟨_, hb, rfl⟩, .inl ⟨⟨rfl, rfl, rfl, rfl, rfl⟩, .inr (.inr (.inl ⟨q.2, rfl, hq, rfl, rfl⟩))⟩⟩
    · obtain ⟨v, hv, h2⟩ := R.bind_ok h1
      obtain ⟨T', ht, h3⟩ := R.bind_ok h2
      cases h3
      exact ⟨rfl, ht, ⟨_, hb, rfl⟩, .inl ⟨⟨rfl, rfl, rfl, rfl, rfl⟩, .inr (.inr (.inr ⟨rfl, hv, rfl, rfl⟩))⟩⟩
    · exact loud h1
theorem goA_ok {E : Env} {call : CallR} {nt : Nat} {all : List Oper} {c cN : Nat} : ∀ (l : List Oper) (ms : List Nat) (x y : X), goA E call nt all c cN l ms x = .ok y →
    ∃ f : Nat → X, f 0 = x ∧ f l.length = y ∧ ∀ i o, l[i]? = some o → ∃ m, ms[i]? = some m ∧ Step E call nt all c cN m o (f i) (f (i + 1))
  | [], ms, x, y, h => by cases h; exact ⟨fun _ => x, rfl, rfl, fun i o hi => by simp at hi⟩
  | o :: r, [], x, y, h => by cases h
  | o :: r, m :: ms, x, y, h => by
    obtain ⟨z, h1, h2⟩ := R.bind_ok h
    obtain ⟨f, f0, fl, fs⟩ := goA_ok r ms z y h2
    refine ⟨fun n => match n with | 0 => x | n + 1 => f n, rfl, fl, fun i o' hi => ?_⟩
    cases i with
    | zero =>
      simp only [List.getElem?_cons_zero, Option.some.injEq] at hi
      subst hi
      exact ⟨m, rfl, show Step E call nt all c cN m o x (f 0) by rw [f0]; exact stp_ok h1⟩
    | succ i =>
      obtain ⟨m', g1, g2⟩ := fs i o' (by simpa using hi)
      exact ⟨m', by simpa using g1, g2⟩

/-! ### Lists of blocks -/
theorem mem_bef {m j : Nat} {ab : AB} : ∀ {l : List (Nat × AB)}, (j, ab) ∈ bef m l ↔ (j, ab) ∈ l ∧ bit m j = true
  | [] => by simp [bef]
  | (i, a) :: r => by
    unfold bef
    split
    · rename_i hb
      simp only [List.mem_cons, Prod.mk.injEq, mem_bef]
      constructor
      · rintro (⟨rfl, rfl⟩ | h)
        · exact ⟨.inl ⟨rfl, rfl⟩, hb⟩
        · exact ⟨.inr h.1, h.2⟩
      · rintro ⟨h | h, h2⟩
        · exact .inl h
        · exact .inr ⟨h, h2⟩
    · rename_i hb
      simp only [List.mem_cons, Prod.mk.injEq, mem_bef]
      constructor
      · intro h; exact ⟨.inr h.1, h.2⟩
      · rintro ⟨⟨rfl, rfl⟩ | h, h2⟩
        · rw [hb] at h2; cases h2
        · exact ⟨h, h2⟩
theorem mem_nbef {m j : Nat} {ab : AB} : ∀ {l : List (Nat × AB)}, (j, ab) ∈ nbef m l ↔ (j, ab) ∈ l ∧ bit m j = false
  | [] => by simp [nbef]
  | (i, a) :: r => by
    unfold nbef
    split
    · rename_i hb
      simp only [List.mem_cons, Prod.mk.injEq, mem_nbef]
      constructor
      · intro h; exact ⟨.inr h.1, h.2⟩
      · rintro ⟨⟨rfl, rfl⟩ | h, h2⟩
        · rw [hb] at h2; cases h2
        · exact ⟨h, h2⟩
    · rename_i hb
      simp only [List.mem_cons, Prod.mk.injEq, mem_nbef]
      constructor
      · rintro (⟨rfl, rfl⟩ | h)
        · exact ⟨.inl ⟨rfl, rfl⟩, hb⟩
        · exact ⟨.inr h.1, h.2⟩
      · rintro ⟨h | h, h2⟩
        · exact .inl h
        · exact .inr ⟨h, h2⟩
theorem mem_withK {k j f : Nat} {ab : AB} {l' : List (Nat × AB × Nat)} : ∀ {l : List (Nat × AB)}, (j, ab, f) ∈ withK k l l' ↔ ((j, ab) ∈ l ∧ f = k) ∨ (j, ab, f) ∈ l'
  | [] => by simp [withK]
  | (i, a) :: r => by
    unfold withK
    simp only [List.mem_cons, Prod.mk.injEq, mem_withK]
    constructor
    · rintro (⟨rfl, rfl, rfl⟩ | ⟨h, rfl⟩ | h)
      · exact .inl ⟨.inl ⟨rfl, rfl⟩, rfl⟩
      · exact .inl ⟨.inr h, rfl⟩
      · exact .inr h
    · rintro (⟨⟨rfl, rfl⟩ | h, rfl⟩ | h)
      · exact .inl ⟨rfl, rfl, rfl⟩
      · exact .inr (.inl ⟨h, rfl⟩)
      · exact .inr (.inr h)
theorem mem_selA {k m j : Nat} {ab : AB} : ∀ {l : List (Nat × AB × Nat)}, (j, ab) ∈ selA k m l ↔ ∃ f, (j, ab, f) ∈ l ∧ k < f ∧ bit m j = true
  | [] => by simp [selA]
  | (i, a, f) :: r => by
    have ih : (j, ab) ∈ selA k m r ↔ ∃ f, (j, ab, f) ∈ r ∧ k < f ∧ bit m j = true := mem_selA
    have drop : ¬ (k < f ∧ bit m i = true) → ((∃ f', (j, ab, f') ∈ (i, a, f) :: r ∧ k < f' ∧ bit m j = true) ↔ ∃ f', (j, ab, f') ∈ r ∧ k < f' ∧ bit m j = true) := by
      intro hn
      constructor
      · rintro ⟨f', h1, h2, h3⟩
        rcases List.mem_cons.1 h1 with h | h
        · simp only [Prod.mk.injEq] at h
          obtain ⟨rfl, rfl, rfl⟩ := h
          exact absurd ⟨h2, h3⟩ hn
        · exact ⟨f', h, h2, h3⟩
      · rintro ⟨f', h1, h2⟩
        exact ⟨f', List.mem_cons_of_mem _ h1, h2⟩
    unfold selA
    split
    · rename_i hk
      have hk' := Nat.le_of_ble_eq_true hk
      split
      · rename_i hb
        rw [List.mem_cons, ih]
        constructor
        · rintro (h | ⟨f', h1, h2⟩)
          · simp only [Prod.mk.injEq] at h
            obtain ⟨rfl, rfl⟩ := h
            exact ⟨f, List.mem_cons_self, hk', hb⟩
          · exact ⟨f', List.mem_cons_of_mem _ h1, h2⟩
        · rintro ⟨f', h1, h2⟩
          rcases List.mem_cons.1 h1 with h | h
          · simp only [Prod.mk.injEq] at h
            exact .inl (by simp [h.1, h.2.1])
          · exact .inr ⟨f', h, h2⟩
      · rename_i hb
        rw [ih, drop (fun h => by rw [hb] at h; cases h.2)]
    · rename_i hk
      have hk' := ble_false hk
      rw [ih, drop (fun h => by omega)]
theorem allB_ok {m : Nat} : ∀ {l : List (Nat × Nat)}, allB m l = true → ∀ e κ, (e, κ) ∈ l → bit m e = true
  | (e0, κ0) :: r, h, e, κ, hm => by
    unfold allB at h
    split at h
    · rename_i hb
      rcases List.mem_cons.1 hm with h1 | h1
      · cases h1; exact hb
      · exact allB_ok h e κ h1
    · cases h
theorem noS_ok {c : Nat} {al : List (Nat × AB × Nat)} : ∀ {l : List (Nat × St)}, noS c al l = true → ∀ k s, (k, s) ∈ l → ∀ j ab f, (j, ab, f) ∈ al → k < f → s.mem.get (c + j) = none
  | [], h, k, s, hm, j, ab, f, hj, hk => nomatch hm
  | (k0, s0) :: r, h, k, s, hm, j, ab, f, hj, hk => by
    unfold noS at h
    split at h
    case h_2 => cases h
    rename_i h1
    rcases List.mem_cons.1 hm with e | hm'
    · cases e
      clear h hm
      induction al with
      | nil => cases hj
      | cons a r ih =>
        obtain ⟨j0, ab0, f0⟩ := a
        unfold noS1 at h1
        split at h1
        · rename_i hb
          have hb' := Nat.le_of_ble_eq_true hb
          rcases List.mem_cons.1 hj with e | hj'
          · cases e; omega
          · exact ih hj' h1
        · split at h1
          case h_2 => cases h1
          rename_i hi
          rcases List.mem_cons.1 hj with e | hj'
          · cases e
            unfold isNo at hi
            split at hi
            · assumption
            · cases hi
          · exact ih hj' h1
    · exact noS_ok h k s hm' j ab f hj hk
theorem winA_ok {ms : List Nat} {i m k : Nat} : ∀ {l : List (Nat × Nat)}, (∀ e κ, (e, κ) ∈ l → (bit m e = true → κ < k) ∧ (bfm ms e i = true → k ≤ κ)) → winA ms i m k l = true
  | [], h => rfl
  | (e, κ) :: r, h => by
    have ih := winA_ok (l := r) (fun e κ hm => h e κ (List.mem_cons_of_mem _ hm))
    obtain ⟨h1, h2⟩ := h e κ List.mem_cons_self
    unfold winA
    split
    · rename_i hb
      rw [show Nat.ble (Nat.succ κ) k = true from Nat.ble_eq_true_of_le (h1 hb)]
      exact ih
    · split
      · rename_i hb
        rw [show Nat.ble k κ = true from Nat.ble_eq_true_of_le (h2 hb)]
        exact ih
      · exact ih
theorem rdc1_ok {E : Env} {c : Nat} {ms : List Nat} {al : List (Nat × AB × Nat)} {efs : List (Nat × Nat)} {r : Rec} {m : Nat} : ∀ {l : List (Nat × St)}, rdc1 E c ms al efs r m l = true → ∀ k s, (k, s) ∈ l → k ≠ r.k → winA ms r.i m k efs = true →
    lev E.G E.P r.T (flush c (selA k m al) s) r.op = .ok r.v
  | [], h, k, s, hm, hk, hw => nomatch hm
  | (k0, s0) :: l, h, k, s, hm, hk, hw => by
    unfold rdc1 at h
    split at h
    · rename_i hb
      have hb' := Nat.eq_of_beq_eq_true hb
      rcases List.mem_cons.1 hm with e | hm'
      · cases e; exact absurd hb' hk
      · exact rdc1_ok h k s hm' hk hw
    · split at h
      · rename_i hb
        rcases List.mem_cons.1 hm with e | hm'
        · cases e; rw [hw] at hb; cases hb
        · exact rdc1_ok h k s hm' hk hw
      · split at h
        case h_2 => cases h
        rename_i hs
        rcases List.mem_cons.1 hm with e | hm'
        · cases e
          unfold sameA at hs
          split at hs
          · rename_i w hl
            rw [eqAV_ok _ _ hs]; exact hl
          · cases hs
        · exact rdc1_ok h k s hm' hk hw
theorem rdc_ok {E : Env} {c : Nat} {ms : List Nat} {al : List (Nat × AB × Nat)} {efs : List (Nat × Nat)} {Ss : List (Nat × St)} : ∀ {l : List Rec}, rdc E c ms al efs Ss l = true → ∀ r, r ∈ l → ∀ k s m, ms[r.i]? = some m → (k, s) ∈ Ss → k ≠ r.k → winA ms r.i m k efs = true →
    lev E.G E.P r.T (flush c (selA k m al) s) r.op = .ok r.v
  | [], h, r, hr, k, s, m, hm, hks, hk, hw => nomatch hr
  | r0 :: l, h, r, hr, k, s, m, hm, hks, hk, hw => by
    unfold rdc at h
    split at h
    case h_2 => cases h
    rename_i m0 hm0
    split at h
    case h_2 => cases h
    rename_i h1
    rcases List.mem_cons.1 hr with e | hr'
    · subst e
      rw [hm] at hm0; cases hm0
      exact rdc1_ok h1 k s hks hk hw
    · exact rdc_ok h r hr' k s m hm hks hk hw
/-- A memory with blocks more. -/
theorem flush_nx (c : Nat) : ∀ (l : List (Nat × AB)) (s : St), (flush c l s).nx = s.nx ∧ (flush c l s).nc = s.nc
  | [], s => ⟨rfl, rfl⟩
  | (j, ab) :: r, s => flush_nx c r s
theorem flush_get {c N : Nat} (hN : c + N ≤ topName) : ∀ (l : List (Nat × AB)) (s : St), (∀ j ab, (j, ab) ∈ l → j < N) → ∀ n, (flush c l s).mem.get n = match l.find? (fun q => c + q.1 == n) with | some q => some q.2 | none => s.mem.get n
  | [], s, h, n => rfl
  | (j, ab) :: r, s, h, n => by
    have hj := h j ab List.mem_cons_self
    show ((flush c r s).addB (c + j) ab).mem.get n = _
    rw [get_addB (by omega), List.find?_cons]
    by_cases e : n = c + j
    · subst e; simp
    · rw [if_neg e]
      have : (c + (j, ab).1 == n) = false := by simp; exact fun h => e h.symm
      rw [this]
      exact flush_get hN r s (fun j ab hm => h j ab (List.mem_cons_of_mem _ hm)) n
theorem flush_ms {c N : Nat} (hN : c + N ≤ topName) {kd : Nat → Kd} {p : Nat → Prop} [DecidablePred p] {l : List (Nat × AB)} (s : St) (hl : ∀ j ab, (j, ab) ∈ l ↔ j < N ∧ kd j = .alloc ab ∧ p j) :
    (flush c l s).ms = s.ms.plus fun n => if c ≤ n ∧ n < c + N ∧ p (n - c) then (match kd (n - c) with | .alloc ab => some ab | _ => none) else none := by
  unfold St.ms MS.plus
  rw [(flush_nx c l s).1, (flush_nx c l s).2]
  congr 1
  funext n
  rw [flush_get hN l s (fun j ab hm => ((hl j ab).1 hm).1)]
  cases hf : l.find? (fun q => c + q.1 == n) with
  | some q =>
    obtain ⟨j, ab⟩ := q
    have h1 := List.find?_some hf
    have h2 := List.mem_of_find?_eq_some hf
    simp only [beq_iff_eq] at h1
    obtain ⟨g1, g2, g3⟩ := (hl j ab).1 h2
    subst h1
    have e : c + j - c = j := by omega
    simp only [e]
    rw [if_pos ⟨by omega, by omega, g3⟩, g2]
    rfl
  | none =>
    rw [List.find?_eq_none] at hf
    have : (if c ≤ n ∧ n < c + N ∧ p (n - c) then (match kd (n - c) with | .alloc ab => some ab | _ => none) else none) = (none : Option AB) := by
      split
      · rename_i hc
        split
        · rename_i ab hk
          have := (hl (n - c) ab).2 ⟨by omega, hk, hc.2.2⟩
          have := hf _ this
          simp only [beq_iff_eq] at this
          omega
        · rfl
      · rfl
    simp only [this]
    rfl
end
end Go.Proofs.YtocabeobfbhajaaGreatDoor.Sx
