/- All operations that only reckon, as one function. No program is named here. -/
import Derived.Test.YtocabeobfbhajaaGreatDoorSxK
set_option linter.unusedVariables false
set_option linter.unusedSimpArgs false
namespace Go.Proofs.YtocabeobfbhajaaGreatDoor.Sx
noncomputable section
open Go Go.RowKit
variable {P : Program}

noncomputable def opds (G : Nat) (T : Tm) : List Operand → R (List AV)
  | [] => .ok []
  | x :: r => (opd G T x).bind fun v => (opds G T r).bind fun t => .ok (v :: t)
noncomputable def opdO (G : Nat) (T : Tm) : Option Operand → R (Option AV)
  | none => .ok none
  | some x => (opd G T x).bind fun v => .ok (some v)
noncomputable def opdP (G : Nat) (T : Tm) : List (Nat × Operand) → R (List (Nat × AV))
  | [] => .ok []
  | x :: r => (opd G T x.2).bind fun v => (opdP G T r).bind fun t => .ok ((x.1, v) :: t)
section
variable {G : Nat} {σ : Sg} {T : Tm} {a : Act}
theorem opds_ok : ∀ {l : List Operand} {vs : List AV}, opds G T l = .ok vs → (∀ x ∈ l, Od G σ (tget T) a x) → Vs σ vs (l.map a.eval)
  | [], vs, h, _ => by cases h; simp [Vs]
  | x :: r, vs, h, d => by
    obtain ⟨v, h1, h⟩ := R.bind_ok h
    obtain ⟨t, h2, h⟩ := R.bind_ok h
    cases h
    simp only [Vs, List.map_cons]
    exact ⟨_, _, rfl, opd_ok h1 (d x (by simp)), opds_ok h2 fun y hy => d y (by simp [hy])⟩
theorem opdO_ok {x : Option Operand} {v : Option AV} (h : opdO G T x = .ok v) (d : ∀ y ∈ x.toArray, Od G σ (tget T) a y) : VO σ v (x.map a.eval) := by
  cases x with
  | none => cases h; exact .none
  | some x =>
    obtain ⟨u, h1, h⟩ := R.bind_ok h
    cases h
    exact .some (opd_ok h1 (d x (by simp)))
theorem opdP_ok : ∀ {l : List (Nat × Operand)} {vs : List (Nat × AV)}, opdP G T l = .ok vs → (∀ x ∈ l, Od G σ (tget T) a x.2) → Ps σ vs (l.map fun x => (x.1, a.eval x.2))
  | [], vs, h, _ => by cases h; simp [Ps]
  | x :: r, vs, h, d => by
    obtain ⟨v, h1, h⟩ := R.bind_ok h
    obtain ⟨t, h2, h⟩ := R.bind_ok h
    cases h
    simp only [Ps, List.map_cons]
    exact ⟨_, _, rfl, opd_ok h1 (d x (by simp)), opdP_ok h2 fun y hy => d y (by simp [hy])⟩
end
/-! ### Methods -/
def methA (P : Program) (t : TypeId) (name : String) (v : AV) : R (Nat × AV) := match P.info? t, P.underlying t with
  | some i, some d => match i.methods.toList.find? (·.name == name) with
    | some m => match m.path.toList, m.func with
      | [], some (f, p) => match d, p with
        | .pointer _, true => .ok (f, v)
        | .pointer _, false => .no 400
        | _, true => .no 401
        | _, false => .ok (f, v)
      | [st], some (f, p) => match st.deref, p with
        | false, false => match P.underlying st.struct with
          | some (.struct fs) => match fs.toList[st.index]? with
            | some fd => match P.underlying fd.type with
              | some (.pointer _) => .no 405
              | some _ => match v with
                | .agg cs => (partA P fd.type cs fd.offset).bind fun v' => .ok (f, v')
                | _ => .no 406
              | none => .no 407
            | none => .no 408
          | _ => .no 409
        | _, _ => .no 399
      | _, _ => .no 402
    | none => .no 403
  | _, _ => .no 404
theorem arr0 {α : Type} {a : Array α} (h : a.toList = []) : a = #[] := by cases a; simp at h; rw [h]
theorem arr1 {α : Type} {a : Array α} {x : α} (h : a.toList = [x]) : a = #[x] := by
  cases a; simp at h; rw [h]
theorem methA_ok {σ : Sg} {t : TypeId} {name : String} {v v' : AV} {f : Nat} (h : methA P t name v = .ok (f, v')) {x : Value} (hv : V σ v x) (w : World) :
    ∃ x', V σ v' x' ∧ (method (P.types.size + Made.depth) t x name).run P w = .ok (f, x') w ∧ (nilAhead (P.types.size + Made.depth) t x name).run P w = .ok (some false) w := by
  unfold methA at h
  split at h
  case h_2 => cases h
  rename_i i d hi hd
  split at h
  case h_2 => cases h
  rename_i m hm
  have hm' : i.methods.find? (·.name == name) = some m := by rw [← hm]; simp
  have hti : (typeInfo t).run P w = .ok i w := by simp [typeInfo, hi]
  have hfu : P.types.size + Made.depth = (P.types.size + 99) + 1 := rfl
  rw [hfu]
  split at h
  case h_3 => cases h
  · rename_i g p hp hf
    have hp' := arr0 hp
    have hvv : v' = v := by
      split at h <;> (try cases h; done)
      · cases h; rfl
      · cases h; rfl
    subst hvv
    refine ⟨x, hv, ?_, ?_⟩
    · unfold method
      rw [Sem.run_bind, hti, Result.andThen_ok]
      simp only [hm', Sem.run_bind, hp', follow, Sem.run_pure, Result.andThen_ok, hf]
      unfold receiverAt
      simp only [Sem.run_bind, run_underlying hd, Result.andThen_ok]
      split at h <;> (try cases h; done)
      · cases h; rfl
      · rename_i hnp
        cases h
        cases d <;> first | exact (hnp _ rfl).elim | rfl
    · unfold nilAhead
      rw [Sem.run_bind, hti, Result.andThen_ok]
      simp only [hm', Sem.run_bind, hp', followBlind, Sem.run_pure, Result.andThen_ok, hf]
      split at h <;> (try cases h; done)
      · cases h
        rfl
      · rename_i hnp
        cases h
        simp only [Sem.run_bind, run_underlying hd, Result.andThen_ok]
        cases d <;> first | exact (hnp _ rfl).elim | rfl
  · rename_i st g p hp hf
    have hp' := arr1 hp
    split at h
    case h_2 => cases h
    rename_i hde
    split at h
    case h_2 => cases h
    rename_i fs hs
    split at h
    case h_2 => cases h
    rename_i fd hfd
    have hfd' : fs[st.index]? = some fd := by rw [← Array.getElem?_toList]; exact hfd
    split at h
    case h_1 => cases h
    case h_3 => cases h
    rename_i du hnp hdu
    split at h
    case h_2 => cases h
    rename_i cs
    obtain ⟨u, h1, h2⟩ := R.bind_ok h
    cases h2
    simp only [V] at hv
    obtain ⟨l, hl, rfl⟩ := hv
    obtain ⟨y, g1, g2⟩ := partA_ok h1 hl w
    refine ⟨y, g2, ?_, ?_⟩
    · unfold method
      rw [Sem.run_bind, hti, Result.andThen_ok]
      simp only [hm', Sem.run_bind, hp', follow, Sem.run_pure, Result.andThen_ok, hf, run_underlying hs, hfd', hde, Bool.false_eq_true, if_false, g1]
      unfold receiverAt
      simp only [Sem.run_bind, run_underlying hdu, Result.andThen_ok]
      cases du <;> first | exact (hnp _ rfl).elim | rfl
    · unfold nilAhead
      rw [Sem.run_bind, hti, Result.andThen_ok]
      simp only [hm', Sem.run_bind, hp', followBlind, Sem.run_pure, Result.andThen_ok, hf, run_underlying hs, hfd', hde, g1]
      simp only [Sem.run_bind, run_underlying hdu, Result.andThen_ok]
      cases du <;> first | exact (hnp _ rfl).elim | rfl
def nilA (P : Program) : AV → R AV
  | .np => .no 160
  | .ni => .no 161
  | .nf => .no 162
  | .sym _ => .no 163
  | .top => .no 163
  | .fn f fs cs => match f with
    | .method name => match fs with
      | .ifc t v :: r => (methA P t name v).bind fun _ => .ok (.fn (.method name) (.ifc t v :: r) cs)
      | _ => .no 164
    | f => .ok (.fn f fs cs)
  | v => .ok v
noncomputable def pev (G : Nat) (P : Program) (T : Tm) : Op → R AV
  | .move x => opd G T x
  | .assign x => opd G T x
  | .pick c x y => (opd G T c).bind fun c => match c with
    | .bool true => opd G T x
    | .bool false => opd G T y
    | _ => .no 165
  | .nilCheck x => (opd G T x).bind (nilA P)
  | .binOp op t x y _ => (opd G T x).bind fun u => (opd G T y).bind fun v => binA P op t (orB (isCst x) (isCst y)) u v
  | .unOp op _ x => (opd G T x).bind fun u => unA op u
  | .convert src dst x => (opd G T x).bind fun u => convA P src dst u
  | .makeInterface t x => (opd G T x).bind fun u => mkiA P t u
  | .makeFunc f first cap => (opds G T first.toList).bind fun u => (opds G T cap.toList).bind fun v => .ok (.fn f u v)
  | .slice t x lo hi mx => (opd G T x).bind fun u => (opdO G T lo).bind fun l => (opdO G T hi).bind fun h => (opdO G T mx).bind fun m => slcA P t u l h m
  | .fieldAddr t x f => (opd G T x).bind fun u => fieldAtA P t u f
  | .field t x f => (opd G T x).bind fun u => fieldA P t u f
  | .indexAddr t x i => (opd G T x).bind fun u => (opd G T i).bind fun v => indexAtA P t u v
  | .index t x i => (opd G T x).bind fun u => (opd G T i).bind fun v => indexA P t u v
  | .typeAssert x _ t ok => (opd G T x).bind fun u => assA P u t ok
  | .extract x i => (opd G T x).bind fun u => extA u i
  | .build t ps => (opdP G T ps.toList).bind fun l => buildA P t l
  | .call c => match c.callee with
    | .builtin b => match b with
      | .len => match c.args.toList, c.argTypes.toList with
        | [x], [t] => (opd G T x).bind fun u => lenA P t u
        | _, _ => .no 166
      | .cap => match c.args.toList, c.argTypes.toList with
        | [x], [t] => (opd G T x).bind fun u => capA P t u
        | _, _ => .no 167
      | .max => match c.args.toList with
        | x :: r => (opd G T x).bind fun u => (opds G T r).bind fun v => mxA true u v
        | _ => .no 168
      | .min => match c.args.toList with
        | x :: r => (opd G T x).bind fun u => (opds G T r).bind fun v => mxA false u v
        | _ => .no 169
      | _ => .no 170
    | _ => .no 171
  | _ => .no 172
/-! The same once more, laid out for the kernel: what is chosen from is closed. -/
noncomputable def pickF (c : AV) (x y : Operand) (G : Nat) (T : Tm) : R AV := match c with
    | .bool true => opd G T x
    | .bool false => opd G T y
    | _ => .no 165
noncomputable def pevF (op : Op) : Nat → Program → Tm → R AV :=
  Op.rec (motive := fun _ => Nat → Program → Tm → R AV)
    (fun x => fun G _ T => opd G T x)
    (fun x => fun G _ T => opd G T x)
    (fun c x y => fun G _ T => (opd G T c).bind fun c => pickF c x y G T)
    (fun _ => fun _ _ _ => .no 172)
    (fun _ _ => fun _ _ _ => .no 172)
    (fun t ps => fun G P T => (opdP G T ps.toList).bind fun l => buildA P t l)
    (fun _ _ _ => fun _ _ _ => .no 172)
    (fun _ _ _ _ => fun _ _ _ => .no 172)
    (fun _ _ => fun _ _ _ => .no 172)
    (fun _ _ _ => fun _ _ _ => .no 172)
    (fun _ => fun _ _ _ => .no 172)
    (fun _ => fun _ _ _ => .no 172)
    (fun x => fun G P T => (opd G T x).bind (nilA P))
    (fun op t x y _ => fun G P T => (opd G T x).bind fun u => (opd G T y).bind fun v => binA P op t (orB (isCst x) (isCst y)) u v)
    (fun op _ x => fun G _ T => (opd G T x).bind fun u => unA op u)
    (fun src dst x => fun G P T => (opd G T x).bind fun u => convA P src dst u)
    (fun _ _ => fun _ _ _ => .no 172)
    (fun t x => fun G P T => (opd G T x).bind fun u => mkiA P t u)
    (fun f first cap => fun G _ T => (opds G T first.toList).bind fun u => (opds G T cap.toList).bind fun v => .ok (.fn f u v))
    (fun _ _ => fun _ _ _ => .no 172)
    (fun _ _ => fun _ _ _ => .no 172)
    (fun _ _ _ => fun _ _ _ => .no 172)
    (fun t x lo hi mx => fun G P T => (opd G T x).bind fun u => (opdO G T lo).bind fun l => (opdO G T hi).bind fun h => (opdO G T mx).bind fun m => slcA P t u l h m)
    (fun t x f => fun G P T => (opd G T x).bind fun u => fieldAtA P t u f)
    (fun t x f => fun G P T => (opd G T x).bind fun u => fieldA P t u f)
    (fun t x i => fun G P T => (opd G T x).bind fun u => (opd G T i).bind fun v => indexAtA P t u v)
    (fun t x i => fun G P T => (opd G T x).bind fun u => (opd G T i).bind fun v => indexA P t u v)
    (fun _ _ _ _ => fun _ _ _ => .no 172)
    (fun _ _ _ _ => fun _ _ _ => .no 172)
    (fun _ _ _ => fun _ _ _ => .no 172)
    (fun _ _ _ _ => fun _ _ _ => .no 172)
    (fun _ _ => fun _ _ _ => .no 172)
    (fun _ _ => fun _ _ _ => .no 172)
    (fun _ => fun _ _ _ => .no 172)
    (fun x _ t ok => fun G P T => (opd G T x).bind fun u => assA P u t ok)
    (fun x i => fun G _ T => (opd G T x).bind fun u => extA u i)
    (fun c => fun G P T => pev G P T (.call c))
    (fun _ => fun _ _ _ => .no 172)
    (fun _ => fun _ _ _ => .no 172)
    (fun _ => fun _ _ _ => .no 172)
    (fun _ _ => fun _ _ _ => .no 172)
    (fun _ _ _ => fun _ _ _ => .no 172)
    (fun _ _ => fun _ _ _ => .no 172) op
theorem pevF_eq (G : Nat) (P : Program) (T : Tm) (op : Op) : pevF op G P T = pev G P T op := by cases op <;> rfl
theorem run_v {P : Program} {s : Sem Value} {w w' : World} {z : Value} (h : s.run P w = .ok z w') : ((do pure (Next.value (← s)) : Sem Next)).run P w = .ok (.value z) w' := by
  rw [Sem.run_bind, h]; rfl
theorem pev_ok {G : Nat} {T : Tm} {o : Oper} {v : AV} {σ : Sg} {a : Act} (h : pev G P T o.op = .ok v) (d : ∀ x ∈ o.op.operands, Od G σ (tget T) a x) (w : World) :
    ∃ z, (execOp a.eval o).run P w = .ok (.value z) w ∧ V σ v z := by
  obtain ⟨dst, op, ty, pos, after, guard⟩ := o
  simp only at h d
  unfold execOp
  cases op <;> simp only [pev] at h <;> (try cases h; done)
  case move x => exact ⟨_, rfl, opd_ok h (d x (by simp [Op.operands]))⟩
  case assign x => exact ⟨_, rfl, opd_ok h (d x (by simp [Op.operands]))⟩
  case pick c x y =>
    obtain ⟨cv, h1, h⟩ := R.bind_ok h
    have hc := opd_ok h1 (d c (by simp [Op.operands]))
    split at h
    · simp only [V] at hc
      exact ⟨_, by simp only [hc, asBool, Sem.run_bind, Sem.run_pure, Result.andThen_ok, if_true], opd_ok h (d x (by simp [Op.operands]))⟩
    · simp only [V] at hc
      exact ⟨_, by simp only [hc, asBool, Sem.run_bind, Sem.run_pure, Result.andThen_ok, Bool.false_eq_true, if_false], opd_ok h (d y (by simp [Op.operands]))⟩
    · cases h
  case nilCheck x =>
    obtain ⟨u, h1, h⟩ := R.bind_ok h
    have hu := opd_ok h1 (d x (by simp [Op.operands]))
    dsimp only
    generalize a.eval x = xv at hu
    cases u
    case np => cases h
    case ni => cases h
    case nf => cases h
    case sym => cases h
    case bs => simp only [V] at hu
    case top => cases h
    case fn f fs cs =>
      have hu' := hu
      simp only [V] at hu
      obtain ⟨l, m, hfs, hcp, rfl⟩ := hu
      cases f <;> simp only [nilA] at h
      case method name =>
        split at h
        case h_2 => cases h
        rename_i t y r
        obtain ⟨g, h2, h⟩ := R.bind_ok h
        cases h
        simp only [Vs, V] at hfs
        obtain ⟨x0, l', rfl, ⟨z, hz, rfl⟩, hr⟩ := hfs
        refine ⟨_, ?_, hu'⟩
        obtain ⟨g1, g2⟩ := g
        obtain ⟨_, _, _, hna⟩ := methA_ok h2 hz w
        simp only [List.getElem?_toArray, List.getElem?_cons_zero, Sem.run_bind, run_program, Result.andThen_ok, hna, bne_self_eq_false, Bool.false_eq_true, if_false, Sem.run_pure]
      all_goals (cases h; exact ⟨_, rfl, hu'⟩)
    all_goals
      cases h
      have hu' := hu
      simp only [V] at hu
    case ptr => obtain ⟨_, _, rfl⟩ := hu; exact ⟨_, rfl, hu'⟩
    case sl => obtain ⟨_, _, _, rfl, _⟩ := hu; exact ⟨_, rfl, hu'⟩
    case mp => obtain ⟨_, _, rfl⟩ := hu; exact ⟨_, rfl, hu'⟩
    case yl => obtain ⟨_, _, rfl⟩ := hu; exact ⟨_, rfl, hu'⟩
    case ifc => obtain ⟨_, _, rfl⟩ := hu; exact ⟨_, rfl, hu'⟩
    case agg => obtain ⟨_, _, rfl⟩ := hu; exact ⟨_, rfl, hu'⟩
    case tup => obtain ⟨_, _, rfl⟩ := hu; exact ⟨_, rfl, hu'⟩
    all_goals (subst hu; exact ⟨_, rfl, hu'⟩)
  case binOp op t x y yt =>
    obtain ⟨u, h1, h⟩ := R.bind_ok h
    obtain ⟨v', h2, h⟩ := R.bind_ok h
    obtain ⟨z, g1, g2⟩ := binA_ok (x := x) (y := y) h (opd_ok h1 (d x (by simp [Op.operands]))) (opd_ok h2 (d y (by simp [Op.operands]))) w
    exact ⟨z, run_v g1, g2⟩
  case unOp op t x =>
    obtain ⟨u, h1, h⟩ := R.bind_ok h
    obtain ⟨z, g1, g2⟩ := unA_ok (P := P) h (opd_ok h1 (d x (by simp [Op.operands]))) w
    exact ⟨z, run_v g1, g2⟩
  case convert s t x =>
    obtain ⟨u, h1, h⟩ := R.bind_ok h
    obtain ⟨z, g1, g2⟩ := convA_ok h (opd_ok h1 (d x (by simp [Op.operands]))) w
    exact ⟨z, run_v g1, g2⟩
  case makeInterface t x =>
    obtain ⟨u, h1, h⟩ := R.bind_ok h
    obtain ⟨z, g1, g2⟩ := mkiA_ok h (opd_ok h1 (d x (by simp [Op.operands]))) w
    exact ⟨z, run_v g1, g2⟩
  case makeFunc f first cap =>
    obtain ⟨u, h1, h⟩ := R.bind_ok h
    obtain ⟨v', h2, h⟩ := R.bind_ok h
    cases h
    refine ⟨.func f (first.map a.eval) (cap.map a.eval), rfl, ?_⟩
    simp only [V]
    refine ⟨_, _, opds_ok h1 fun x hx => d x (by simp [Op.operands]; exact .inl (by simpa using hx)), opds_ok h2 fun x hx => d x (by simp [Op.operands]; exact .inr (by simpa using hx)), ?_⟩
    rw [← Array.toList_map, ← Array.toList_map, Array.toArray_toList, Array.toArray_toList]
  case slice t x lo hi mx =>
    obtain ⟨u, h1, h⟩ := R.bind_ok h
    obtain ⟨l, h2, h⟩ := R.bind_ok h
    obtain ⟨hh, h3, h⟩ := R.bind_ok h
    obtain ⟨m, h4, h⟩ := R.bind_ok h
    obtain ⟨z, g1, g2⟩ := slcA_ok h (opd_ok h1 (d x (by simp [Op.operands]))) (opdO_ok h2 fun y hy => d y (by simp only [Op.operands, Array.mem_append]; exact .inl (.inl (.inr hy)))) (opdO_ok h3 fun y hy => d y (by simp only [Op.operands, Array.mem_append]; exact .inl (.inr hy)))
      (opdO_ok h4 fun y hy => d y (by simp only [Op.operands, Array.mem_append]; exact .inr hy)) w
    exact ⟨z, run_v g1, g2⟩
  case fieldAddr t x f =>
    obtain ⟨u, h1, h⟩ := R.bind_ok h
    obtain ⟨z, g1, g2⟩ := fieldAtA_ok h (opd_ok h1 (d x (by simp [Op.operands]))) w
    exact ⟨z, run_v g1, g2⟩
  case field t x f =>
    obtain ⟨u, h1, h⟩ := R.bind_ok h
    obtain ⟨z, g1, g2⟩ := fieldA_ok h (opd_ok h1 (d x (by simp [Op.operands]))) w
    exact ⟨z, run_v g1, g2⟩
  case indexAddr t x i =>
    obtain ⟨u, h1, h⟩ := R.bind_ok h
    obtain ⟨v', h2, h⟩ := R.bind_ok h
    obtain ⟨z, g1, g2⟩ := indexAtA_ok h (opd_ok h1 (d x (by simp [Op.operands]))) (opd_ok h2 (d i (by simp [Op.operands]))) w
    exact ⟨z, run_v g1, g2⟩
  case index t x i =>
    obtain ⟨u, h1, h⟩ := R.bind_ok h
    obtain ⟨v', h2, h⟩ := R.bind_ok h
    obtain ⟨z, g1, g2⟩ := indexA_ok h (opd_ok h1 (d x (by simp [Op.operands]))) (opd_ok h2 (d i (by simp [Op.operands]))) w
    exact ⟨z, run_v g1, g2⟩
  case typeAssert x xt t ok =>
    obtain ⟨u, h1, h⟩ := R.bind_ok h
    obtain ⟨z, g1, g2⟩ := assA_ok (xt := xt) h (opd_ok h1 (d x (by simp [Op.operands]))) w
    exact ⟨z, run_v g1, g2⟩
  case extract x i =>
    obtain ⟨u, h1, h⟩ := R.bind_ok h
    obtain ⟨z, g1, g2⟩ := extA_ok (P := P) h (opd_ok h1 (d x (by simp [Op.operands]))) w
    exact ⟨z, run_v g1, g2⟩
  case build t ps =>
    obtain ⟨l, h1, h⟩ := R.bind_ok h
    obtain ⟨z, g1, g2⟩ := buildA_ok h (opdP_ok h1 fun x hx => d x.2 (by simp only [Op.operands, List.mem_toArray]; exact List.mem_map_of_mem hx)) w
    refine ⟨z, run_v ?_, g2⟩
    rw [← g1]
    congr 2
    cases ps; simp
  case call c =>
    obtain ⟨callee, args, ats⟩ := c
    simp only [Op.operands, Call.operands] at d
    cases callee <;> simp only at h <;> (try cases h; done)
    case builtin b =>
    dsimp only at d
    simp only [resolve, Sem.run_bind, Sem.run_pure, Result.andThen_ok, invoke]
    cases b <;> simp only at h <;> (try cases h; done)
    case len =>
      split at h
      case h_2 => cases h
      rename_i x t e1 e2
      obtain ⟨u, h1, h⟩ := R.bind_ok h
      rw [arr1 e1] at d ⊢
      rw [arr1 e2]
      obtain ⟨z, g1, g2⟩ := lenA_ok (ty := ty) h (opd_ok h1 (d x (by simp))) w
      exact ⟨z, run_v (by simpa using g1), g2⟩
    case cap =>
      split at h
      case h_2 => cases h
      rename_i x t e1 e2
      obtain ⟨u, h1, h⟩ := R.bind_ok h
      rw [arr1 e1] at d ⊢
      rw [arr1 e2]
      obtain ⟨z, g1, g2⟩ := capA_ok (ty := ty) h (opd_ok h1 (d x (by simp))) w
      exact ⟨z, run_v (by simpa using g1), g2⟩
    case max =>
      split at h
      case h_2 => cases h
      rename_i x r e1
      obtain ⟨u, h1, h⟩ := R.bind_ok h
      obtain ⟨v', h2, h⟩ := R.bind_ok h
      have hm : ∀ y ∈ x :: r, y ∈ args := fun y hy => by rw [← e1] at hy; simpa using hy
      obtain ⟨z, g1, g2⟩ := mxA_ok (P := P) w _ _ _ _ _ h (opd_ok h1 (d x (by simp; exact hm x (by simp)))) (opds_ok h2 fun y hy => d y (by simp; exact hm y (by simp [hy])))
      refine ⟨z, run_v ?_, g2⟩
      rw [← g1]
      simp only [Builtin.max_]
      rw [Array.toList_map, e1]
      rfl
    case min =>
      split at h
      case h_2 => cases h
      rename_i x r e1
      obtain ⟨u, h1, h⟩ := R.bind_ok h
      obtain ⟨v', h2, h⟩ := R.bind_ok h
      have hm : ∀ y ∈ x :: r, y ∈ args := fun y hy => by rw [← e1] at hy; simpa using hy
      obtain ⟨z, g1, g2⟩ := mxA_ok (P := P) w _ _ _ _ _ h (opd_ok h1 (d x (by simp; exact hm x (by simp)))) (opds_ok h2 fun y hy => d y (by simp; exact hm y (by simp [hy])))
      refine ⟨z, run_v ?_, g2⟩
      rw [← g1]
      simp only [Builtin.min_]
      rw [Array.toList_map, e1]
      rfl
end
end Go.Proofs.YtocabeobfbhajaaGreatDoor.Sx
