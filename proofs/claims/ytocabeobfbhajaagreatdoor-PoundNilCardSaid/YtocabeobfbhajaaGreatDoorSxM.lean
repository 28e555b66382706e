/- The reckoner's operations that make a block, and those that read. No program is named here. -/
import Derived.Test.YtocabeobfbhajaaGreatDoorSxL
import Derived.Laws.BytesString
set_option linter.unusedVariables false
set_option linter.unusedSimpArgs false
namespace Go.Proofs.YtocabeobfbhajaaGreatDoor.Sx
noncomputable section
open Go Go.RowKit
variable {P : Program}

/-! ### New blocks -/
/-- Cells, n times. -/
def repA (cs : List AV) : Nat → List AV
  | 0 => []
  | n + 1 => capp cs (repA cs n)
def repZ (n : Nat) (cs : List AV) : List AV := match cs with
  | [.bs k 0] => [.bs (Nat.mul n k) 0]
  | cs => repA cs n
theorem bcs_zero (n : Nat) : bcs n 0 = List.replicate n (.int .u8 0) := by
  induction n with
  | zero => rfl
  | succ n ih =>
    have : bcs (n + 1) 0 = .int .u8 0 :: bcs n 0 := by simp [bcs, unpack, bcellN]
    rw [this, ih]; rfl
theorem repA_ok {σ : Sg} {cs : List AV} {l : List Value} (h : Cs σ cs l) : ∀ n, Cs σ (repA cs n) (List.replicate n l).flatten
  | 0 => by simp [repA, Cs]
  | n + 1 => by
    rw [List.replicate_succ, List.flatten_cons]
    exact capp_ok _ _ _ _ h (repA_ok h n)
theorem repZ_ok {σ : Sg} {cs : List AV} {l : List Value} (h : Cs σ cs l) (n : Nat) : Cs σ (repZ n cs) (List.replicate n l).flatten := by
  unfold repZ
  split
  · rename_i k
    rw [Cs_bs] at h
    obtain ⟨m, rfl, hm⟩ := h
    simp only [Cs] at hm
    subst hm
    rw [Cs_bs]
    refine ⟨[], ?_, by simp [Cs]⟩
    rw [List.append_nil, List.append_nil, bcs_zero, bcs_zero]
    simp
  · exact repA_ok h n
theorem zeroRow {z : Array Value} {n : Nat} (hz : 0 < z.size) : ((Array.range (n * z.size)).map fun i => z[i % z.size]!) = (List.replicate n z.toList).flatten.toArray := by
  apply Array.ext'
  rw [Array.toList_map, Array.toList_range]
  show _ = (List.replicate n z.toList).flatten
  apply List.ext_getElem?
  intro i
  rcases Nat.lt_or_ge i (n * z.size) with hi | hi
  · rw [List.getElem?_map, List.getElem?_range hi, Option.map_some]
    have hmod : i % z.size < z.size := Nat.mod_lt _ hz
    have hdiv : i / z.size < n := by rw [Nat.div_lt_iff_lt_mul hz]; exact hi
    have hall : AllLen z.size (List.replicate n z.toList) := fun r hr => by rw [List.mem_replicate] at hr; rw [hr.2]; exact Array.length_toList
    have hc := hall.rowcell (i / z.size) (by simpa using hdiv) (i % z.size) (z.toList[i % z.size]'(by simpa using hmod)) (by simp [hmod])
    have e : i / z.size * z.size + i % z.size = i := by rw [Nat.mul_comm]; exact Nat.div_add_mod i z.size
    rw [e] at hc
    rw [hc]
    congr 1
    rw [getElem!_pos z _ hmod]; simp
  · rw [List.getElem?_eq_none (by simpa using hi), List.getElem?_eq_none]
    have hall : AllLen z.size (List.replicate n z.toList) := fun r hr => by rw [List.mem_replicate] at hr; rw [hr.2]; exact Array.length_toList
    rw [hall.flatten, List.length_replicate]; exact hi
/-- The zero of an element, as cells that many there are. -/
def zCs (P : Program) (t : TypeId) (s : Nat) : R (List AV) := (zeroA P t).bind fun z => (cellsA z).bind fun cs => match Nat.beq (clen cs) s, s with
  | true, _ + 1 => .ok cs
  | _, _ => .no 180
theorem zCs_ok {t : TypeId} {s : Nat} {cs : List AV} (h : zCs P t s = .ok cs) (w : World) : ∃ v, (zeroValue t).run P w = .ok v w ∧ (∀ σ, Cs σ cs v.cells.toList) ∧ v.cells.size = s ∧ 0 < s := by
  obtain ⟨z, h1, h⟩ := R.bind_ok h
  obtain ⟨c, h2, h⟩ := R.bind_ok h
  split at h
  case h_2 => cases h
  rename_i hb
  cases h
  obtain ⟨v, g1, g2⟩ := zeroA_ok h1 w
  refine ⟨v, g1, fun σ => cellsA_ok h2 (g2 σ), ?_, by omega⟩
  have := Cs_length _ _ (cellsA_ok h2 (g2 ⟨fun _ => none, fun _ => none, fun _ => .nilFunc⟩))
  rw [Array.length_toList] at this
  rw [this]; exact beq_iff.1 hb
noncomputable def aev (G : Nat) (P : Program) (T : Tm) (nm : Nat) : Op → R (AV × AB)
  | .alloc t => (zeroA P t).bind fun z => (cellsA z).bind fun cs => .ok (.ptr nm 0, .cells cs 0 0)
  | .box t x => (opd G T x).bind fun v => (cellsA v).bind fun cs => .ok (.ptr nm 0, .cells cs 0 0)
  | .buildSlice t len ps => match P.underlying t with
    | some (.slice e) => (szA P e).bind fun s => match Nat.ble (Nat.mul len s) 16777216 with
      | true => (zCs P e s).bind fun z => (opdP G T ps.toList).bind fun l => (fillA (fun i => .ok (Nat.mul i s, s)) (repZ len z) l).bind fun cs => .ok (.sl nm 0 len len 0, .cells cs 0 0)
      | false => .no 181
    | _ => .no 182
  | .makeSlice t l c => match P.underlying t with
    | some (.slice e) => (opd G T l).bind fun l => (idxA l).bind fun l => (opd G T c).bind fun c => (idxA c).bind fun c => match P.info? e with
      | some i => match Nat.ble (Nat.mul i.bytes c) 281474976710656, Nat.ble l c, Nat.ble c 9223372036854775807 with
        | true, true, true => (zCs P e i.size).bind fun z => .ok (.sl nm 0 l c 0, .cells (repZ c z) 0 0)
        | _, _, _ => .no 183
      | none => .no 184
    | _ => .no 185
  | .makeMap t r => match r with
    | none => .ok (.mp nm, .map [] 0)
    | some x => (opd G T x).bind fun v => (idxA v).bind fun _ => match P.underlying t with
      | some (.map _ _) => .ok (.mp nm, .map [] 0)
      | _ => .no 186
  | _ => .no 187
theorem BO_new {σ : Sg} {cs : List AV} {A : Array Value} {t : TypeId} (h : Cs σ cs A.toList) : BO σ 0 (.cells cs 0 0) (.cells A t) :=
  ⟨A, t, (0, 0), rfl, .inl rfl, A.toList, 0, h, .inl ⟨rfl, rfl⟩, by simp, fun i v hv => by rw [Nat.zero_add]; rw [← Array.getElem?_toList]; exact hv⟩
theorem aev_ok {G : Nat} {T : Tm} {o : Oper} {nm : Nat} {r : AV × AB} {σ : Sg} {a : Act} (h : aev G P T nm o.op = .ok r) (d : ∀ x ∈ o.op.operands, Od G σ (tget T) a x) (w : World) (hn : σ.bl nm = none) :
    ∃ z ob, (execOp a.eval o).run P w = .ok (.value z) (w.alloc ob) ∧ V (σ.set nm (w.heap.size, 0)) r.1 z ∧ BO (σ.set nm (w.heap.size, 0)) 0 r.2 ob := by
  have hle : σ.le (σ.set nm (w.heap.size, 0)) := Sg.le_set hn
  have hptr : V (σ.set nm (w.heap.size, 0)) (.ptr nm 0) (.pointer (some ⟨w.heap.size, 0, none⟩)) := by
    simp only [V]; exact ⟨(w.heap.size, 0), if_pos rfl, by simp⟩
  obtain ⟨dst, op, ty, pos, after, guard⟩ := o
  simp only at h d
  unfold execOp
  cases op <;> simp only [aev] at h <;> (try cases h; done)
  case alloc t =>
    obtain ⟨z, h1, h⟩ := R.bind_ok h
    obtain ⟨cs, h2, h⟩ := R.bind_ok h
    cases h
    obtain ⟨v, g1, g2⟩ := zeroA_ok h1 w
    refine ⟨.pointer (some ⟨w.heap.size, 0, none⟩), .cells v.cells t, ?_, hptr, BO_new (cellsA_ok h2 (g2 _))⟩
    simp only [Instr.alloc, Sem.run_bind, g1, Result.andThen_ok, newVar, newRow, run_newObj, Sem.run_pure]
    rfl
  case box t x =>
    obtain ⟨u, h1, h⟩ := R.bind_ok h
    obtain ⟨cs, h2, h⟩ := R.bind_ok h
    cases h
    have hu := opd_ok h1 (d x (by simp [Op.operands]))
    refine ⟨.pointer (some ⟨w.heap.size, 0, none⟩), .cells (a.eval x).cells t, ?_, hptr, BO_new (cellsA_ok h2 (V_mono hle _ _ hu))⟩
    simp only [Instr.box, Sem.run_bind, Result.andThen_ok, newVar, newRow, run_newObj, Sem.run_pure]
    rfl
  case buildSlice t len ps =>
    split at h
    case h_2 => cases h
    rename_i e ht
    obtain ⟨s, h1, h⟩ := R.bind_ok h
    split at h
    case h_2 => cases h
    rename_i hb
    have hb' : len * s ≤ 2 ^ 24 := Nat.le_of_ble_eq_true hb
    obtain ⟨z, h2, h⟩ := R.bind_ok h
    obtain ⟨l, h3, h⟩ := R.bind_ok h
    obtain ⟨cs, h4, h⟩ := R.bind_ok h
    cases h
    obtain ⟨v, g1, g2, g3, g4⟩ := zCs_ok h2 w
    have hps := opdP_ok h3 fun x hx => d x.2 (by simp only [Op.operands, List.mem_toArray]; exact List.mem_map_of_mem hx)
    obtain ⟨B, k1, k2, k3⟩ := fillA_ok (place' := fun i => some (i * s, s)) (fun i q h => by cases h; rfl) _ _ _ _ _ hps (repZ_ok (g2 σ) len) h4
    have hif : ∀ (K : Array Value → Sem Value), ((if len * s = 0 then (do let zero ← pure #[]; K zero) else (do let z ← zeroValue e; let zero ← pure z.cells; K zero)) : Sem Value).run P w = (K (if len * s = 0 then #[] else v.cells)).run P w := by
      intro K
      split
      · rfl
      · rw [Sem.run_bind, g1]; rfl
    have hrow : (Array.range (len * s)).map (fun i => (if len * s = 0 then #[] else v.cells)[i % (if len * s = 0 then (#[] : Array Value) else v.cells).size]!) = (List.replicate len v.cells.toList).flatten.toArray := by
      by_cases h0 : len * s = 0
      · have : len = 0 := by rcases Nat.mul_eq_zero.1 h0 with h | h <;> omega
        subst this; simp
      · simp only [h0, if_false]
        rw [← g3]
        exact zeroRow (by omega)
    refine ⟨.slice (some ⟨w.heap.size, 0, none⟩) len len, .cells B.toArray e, ?_, ?_, BO_new (Cs_mono hle _ _ k2)⟩
    · refine run_v ?_
      unfold Instr.buildSlice
      simp only [Sem.run_bind, run_underlying ht, Result.andThen_ok, szA_ok h1]
      rw [if_neg (by omega), hif, hrow]
      have : (ps.map fun x => (x.1, a.eval x.2)).toList = ps.toList.map fun x => (x.1, a.eval x.2) := by simp
      rw [this, k1]
      simp only [Sem.run_bind, newRow, run_newObj, Result.andThen_ok, Sem.run_pure]
      rfl
    · simp only [V]; exact ⟨(w.heap.size, 0), len, if_pos rfl, by simp, .inl ⟨trivial, rfl⟩⟩
  case makeSlice t l c =>
    split at h
    case h_2 => cases h
    rename_i e ht
    obtain ⟨lv, h1, h⟩ := R.bind_ok h
    obtain ⟨ln, h2, h⟩ := R.bind_ok h
    obtain ⟨cv, h3, h⟩ := R.bind_ok h
    obtain ⟨cn, h4, h⟩ := R.bind_ok h
    split at h
    case h_2 => cases h
    rename_i i hi
    split at h
    case h_2 => cases h
    rename_i b1 b2 b3
    have b1' : i.bytes * cn ≤ 281474976710656 := Nat.le_of_ble_eq_true b1
    have b2' : ln ≤ cn := Nat.le_of_ble_eq_true b2
    have b3' : cn ≤ 9223372036854775807 := Nat.le_of_ble_eq_true b3
    obtain ⟨z, h5, h⟩ := R.bind_ok h
    cases h
    obtain ⟨k1, e1⟩ := idxA_ok h2 (opd_ok h1 (d l (by simp [Op.operands])))
    obtain ⟨k2, e2⟩ := idxA_ok h4 (opd_ok h3 (d c (by simp [Op.operands])))
    obtain ⟨v, g1, g2, g3, g4⟩ := zCs_ok h5 w
    have wl : IntKind.i64.wrap (ln : Int) = ln := by rw [← wrapA_eq]; unfold wrapA; simp only [Int.ofNat_eq_natCast]; rw [show Nat.ble ln (hiN .i64) = true from Nat.ble_eq_true_of_le (show _ ≤ 9223372036854775807 by omega)]
    have wc : IntKind.i64.wrap (cn : Int) = cn := by rw [← wrapA_eq]; unfold wrapA; simp only [Int.ofNat_eq_natCast]; rw [show Nat.ble cn (hiN .i64) = true from Nat.ble_eq_true_of_le (show _ ≤ 9223372036854775807 by omega)]
    have hif : ∀ (K : Array Value → Sem Value), ((if cn * i.size = 0 then (do let zero ← pure #[]; K zero) else (do let z ← zeroValue e; let zero ← pure z.cells; K zero)) : Sem Value).run P w = (K (if cn * i.size = 0 then #[] else v.cells)).run P w := by
      intro K
      split
      · rfl
      · rw [Sem.run_bind, g1]; rfl
    have hrow : (Array.range (cn * i.size)).map (fun j => (if cn * i.size = 0 then #[] else v.cells)[j % (if cn * i.size = 0 then (#[] : Array Value) else v.cells).size]!) = (List.replicate cn v.cells.toList).flatten.toArray := by
      by_cases h0 : cn * i.size = 0
      · have : cn = 0 := by rcases Nat.mul_eq_zero.1 h0 with h | h <;> omega
        subst this; simp
      · simp only [h0, if_false]
        rw [← g3]
        exact zeroRow (by omega)
    refine ⟨.slice (some ⟨w.heap.size, 0, none⟩) ln cn, .cells (List.replicate cn v.cells.toList).flatten.toArray e, ?_, ?_, BO_new (Cs_mono hle _ _ (repZ_ok (g2 σ) cn))⟩
    · refine run_v ?_
      unfold Instr.makeSlice
      rw [e1, e2]
      have hT : (decide ((cn : Int) < 0) || decide ((i.bytes : Int) * (cn : Int) > 2 ^ 48)) = false := by
        have : ((i.bytes * cn : Nat) : Int) ≤ 281474976710656 := Int.ofNat_le.2 b1'
        rw [Int.natCast_mul] at this
        simp only [Bool.or_eq_false_iff, decide_eq_false_iff_not]
        exact ⟨by omega, by omega⟩
      simp only [Sem.run_bind, run_underlying ht, Result.andThen_ok, asInt, asIntOf, Sem.run_pure, typeInfo, run_program, hi, wl, wc, hT, Bool.false_or, Int.toNat_natCast, sizeOf]
      rw [if_neg (by simp only [Bool.or_eq_true, decide_eq_true_eq]; omega)]
      simp only [Sem.run_bind, run_askRoom, Result.andThen_ok, run_program, hi, Sem.run_pure]
      rw [hif, hrow]
      rfl
    · simp only [V]; exact ⟨(w.heap.size, 0), cn, if_pos rfl, by simp, .inl ⟨trivial, rfl⟩⟩
  case makeMap t r =>
    have hmap : V (σ.set nm (w.heap.size, 0)) (.mp nm) (.map (some w.heap.size)) := by simp only [V]; exact ⟨(w.heap.size, 0), if_pos rfl, rfl⟩
    have hbo : BO (σ.set nm (w.heap.size, 0)) 0 (.map [] 0) (.map #[] 0) := ⟨rfl, [], by simp [Es], rfl⟩
    split at h
    · cases h
      exact ⟨.map (some w.heap.size), .map #[] 0, rfl, hmap, hbo⟩
    · rename_i x
      obtain ⟨v, h1, h⟩ := R.bind_ok h
      obtain ⟨n, h2, h⟩ := R.bind_ok h
      split at h
      case h_2 => cases h
      rename_i k e ht
      cases h
      obtain ⟨k1, e1⟩ := idxA_ok h2 (opd_ok h1 (d x (by simp [Op.operands])))
      refine ⟨.map (some w.heap.size), .map #[] 0, run_v ?_, hmap, hbo⟩
      unfold Instr.makeMap
      simp only [Option.map_some, Sem.run_bind, run_underlying ht, Result.andThen_ok, e1, asInt, asIntOf, Sem.run_pure, run_newObj]
      rfl
end
end Go.Proofs.YtocabeobfbhajaaGreatDoor.Sx
