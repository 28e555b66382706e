/- PoundNil at whatever operation, sector and tick: reckoned in the kernel, but for brief. -/
import Derived.Test.YtocabeobfbhajaaGreatDoorImp
import Derived.Test.YtocabeobfbhajaaGreatDoorSxGo
import Derived.Test.YtocabeobfbhajaaGreatDoorNilA
set_option linter.unusedVariables false
set_option linter.unusedSimpArgs false
set_option maxRecDepth 100000
namespace Go.Proofs.YtocabeobfbhajaaGreatDoor.Sx
open Go Go.Proofs Go.RowKit

/-! ### The code and its parts -/
noncomputable def bodyOf (fn : Func) : Code := match fn.body with
  | some c => c
  | none => .skip
noncomputable def sL : Code → Code
  | .seq x _ => x
  | c => c
noncomputable def sR : Code → Code
  | .seq _ y => y
  | c => c
noncomputable def opsOf : Code → Array Oper
  | .region _ ops _ => ops
  | _ => #[]
noncomputable def c12 : Code := bodyOf Tryz.f12
noncomputable def r0 : Code := sL c12
noncomputable def r1 : Code := sL (sL (sR c12))
noncomputable def cnd : Code := sR (sL (sR c12))
noncomputable def tl : Code := sR (sR c12)
noncomputable def ops1 : List Oper := (opsOf r1).toList
noncomputable def third : List Oper → Oper
  | _ :: _ :: o :: _ => o
  | _ => { dst := none, op := .move (.tmp 0), type := 0, pos := "", after := #[], guard := none }
noncomputable def o3 : Oper := third ops1
def c3 : Call := { callee := .value (.func 23), args := #[.tmp 29], argTypes := #[37] }
theorem c12_is : Tryz.f12.body = some c12 := by kernel_rfl
theorem c12_parts : c12 = .seq r0 (.seq (.seq r1 cnd) tl) := by kernel_rfl
theorem r1_is : r1 = .region 1 (opsOf r1) false := by kernel_rfl
theorem ops1_is : (opsOf r1).toList = ops1.take 2 ++ (o3 :: ops1.drop 3) := by kernel_rfl
theorem o3_op : o3.op = .call c3 := by kernel_rfl
theorem o3_guard : o3.guard = none := by kernel_rfl
theorem o3_dst : o3.dst = some 30 := by kernel_rfl

/-! ### The surroundings: impounded is known -/
noncomputable def sum1 (f : Nat) (vs : List AV) (s : St) : Option (R (EE × St)) := match Nat.beq f 14, vs with
  | true, [] => some (.ok (.ret (.bool true), s))
  | _, _ => none
noncomputable def E1 : Env := { E0 with sum := sum1 }
theorem ok1 : EnvOK E1 := ⟨ok0.plain, ok0.mixed, ok0.ext, fun f vs s e s' h σ w xs hd hv => by
  change sum1 f vs s = _ at h
  unfold sum1 at h
  split at h
  case h_2 => cases h
  rename_i hb
  cases h
  have := Nat.eq_of_beq_eq_true hb
  subst this
  have hx : xs = [] := by simpa [Vs] using hv
  subst hx
  exact (impounded_any w).mono fun ec w' ⟨h1, h2⟩ => ⟨σ, ⟨.bool true, by simp [V], h1⟩, (hd.quiet h2).1, (hd.quiet h2).2⟩⟩
noncomputable def call1 : CallR := funA E1 (drwA E1) 1000 20
theorem hc1 : CallOK E1 call1 := funA_sound rfl ok1 1000 20
theorem hdr1 : DrwOK E1 call1 (drwA E1) := drwA_ok ok1 hc1

/-! ### The runs -/
def cellsA1 (n N : Nat) : List AV := [.sym 0, .sym 1, .sym 2, .str n N, .sym 4, .sym 5, .sym 6, .sym 7, .sym 8, .sym 9, .sym 10, .sym 11, .sym 12, .sym 13, .sym 14, .sym 15, .sym 16]
def args (n N : Nat) : List AV := [.agg (cellsA1 n N), .sym 17, .sym 18]
noncomputable def stA (n N : Nat) : R Out := exec E1 call1 (drwA E1) 220 1000 r0 (putL Tm.lf 0 (args n N)) [] ⟨Mm.lf, 8, 0⟩
noncomputable def stB (n N : Nat) : R Out := seqR E1 call1 220 ops1 (ops1.take 2) (outT (stA n N)) [] (outS (stA n N))
noncomputable def T3 (t : Bool) (n N : Nat) : Tm := Tm.put (.bool t) (outT (stB n N)) 30
noncomputable def endF (r : Out) : R (EE × St) := leaveA E1 call1 (drwA E1) 1000 Tryz.f12 r.2.1 r.2.2.1 .ret r.2.2.2
noncomputable def tlF (r : Out) : R (EE × St) := match r.1 with
  | .ret => endF r
  | _ => .no 2
noncomputable def cndF (r : Out) : R (EE × St) := match r.1 with
  | .ret => endF r
  | .normal => (exec E1 call1 (drwA E1) 220 1000 tl r.2.1 r.2.2.1 r.2.2.2).bind tlF
  | _ => .no 3
noncomputable def regF1 (r : Out) : R (EE × St) := match r.1 with
  | .normal => (exec E1 call1 (drwA E1) 220 1000 cnd r.2.1 r.2.2.1 r.2.2.2).bind cndF
  | _ => .no 4
noncomputable def stC (t : Bool) (n N : Nat) : R (EE × St) := (seqR E1 call1 220 ops1 (ops1.drop 3) (T3 t n N) [] (outS (stB n N))).bind regF1
theorem enter_is (n N : Nat) : enterA Tryz.f12 (args n N) = .ok (putL Tm.lf 0 (args n N)) := by kernel_rfl
theorem stA_is (n N : Nat) : isN (stA n N) = true := by kernel_rfl
theorem stB_is (n N : Nat) : isN (stB n N) = true := by kernel_rfl
theorem S2_is (n N : Nat) : (outS (stB n N)).mem.get 9 = some (.cells (cellsA1 n N) 0 0) := by kernel_rfl
theorem cev_is (n N : Nat) : cev 8 Tryz.prog (outT (stB n N)) c3 = .ok (.fn 23, [.sl 9 0 1 1 0]) := by kernel_rfl
theorem T3_is (t : Bool) (n N : Nat) : putA 220 (outT (stB n N)) (some 30) (.bool t) = .ok (T3 t n N) := by kernel_rfl
theorem stC_true (n N : Nat) : isT (stC true n N) = true := by kernel_rfl
theorem stC_false (n N : Nat) : isT (stC false n N) = true := by kernel_rfl
theorem stC_is (t : Bool) (n N : Nat) : isT (stC t n N) = true := by
  cases t
  · exact stC_false n N
  · exact stC_true n N

/-! ### What came in -/
theorem Cs_sym {σ : Sg} {i : Nat} {r : List AV} {x : Value} {l : List Value} (h : x = σ.sy i) (h1 : x.oneCell' = true) (hr : Cs σ r l) : Cs σ (.sym i :: r) (x :: l) := by
  simp only [Cs, V]
  exact ⟨x, l, rfl, ⟨h, h1⟩, hr⟩
theorem Cs_str {σ : Sg} {n N : Nat} {r : List AV} {x : Value} {l : List Value} (h : x = .string ⟨(unpack n N).toArray⟩) (hr : Cs σ r l) : Cs σ (.str n N :: r) (x :: l) := by
  simp only [Cs, V]
  exact ⟨x, l, rfl, h, hr⟩
theorem tag_is (s : ByteArray) : Value.string s = .string ⟨(unpack s.size (pack s.data.toList)).toArray⟩ := by
  have := strA_ok ⟨fun _ => none, fun _ => none, fun _ => .nilIface⟩ s
  unfold strA at this
  simpa only [V] using this
def symsOf (o : RvOp) (a b : Value) (i : Nat) : Value := (o.cells ++ [a, b]).getD i .nilIface
theorem cells_of {σ : Sg} {o : RvOp} {a b : Value} (hsy : σ.sy = symsOf o a b) : Cs σ (cellsA1 o.tag.size (pack o.tag.data.toList)) o.cells := by
  unfold cellsA1 RvOp.cells
  refine Cs_sym (by rw [hsy]; rfl) rfl (Cs_sym (by rw [hsy]; rfl) rfl (Cs_sym (by rw [hsy]; rfl) rfl (Cs_str (tag_is _) ?_)))
  iterate 13 refine Cs_sym (by rw [hsy]; rfl) rfl ?_
  simp [Cs]
theorem cells_eq {σ : Sg} {o : RvOp} {a b : Value} (hsy : σ.sy = symsOf o a b) {l : List Value} (h : Cs σ (cellsA1 o.tag.size (pack o.tag.data.toList)) l) : l = o.cells := by
  unfold cellsA1 at h
  simp only [Cs, V, hsy] at h
  obtain ⟨_, _, rfl, ⟨rfl, _⟩, _, _, rfl, ⟨rfl, _⟩, _, _, rfl, ⟨rfl, _⟩, _, _, rfl, rfl, _, _, rfl, ⟨rfl, _⟩, _, _, rfl, ⟨rfl, _⟩, _, _, rfl, ⟨rfl, _⟩, _, _, rfl, ⟨rfl, _⟩, _, _, rfl, ⟨rfl, _⟩, _, _, rfl, ⟨rfl, _⟩, _, _, rfl, ⟨rfl, _⟩, _, _, rfl, ⟨rfl, _⟩, _, _, rfl, ⟨rfl, _⟩, _, _, rfl, ⟨rfl, _⟩, _, _, rfl, ⟨rfl, _⟩, _, _, rfl, ⟨rfl, _⟩, _, _, rfl, ⟨rfl, _⟩, rfl⟩ := h
  rw [← tag_is]
  rfl
theorem PostsAt.widen {w : World} {B B' : Nat} {a : Option Addr} {ps : List Po} (h : PostsAt w B a ps) (hB : B ≤ B') : PostsAt w B' a ps := fun i p hi => by
  obtain ⟨b, f, h1, h2, h3⟩ := h i p hi
  exact ⟨b, f, h1, Nat.lt_of_lt_of_le h2 hB, h3⟩
theorem Exit.then_ret {K : Act → World → Prop} {Q : Exit → Act → World → Prop} {a : Act} {w : World} (h : Q .ret a w) : Exit.then K Q .ret a w := h

theorem nil_walk {w : World} {o : RvOp} (hp : PostsAt w w.heap.size o.pa o.ps) (a b : Value) (ha : a.oneCell' = true) (hb : b.oneCell' = true) :
    Calls Tryz.prog 12 #[.agg o.cells.toArray, a, b] w fun e w' => e = .returned (.bool true) ∧ Chg (fun _ => False) w w' := by
  obtain ⟨n, hn⟩ : ∃ n, n = o.tag.size := ⟨_, rfl⟩
  obtain ⟨N, hN⟩ : ∃ N, N = pack o.tag.data.toList := ⟨_, rfl⟩
  let σ0 : Sg := ⟨fun n => if n < 8 then some (n, 0) else none, fun _ => none, symsOf o a b⟩
  have hg0 : ∀ k, (⟨Mm.lf, 8, 0⟩ : St).ms.g k = none := fun k => Mm.get_lf k
  have hd0 : Ds E1.G σ0 (⟨Mm.lf, 8, 0⟩ : St).ms w := by
    refine ⟨fun k ab e => ?_, fun k m ab ab' p q _ e => ?_, fun k hk => ?_, fun k _ => rfl, fun g hlt => ?_⟩
    · rw [hg0] at e; cases e
    · rw [hg0] at e; cases e
    · have hk' : 8 ≤ k := hk
      exact if_neg (by omega)
    · have hlt' : g < 8 := hlt
      exact if_pos hlt'
  have hq0 : ∀ {σ' : Sg} {M' : MS} {w' : World}, Ex σ0 (⟨Mm.lf, 8, 0⟩ : St).ms w σ' M' w' → Chg (fun _ => False) w w' := fun x => x.chg.mono fun k _ hk => by
    obtain ⟨m, ab, p, e, _⟩ := hk
    rw [hg0] at e; cases e
  have hv0 : Vs σ0 (args n N) [.agg o.cells.toArray, a, b] := by
    unfold args
    simp only [Vs, V]
    exact ⟨_, _, rfl, ⟨o.cells, by rw [hn, hN]; exact cells_of rfl, rfl⟩, _, _, rfl, ⟨rfl, ha⟩, _, _, rfl, ⟨rfl, hb⟩, rfl⟩
  obtain ⟨hnt, hta⟩ := enterA_ok (ds := []) (enter_is n N) hv0
  have hnt : 220 ≤ topTmp := hnt
  refine Wd_calls.1 (callsIn_of_wp_marks (F := Wd none) (n := 0) Tryz.func12 c12_is trivial ?_)
  rw [c12_parts]
  refine wpIn_seq (wpIn_mono (exec_ok (ro := none) ok1 hc1 hdr1 hnt 1000 r0 _ _ _ _ (isN_ok (stA_is n N)) σ0 _ w hd0 hta rfl rfl) fun e a1 w1 hp1 => ?_)
  obtain ⟨rfl, σ1, d1, x1, ds1, t1⟩ := hp1.normal rfl
  refine wpIn_seq (wpIn_seq ?_)
  rw [r1_is]
  refine wpIn_region_list ?_
  rw [ops1_is]
  refine seqR_go (ro := none) ok1 hc1 hnt (ops := opsOf r1) (ops1.take 2) _ _ _ _ _ _ (isN_ok (stB_is n N)) σ1 a1 w1 d1 t1 ds1 rfl fun σ2 a2 w2 d2 x2 t2 ds2 => ?_
  unfold wpListIn
  rw [if_pos (by simp [Region.wanted, o3_guard])]
  obtain ⟨xs, m, k1, k3, k2⟩ := cev_ok (P := Tryz.prog) (σ := σ2) (a := a2) o3_op (cev_is n N) (fun y _ => Od_of (E := E1) d2 t2 y) w2
  have hm : m = callFunc 23 xs.toArray := k3
  subst hm
  rw [run_callFunc plainT Tryz.func23 (c := bodyOf Tryz.f23) (by kernel_rfl)] at k1
  simp only [Vs, V] at k2
  obtain ⟨x, l', rfl, ⟨p, κ, hp9, rfl, hκ⟩, rfl⟩ := k2
  obtain ⟨p', hp9', ob, hob, hbo⟩ := d2.blk 9 _ (S2_is n N)
  rw [hp9] at hp9'
  cases hp9'
  obtain ⟨c, ty, fr, rfl, _, l, x', hl, _, _, hcell⟩ := hbo
  have hx02 := x1.trans x2
  have hl' : l = o.cells := by
    rw [hn, hN] at hl
    exact cells_eq (a := a) (b := b) hx02.sy hl
  subst hl'
  have hq2 := hq0 hx02
  have hcells : ∀ j v, o.cells[j]? = some v → w2.cell? ⟨p.1, p.2 + 0 + j, none⟩ = some v := fun j v hj => by
    rw [cell_of_row w2 p.1 (p.2 + 0 + j) c ty fr hob, Nat.add_zero]
    exact hcell j v hj
  have hposts : PostsAt w2 w2.heap.size o.pa o.ps := PostsAt.widen (hp.chg hq2 (fun _ h => h.elim)) hq2.size
  refine wpW_enter (fun c' h' => by rw [o3_op] at h'; cases h') k1 ((brief_one κ hcells hposts).mono fun e w3 ⟨⟨t, he⟩, hq⟩ => ?_)
  subst he
  obtain ⟨d3, x3⟩ := d2.quiet hq
  obtain ⟨e1, e2⟩ := putA_ok hnt (T3_is t n N)
  have t3 : Ta σ2 220 (tget (T3 t n N)) (a2.put o3.dst (.bool t)) := by
    rw [e1, o3_dst]
    exact t2.put e2 (by simp [V])
  obtain ⟨s', hC⟩ := isT_ok (stC_is t n N)
  obtain ⟨r2, h1, hC⟩ := R.bind_ok hC
  have hl3 := seqR_ok (ro := none) ok1 hc1 hnt (ops := opsOf r1) (ops1.drop 3) _ _ _ _ h1 σ2 _ w3 d3 t3 (by rw [defers_put]; exact ds2) rfl
  have hfin : ∀ (r : Out) (s' : St) (σ3 : Sg) (a4 : Act) (w4 : World), endF r = .ok (.ret (.bool true), s') → Ds E1.G σ3 r.2.2.2.ms w4 → Ex σ0 (⟨Mm.lf, 8, 0⟩ : St).ms w σ3 r.2.2.2.ms w4 → DSs σ3 r.2.2.1 a4.defers → Ta σ3 220 (tget r.2.1) a4 →
      bodyPostM (Wd none) 0 Tryz.prog Tryz.f12 (fun e w' => e = .returned (.bool true) ∧ Chg (fun _ => False) w w') .ret a4 w4 := by
    intro r s' σ3 a4 w4 h g1 g2 g3 g4
    exact leaveA_ok (E := E1) rfl ok1 hc1 hdr1 r.2.2.1 a4.defers .ret .returning r.2.2.2 s' (.ret (.bool true)) σ3 w4 h g1 g4 g3 rfl fun τ ec w5 j1 j2 j3 => by
      obtain ⟨x, hx, rfl⟩ := j1
      simp only [V] at hx
      subst hx
      exact ⟨rfl, hq0 (g2.trans j3)⟩
  refine seqR_ok.wpList_mono' (fun e a4 w4 hp4 => ?_) _ _ _ hl3
  unfold regF1 at hC
  split at hC
  case h_2 => cases hC
  rename_i hr
  obtain ⟨rfl, σ3, d4, x4, ds4, t4⟩ := hp4.normal (by rw [hr]; rfl)
  obtain ⟨r3, h3, hC⟩ := R.bind_ok hC
  refine wpIn_mono (exec_ok (ro := none) ok1 hc1 hdr1 hnt 1000 cnd _ _ _ _ h3 σ3 a4 w4 d4 t4 ds4 rfl) fun e a5 w5 hp5 => ?_
  have hx4 := (hx02.trans x3).trans x4
  unfold cndF at hC
  split at hC
  · rename_i hr3
    obtain ⟨σ4, g1, g2, g3, g4⟩ := hp5
    rw [hr3] at g4
    obtain ⟨rfl, g5⟩ := g4
    exact hfin r3 s' σ4 a5 w5 hC g1 (hx4.trans g2) g3 g5
  · rename_i hr3
    obtain ⟨rfl, σ4, d5, x5, ds5, t5⟩ := hp5.normal (by rw [hr3]; rfl)
    obtain ⟨r4, h4, hC⟩ := R.bind_ok hC
    refine wpIn_mono (exec_ok (ro := none) ok1 hc1 hdr1 hnt 1000 tl _ _ _ _ h4 σ4 a5 w5 d5 t5 ds5 rfl) fun e a6 w6 hp6 => ?_
    unfold tlF at hC
    split at hC
    case h_2 => cases hC
    rename_i hr4
    obtain ⟨σ5, g1, g2, g3, g4⟩ := hp6
    rw [hr4] at g4
    obtain ⟨rfl, g5⟩ := g4
    exact hfin r4 s' σ5 a6 w6 hC g1 ((hx4.trans x5).trans g2) g3 g5
  · cases hC
end Go.Proofs.YtocabeobfbhajaaGreatDoor.Sx
