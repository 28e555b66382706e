/- CheckPosting, in pound. -/
import Derived.Test.YtocabeobfbhajaaGreatDoorPoF
import Derived.Test.YtocabeobfbhajaaGreatDoorAllC
import Derived.Test.YtocabeobfbhajaaGreatDoorRows
import Derived.ProofKit
import Derived.OpenShut
import Derived.Deep.Slices
import Derived.ChangeSame
import Derived.ChangeArms
import Derived.KernelRfl
import Derived.Test.YtocabeobfbhajaaGreatDoorAllB
import Derived.Lib.Bytealg
import Derived.Laws.Externs
import Derived.Test.YtocabeobfbhajaaGreatDoorProg
import Derived.Shelf.Small.Bits
import Derived.Shelf.Utf8.RuneCount
import Derived.Shelf.Strconv.Atoi
import Derived.Shelf.Strconv.Itoa0
import Derived.Shelf.Strconv.Itoa1
import Derived.Shelf.LaysM
import Derived.Shelf.Strconv.Itoa2
import Derived.Shelf.Strconv.Itoa3
import Derived.Shelf.Strconv.AtoiErrFast
import Derived.Shelf.Strconv.ParseIntEmpty
import Derived.Shelf.Strconv.AtoiFail
import Derived.Shelf.Strconv.Clone
import Derived.Shelf.Strconv.SyntaxError
import Derived.Shelf.LaysC
import Derived.Shelf.Strconv.ToError
import Derived.Shelf.Strconv.Lower
import Derived.Shelf.Strconv.ParseUint10
import Derived.Shelf.Strconv.ParseUint10Empty
import Derived.Shelf.Strconv.ParseUint10Any
import Derived.Shelf.Strconv.ParseInt10
import Derived.Shelf.Strconv.AtoiLong
import Derived.Shelf.Strconv.AtoiInnerAll
import Derived.Shelf.Strconv.RangeError
import Derived.Shelf.Strconv.ToErrorRange
import Derived.Shelf.Strconv.AtoiAll
import Derived.Shelf.Strconv.ErrVarAll
import Derived.Shelf.Strings.Search1
import Derived.Shelf.Strings.Search2
import Derived.Shelf.Strings.Search3
import Derived.Shelf.Strings.Cut
import Derived.Shelf.Strings.Count
import Derived.Shelf.Strings.Shaped
import Derived.Shelf.Sort.Plain
import Derived.Shelf.Strings.Split
import Derived.Shelf.Strings.SplitShaped
import Derived.Shelf.Unicode.Decode
import Derived.Shelf.Strings.RuneCount
import Derived.Shelf.Strings.Explode
import Derived.Shelf.Unicode.DecodeSlow
import Derived.Shelf.Unicode.DecodeAny
import Derived.Ground.Names2Prog
import Derived.Shelf.Slices.SearchI
import Derived.Shelf.Slices.In.SortNone
import Derived.Lib.AppendIntMem
import Derived.Lib.AtoiErrMem
set_option linter.unusedVariables false
set_option linter.unusedSimpArgs false
set_option linter.unusedSectionVars false
section
set_option maxRecDepth 100000
namespace Go.Proofs.YtocabeobfbhajaaGreatDoor
open Go Go.RowKit
def checkN (n : Int) (p : Po) : Int := if formedB n p = true then 0 else 1
theorem checkPosting_any (n : Int) (p : Po) (w : World) : Calls Tryz.prog 19 #[.int .i64 n, p.val] w fun e w' => e = .returned (.int .i64 (checkN n p)) ∧ Below w.heap.size w w' := by
 have HF := hid (formed_any n p)
 have E : Hid (checkN n p = if formedB n p = true then 0 else 1) := rfl
 unfold Po.val at *
 go_enter Tryz.func19, Tryz.ntmps19
 go_wp2_with fail
 refine (HF.out _).mono ?_
 rintro e w' ⟨rfl, hb⟩
 have hb2 := ((Below.refl _ w).alloc (Nat.le_refl _) _).trans (hb.mono (by simp))
 clear hb
 cases hf : formedB n p
 all_goals
  rw [hf] at E
  have hf := hid hf
  go_wp2
  go_ret
  exact ⟨by rw [E.out]; rfl, hb2⟩
end Go.Proofs.YtocabeobfbhajaaGreatDoor
end
section
namespace Go.Proofs.YtocabeobfbhajaaGreatDoor.Sx
open Go Go.Proofs.YtocabeobfbhajaaGreatDoor
def isCh (x : Po) : Prop := x.kind = 1 ∨ x.kind = 2
instance (x : Po) : Decidable (isCh x) := inferInstanceAs (Decidable (_ ∨ _))
def debitN (p : Po) : Int := if p.kind = 1 ∨ p.kind = 2 then p.owner else if p.kind = 3 then IntKind.wrap .i64 (100 + p.reeve) else if p.kind = 4 then (if p.by_.reeve = 0 ∧ p.by_.number = 0 then IntKind.wrap .i64 (100 + p.reeve) else 200) else 0
def creditN (p : Po) : Int := if p.kind = 3 then 200 else if p.kind = 4 ∨ p.kind = 5 then p.owner else 0
def amountN (p : Po) : Int := if 1 ≤ p.kind ∧ p.kind ≤ 5 then p.amount else 0
def isAccN (n : Int) : Prop := (0 ≤ n ∧ n ≤ 40) ∨ (100 ≤ n ∧ n ≤ 104) ∨ n = 200
instance (n : Int) : Decidable (isAccN n) := inferInstanceAs (Decidable (_ ∨ _))
def FormN (n : Int) (p : Po) : Prop := (n = 3 ∨ n = 5) ∧ 0 ≤ p.reeve ∧ p.reeve ≤ n - 1 ∧ 1 ≤ p.number ∧ p.number ≤ 300 ∧ 0 ≤ p.tick ∧ p.tick ≤ 100000 ∧ 1 ≤ p.owner ∧ p.owner ≤ 40 ∧ 1 ≤ p.amount ∧ p.amount ≤ 1000000 ∧ 1 ≤ p.kind ∧ p.kind ≤ 5 ∧ (p.kind = 4 ∨ p.kind = 5 → 1 ≤ p.of.number ∧ p.of.number < p.number)
theorem formN {n : Int} {p : Po} (h : checkN n p = 0) : FormN n p := by
 unfold checkN at h
 by_cases hf : formedB n p = true
 case neg => rw [if_neg hf] at h; cases h
 replace h := hf
 unfold formedB preB manyB isRefB inB Po.me at h
 simp only [Bool.and_eq_true, Bool.or_eq_true, beq_iff_eq, decide_eq_true_eq] at h
 obtain ⟨⟨⟨⟨⟨h1, ⟨h2, h2'⟩, h3, h3'⟩, h4, h4'⟩, h5, h5'⟩, h6, h6'⟩, h7⟩ := h
 have key : 1 ≤ p.kind ∧ p.kind ≤ 5 ∧ (p.kind = 4 ∨ p.kind = 5 → 1 ≤ p.of.number ∧ p.of.number < p.number) := by
  unfold YtocabeobfbhajaaGreatDoor.bodyB isRefB inB at h7
  have e2 : ∀ a b : Bool, (a && b) = true → b = true := by decide
  have e1 : ∀ a b : Bool, (a && b) = true → a = true := by decide
  split at h7
  ·omega
  ·split at h7
   ·omega
   ·split at h7
    ·have h8 := e2 _ _ (e1 _ _ h7)
     have h9 := e1 _ _ (e2 _ _ (e2 _ _ (e1 _ _ (e1 _ _ (e1 _ _ h7)))))
     simp only [decide_eq_true_eq] at h8 h9
     omega
    ·split at h7
     ·have h8 := e2 _ _ h7
      have h9 := e1 _ _ (e2 _ _ (e2 _ _ (e1 _ _ (e1 _ _ h7))))
      simp only [decide_eq_true_eq] at h8 h9
      omega
     ·cases h7
 exact ⟨h1, h2, h2', h3, h3', h4, h4', h5, h5', h6, h6', key.1, key.2.1, key.2.2⟩
theorem formN2 {n : Int} {p : Po} (h : checkN n p = 0) : (1 ≤ p.kind ∧ p.kind ≤ 5) ∧ (0 ≤ p.reeve ∧ p.reeve ≤ n - 1) ∧ (n = 3 ∨ n = 5) ∧ 1 ≤ p.amount ∧ p.amount ≤ 1000000 ∧ 1 ≤ p.number ∧ p.number ≤ 300 ∧ ((p.kind = 4 ∨ p.kind = 5) → 1 ≤ p.of.number ∧ p.of.number < p.number) := by
 obtain ⟨h1, h2, h2', h3, h3', h4, h4', h5, h5', h6, h6', h7, h7', h8⟩ := formN h
 exact ⟨⟨h7, h7'⟩, ⟨h2, h2'⟩, h1, h6, h6', h3, h3', h8⟩
theorem pMany_n (n : Int) (w : World) : Calls Tryz.prog 75 #[.int .i64 n] w fun e w' => e = .returned (.bool (decide (n = 3 ∨ n = 5))) ∧ Chg (fun _ => False) w w' := (isMany_any n w).mono fun e w' h => ⟨by
 rw [h.1]; unfold manyB
 by_cases h3 : n = 3 <;> by_cases h5 : n = 5 <;> simp [h3, h5], by rw [← h.2]; exact Chg.refl _ _⟩
theorem pCheck_n (n : Int) (p : Po) (w : World) : Calls Tryz.prog 19 #[.int .i64 n, p.val] w fun e w' => e = .returned (.int .i64 (checkN n p)) ∧ Chg (fun _ => False) w w' := (checkPosting_any n p w).mono fun e w' h => ⟨h.1, Chg.of_below h.2⟩
end Go.Proofs.YtocabeobfbhajaaGreatDoor.Sx
end
section
set_option maxRecDepth 100000
namespace Go.Proofs.YtocabeobfbhajaaGreatDoor.Sx
open Go Go.RowKit Go.ChangeShapes Go.WideShapes Go.Deep Go.Proofs.YtocabeobfbhajaaGreatDoor
def fieldsOf (d : TypeDesc) : List (Nat × TypeId) := match d with
 | .struct fs => fs.toList.map fun f => (f.offset, f.type)
 | _ => []
def R64 (x : Int) : Prop := -9223372036854775808 ≤ x ∧ x ≤ 9223372036854775807
def PoR (p : Po) : Prop := R64 p.reeve ∧ R64 p.number ∧ R64 p.tick ∧ (0 ≤ p.kind ∧ p.kind ≤ 255) ∧ R64 p.cse ∧ R64 p.owner ∧ (R64 p.of.reeve ∧ R64 p.of.number) ∧ (R64 p.by_.reeve ∧ R64 p.by_.number) ∧ R64 p.amount
theorem r64 {x : Int} (h : (Lit.int .i64 x).wf = true) : R64 x := bounds_i64 h
section
variable {H : Type} {enc : TypeId × Value → H} {W : World}
theorem parts_trod {P : Program} {n : Nat} {t : TypeId} {cs : List Value} {y : DataW H × List MemPlace} {L : List (Nat × TypeId)} (hf : (P.underlying t).map fieldsOf = some L) (hL : L ≠ [])
  (h : DataW.trod enc P W 0 (fun _ => true) true n t cs = some y) : cs.length = P.cellsOf t ∧ ∃ m, ∀ (i o : Nat) (t' : TypeId), L[i]? = some (o, t') → ∃ y, DataW.trod enc P W 0 (fun _ => true) true m t' ((cs.drop o).take (P.cellsOf t')) = some y := by
 cases hu : P.underlying t with
 | none => rw [hu] at hf; cases hf
 | some d =>
  rw [hu] at hf
  simp only [Option.map_some, Option.some.injEq] at hf
  cases d with
  | struct fs =>
   simp only [fieldsOf] at hf
   obtain ⟨xs, m, _, _, hlen, hxl, hget⟩ := DataW.trod_struct hu h
   refine ⟨hlen, m, fun i o t' hi => ?_⟩
   rw [← hf] at hi
   rw [List.getElem?_map] at hi
   cases hfi : fs.toList[i]? with
   | none => rw [hfi] at hi; cases hi
   | some f =>
    rw [hfi] at hi
    simp only [Option.map_some, Option.some.injEq, Prod.mk.injEq] at hi
    obtain ⟨rfl, rfl⟩ := hi
    have h2 := hget i f (by simpa using hfi)
    have hil : i < xs.length := by
     rw [hxl]
     have := (List.getElem?_eq_some_iff.1 hfi).1
     simpa using this
    rw [h2, List.getElem?_eq_getElem hil]
    exact ⟨_, rfl⟩
  | _ => exact absurd hf.symm hL
theorem refFields : (Tryz.prog.underlying 23).map fieldsOf = some [(0, 3), (1, 3)] := by kernel_rfl
theorem poFields : (Tryz.prog.underlying 25).map fieldsOf = some [(0, 3), (1, 3), (2, 3), (3, 5), (4, 3), (5, 3), (6, 23), (8, 23), (10, 3)] := by kernel_rfl
theorem cellsN : Tryz.prog.cellsOf 3 = 1 ∧ Tryz.prog.cellsOf 5 = 1 ∧ Tryz.prog.cellsOf 23 = 2 ∧ Tryz.prog.cellsOf 25 = 11 := by
 refine ⟨?_, ?_, ?_, ?_⟩ <;> kernel_rfl
theorem rf_trod {n : Nat} {cs : List Value} {y : DataW H × List MemPlace} (h : DataW.trod enc Tryz.prog W 0 (fun _ => true) true n 23 cs = some y) : ∃ r : Rf, cs = r.cells ∧ R64 r.reeve ∧ R64 r.number := by
 obtain ⟨hlen, m, hp⟩ := parts_trod refFields (by simp) h
 obtain ⟨c1, _, c2, _⟩ := cellsN
 rw [c2] at hlen
 match cs, hlen with
 | [v0, v1], _ =>
  obtain ⟨_, h0⟩ := hp 0 _ _ rfl
  obtain ⟨_, h1⟩ := hp 1 _ _ rfl
  rw [c1] at h0 h1
  simp only [List.drop_zero, List.drop_succ_cons, List.take_succ_cons, List.take_zero] at h0 h1
  obtain ⟨a, e0, _, k0⟩ := DataW.trod_int Tryz.underlying3 h0
  obtain ⟨b, e1, _, k1⟩ := DataW.trod_int Tryz.underlying3 h1
  simp only [List.cons.injEq, and_true] at e0 e1
  subst e0 e1
  exact ⟨⟨a, b⟩, rfl, r64 k0, r64 k1⟩
theorem po_trod {n : Nat} {cs : List Value} {y : DataW H × List MemPlace} (h : DataW.trod enc Tryz.prog W 0 (fun _ => true) true n 25 cs = some y) : ∃ p : Po, cs = p.cells ∧ PoR p := by
 obtain ⟨hlen, m, hp⟩ := parts_trod poFields (by simp) h
 obtain ⟨c1, c8, c2, c11⟩ := cellsN
 rw [c11] at hlen
 match cs, hlen with
 | [v0, v1, v2, v3, v4, v5, v6, v7, v8, v9, v10], _ =>
  obtain ⟨_, h0⟩ := hp 0 _ _ rfl
  obtain ⟨_, h1⟩ := hp 1 _ _ rfl
  obtain ⟨_, h2⟩ := hp 2 _ _ rfl
  obtain ⟨_, h3⟩ := hp 3 _ _ rfl
  obtain ⟨_, h4⟩ := hp 4 _ _ rfl
  obtain ⟨_, h5⟩ := hp 5 _ _ rfl
  obtain ⟨_, h6⟩ := hp 6 _ _ rfl
  obtain ⟨_, h7⟩ := hp 7 _ _ rfl
  obtain ⟨_, h8⟩ := hp 8 _ _ rfl
  rw [c1] at h0 h1 h2 h4 h5 h8
  rw [c8] at h3
  rw [c2] at h6 h7
  simp only [List.drop_zero, List.drop_succ_cons, List.take_succ_cons, List.take_zero] at h0 h1 h2 h3 h4 h5 h6 h7 h8
  obtain ⟨a0, e0, _, k0⟩ := DataW.trod_int Tryz.underlying3 h0
  obtain ⟨a1, e1, _, k1⟩ := DataW.trod_int Tryz.underlying3 h1
  obtain ⟨a2, e2, _, k2⟩ := DataW.trod_int Tryz.underlying3 h2
  obtain ⟨a3, e3, _, k3⟩ := DataW.trod_int Tryz.underlying5 h3
  obtain ⟨a4, e4, _, k4⟩ := DataW.trod_int Tryz.underlying3 h4
  obtain ⟨a5, e5, _, k5⟩ := DataW.trod_int Tryz.underlying3 h5
  obtain ⟨r6, e6, k6⟩ := rf_trod h6
  obtain ⟨r7, e7, k7⟩ := rf_trod h7
  obtain ⟨a8, e8, _, k8⟩ := DataW.trod_int Tryz.underlying3 h8
  simp only [Rf.cells, List.cons.injEq, and_true] at e0 e1 e2 e3 e4 e5 e6 e7 e8
  obtain ⟨rfl, rfl⟩ := e6
  obtain ⟨rfl, rfl⟩ := e7
  subst e0 e1 e2 e3 e4 e5 e8
  have k3' : 0 ≤ a3 ∧ a3 ≤ 255 := bounds_u8 k3
  exact ⟨⟨a0, a1, a2, a3, a4, a5, r6, r7, a8⟩, rfl, r64 k0, r64 k1, r64 k2, k3', r64 k4, r64 k5, k6, k7, r64 k8⟩
end
end Go.Proofs.YtocabeobfbhajaaGreatDoor.Sx
end
section
namespace Go.Proofs.YtocabeobfbhajaaGreatDoor.Sx
noncomputable section
open Go Go.RowKit
theorem Ds.name {G : Gl} {σ : Sg} {M : MS} {w : World} (d : Ds G σ M w) {b o e c sz : Nat} {cl l : Array Value} {t : TypeId} {fr : Nat × Nat} (hob : w.heap[b]? = some (.cells cl t fr)) (hfr : fr = (0, 0) ∨ cl.size ≤ fr.1) (hc : G.sy c = .agg l) (h1 : ∀ v ∈ l.toList, v.oneCell' = true) (hsz : o + l.size + e * sz ≤ cl.size) (hat : ∀ i v, l[i]? = some v → cl[o + i]? = some v) (hni : ¬ Im σ M b) (hno : ¬ G.old b) :
  ∃ σ1 : Sg, σ1.bl = (fun n => if n = M.nx then some (b, o) else σ.bl n) ∧ σ1.cp = (fun n => if n = M.nc then some e else σ.cp n) ∧ σ1.sy = σ.sy ∧ σ.le σ1 ∧
   Ds G σ1 ⟨fun n => if n = M.nx then some (.lst c sz (M.nc + 1)) else M.g n, M.nx + 1, M.nc + 1⟩ w := by
 have hf : σ.bl M.nx = none := d.fresh _ (Nat.le_refl _)
 have hfc : σ.cp M.nc = none := d.freshC _ (Nat.le_refl _)
 let σ1 : Sg := ⟨fun n => if n = M.nx then some (b, o) else σ.bl n, fun n => if n = M.nc then some e else σ.cp n, σ.sy⟩
 have hle : σ.le σ1 := by
  refine ⟨fun n p h => ?_, fun n p h => ?_, rfl⟩
  ·show (if n = M.nx then _ else _) = _
   rw [if_neg (by rintro rfl; rw [hf] at h; cases h)]; exact h
  ·show (if n = M.nc then _ else _) = _
   rw [if_neg (by rintro rfl; rw [hfc] at h; cases h)]; exact h
 refine ⟨σ1, rfl, rfl, rfl, hle, ?_, ?_, ?_, ?_, ?_, d.sy, ?_⟩
 ·intro n ab h
  change (if n = M.nx then _ else _) = some ab at h
  split at h
  ·rename_i e1
   cases h; subst e1
   refine .inl ⟨(b, o), if_pos rfl, _, hob, cl, t, fr, rfl, hfr, l, e * sz, ?_, h1, .inr ⟨M.nc, e, rfl, if_pos rfl, rfl⟩, hsz, hat⟩
   show σ.sy c = _
   rw [d.sy]; exact hc
  ·rename_i e1
   rcases d.blk n ab h with ⟨p, hp, ob, ho, hb⟩ | ⟨e2, e3, e4⟩
   ·exact .inl ⟨p, hle.1 _ _ hp, ob, ho, BO_mono hle hb⟩
   ·refine .inr ⟨?_, Nat.lt_succ_of_lt e3, NL_mono hle e4⟩
    show (if n = M.nx then _ else _) = none
    rw [if_neg e1]; exact e2
 ·intro n m ab ab' p q hnm h1 h2 hp hq
  change (if n = M.nx then _ else _) = some ab at h1
  change (if m = M.nx then _ else _) = some ab' at h2
  change (if n = M.nx then _ else _) = some p at hp
  change (if m = M.nx then _ else _) = some q at hq
  by_cases en : n = M.nx
  ·rw [if_pos en] at hp
   have em : m ≠ M.nx := fun em => hnm (en.trans em.symm)
   rw [if_neg em] at h2 hq
   cases hp
   intro h
   exact hni ⟨m, ab', q, h2, hq, h.symm⟩
  ·rw [if_neg en] at h1 hp
   by_cases em : m = M.nx
   ·rw [if_pos em] at hq
    cases hq
    intro h
    exact hni ⟨n, ab, p, h1, hp, h⟩
   ·rw [if_neg em] at h2 hq
    exact d.inj n m ab ab' p q hnm h1 h2 hp hq
 ·intro n hn
  show (if n = M.nx then _ else _) = none
  have hn : M.nx + 1 ≤ n := hn
  rw [if_neg (by omega)]; exact d.fresh n (by omega)
 ·intro n hn
  show (if n = M.nc then _ else _) = none
  have hn : M.nc + 1 ≤ n := hn
  rw [if_neg (by omega)]; exact d.freshC n (by omega)
 ·intro g hg
  exact hle.1 _ _ (d.glob g hg)
 ·intro k hk
  obtain ⟨o1, o2, o3⟩ := d.old k hk
  refine ⟨o1, o2, ?_⟩
  rintro ⟨n, ab, p, h1, hp, h2⟩
  change (if n = M.nx then _ else _) = some ab at h1
  change (if n = M.nx then _ else _) = some p at hp
  by_cases en : n = M.nx
  ·rw [if_pos en] at hp
   cases hp
   exact hno (by subst h2; exact hk)
  ·rw [if_neg en] at h1 hp
   exact o3 ⟨n, ab, p, h1, hp, h2⟩
structure LRes where
 L : List Value
 sz : Nat
 n : Nat
def SlAt (w : World) (r : LRes) (z : Value) (b : Nat) : Prop := ∃ o κ cl ty fr, z = .slice (some ⟨b, o, none⟩) r.n κ ∧ r.n ≤ κ ∧ w.heap[b]? = some (.cells cl ty fr) ∧ (fr = (0, 0) ∨ cl.size ≤ fr.1) ∧ o + κ * r.sz ≤ cl.size ∧ ∀ i v, r.L[i]? = some v → cl[o + i]? = some v
def FrAll (W : Nat) (w : World) : List LRes → List Value → List Nat → Prop
 | [], [], _ => True
 | r :: rs, z :: zs, av => (r.n = 0 ∧ (∃ a, z = .slice a 0 0) ∧ FrAll W w rs zs av) ∨ (∃ b, b ∉ av ∧ W ≤ b ∧ SlAt w r z b ∧ FrAll W w rs zs (b :: av))
 | _, _, _ => False
def growL : List (Nat × Nat) → St → St
 | [], s => s
 | (c, sz) :: r, s => growL r { mem := Mm.put (some (.lst c sz (Nat.succ s.nc))) s.mem s.nx, nx := Nat.succ s.nx, nc := Nat.succ s.nc }
def slsL (ls : List (Nat × Nat × AV)) (nx nc : Nat) : List AV := match ls with
 | [] => []
 | (c, sz, ln) :: r => .sls nx sz (.int .i64 0) ln (nc + 2) :: slsL r (nx + 1) (nc + 1)
def ResOK (sy : Nat → Value) : List (Nat × Nat × AV) → List LRes → Prop
 | [], [] => True
 | (c, sz, ln) :: ls, r :: rs => sy c = .agg r.L.toArray ∧ r.sz = sz ∧ r.L.length = r.n * r.sz ∧ (∀ v ∈ r.L, v.oneCell' = true) ∧ nz sy ln = some (r.n : Int) ∧ ResOK sy ls rs
 | _, _ => False
theorem grow_all {G : Gl} {W : Nat} {w : World} : ∀ {ls : List (Nat × Nat × AV)} {rs : List LRes} {zs : List Value} {av : List Nat} {σ : Sg} {s : St}, Ds G σ s.ms w → (∀ k, Im σ s.ms k → k < W ∨ k ∈ av) → (∀ k, G.old k → k < W) → FrAll W w rs zs av → ResOK G.sy ls rs → s.nx + ls.length ≤ topName →
  ∃ σ', Ds G σ' (growL (ls.map fun x => (x.1, x.2.1)) s).ms w ∧ Vs σ' (slsL ls s.nx s.nc) zs ∧ (∀ n, n < s.nx → σ'.bl n = σ.bl n) ∧ (∀ n, n < s.nc → σ'.cp n = σ.cp n) ∧ σ'.sy = σ.sy ∧ σ.le σ' ∧ s.nx ≤ (growL (ls.map fun x => (x.1, x.2.1)) s).nx ∧ s.nc ≤ (growL (ls.map fun x => (x.1, x.2.1)) s).nc ∧ ∀ k, Im σ' (growL (ls.map fun x => (x.1, x.2.1)) s).ms k → W ≤ k ∨ Im σ s.ms k := by
 intro ls
 induction ls with
 | nil =>
  intro rs zs av σ s d hI ho hF hR hx
  cases rs with
  | cons r rs => exact hR.elim
  | nil =>
   cases zs with
   | cons z zs => exact hF.elim
   | nil => exact ⟨σ, d, by simp [slsL, Vs], fun _ _ => rfl, fun _ _ => rfl, rfl, Sg.le_refl _, Nat.le_refl _, Nat.le_refl _, fun k h => .inr h⟩
 | cons x ls ih =>
  obtain ⟨c, sz, ln⟩ := x
  intro rs zs av σ s d hI ho hF hR hx
  cases rs with
  | nil => exact hR.elim
  | cons r rs =>
  cases zs with
  | nil => exact hF.elim
  | cons z zs =>
  obtain ⟨r1, r2, r3, r4, r5, hR⟩ := hR
  have hms := newL_ms (s := s) (sz := sz) (c' := c) (by simp only [List.length_cons] at hx; omega)
  simp only [List.length_cons] at hx
  rcases hF with ⟨h0, ⟨a, hz⟩, hF⟩ | ⟨b, hb, hW, ⟨o, κ, cl, ty, fr, s1, s2, s3, s4, s5, s6⟩, hF⟩
  ·have hL : r.L = [] := List.eq_nil_of_length_eq_zero (by rw [r3, h0, Nat.zero_mul])
   obtain ⟨d2, x2⟩ := d.addNil (ab := .lst c sz (s.nc + 1)) (by show σ.sy c = _; rw [d.sy, r1, hL])
   rw [show s.ms.nx = s.nx from rfl, show s.ms.nc = s.nc from rfl, show s.ms.g = s.mem.get from rfl] at d2 x2
   rw [← hms] at d2 x2
   have hfn : σ.bl s.nx = none := d.fresh _ (Nat.le_refl _)
   have hIm : ∀ k, Im σ ({ mem := Mm.put (some (.lst c sz (Nat.succ s.nc))) s.mem s.nx, nx := Nat.succ s.nx, nc := Nat.succ s.nc } : St).ms k → Im σ s.ms k := by
    rintro k ⟨m, ab, p, e1, e2, e3⟩
    rw [hms] at e1
    change (if m = s.nx then _ else _) = some ab at e1
    have hm : m ≠ s.nx := by rintro rfl; rw [hfn] at e2; cases e2
    rw [if_neg hm] at e1
    exact ⟨m, ab, p, e1, e2, e3⟩
   obtain ⟨σ', g1, g2, g3, g4, g5, g6, g7, g8, g9⟩ := ih d2 (fun k hk => hI k (hIm k hk)) ho hF hR (by show Nat.succ s.nx + _ ≤ _; omega)
   refine ⟨σ', g1, ?_, fun n hn => g3 n (Nat.lt_succ_of_lt hn), fun n hn => g4 n (Nat.lt_succ_of_lt hn), g5, g6, Nat.le_trans (Nat.le_succ _) g7, Nat.le_trans (Nat.le_succ _) g8, fun k hk => (g9 k hk).elim .inl fun h => .inr (hIm k h)⟩
   ·simp only [slsL, Vs]
    refine ⟨z, zs, rfl, ?_, g2⟩
    simp only [V]
    refine ⟨0, r.n, rfl, by rw [g5, d.sy]; exact r5, .inl ⟨h0, a, hz⟩⟩
  ·have hbI : ¬ Im σ s.ms b := fun h => (hI b h).elim (fun h => absurd hW (Nat.not_le_of_lt h)) hb
   have hbO : ¬ G.old b := fun h => absurd hW (Nat.not_le_of_lt (ho b h))
   obtain ⟨σ1, n1, n2, n3, n4, d2⟩ := d.name (c := c) (sz := sz) (e := κ - r.n) s3 s4 r1 (by simpa using r4) (by
    rw [List.size_toArray, r3, ← r2, Nat.add_assoc, ← Nat.add_mul, Nat.add_sub_cancel' s2]; exact s5) (by simpa using s6) hbI hbO
   rw [show s.ms.nx = s.nx from rfl] at n1 d2
   rw [show s.ms.nc = s.nc from rfl] at n2 d2
   rw [show s.ms.g = s.mem.get from rfl] at d2
   rw [← hms] at d2
   have hIm : ∀ k, Im σ1 ({ mem := Mm.put (some (.lst c sz (Nat.succ s.nc))) s.mem s.nx, nx := Nat.succ s.nx, nc := Nat.succ s.nc } : St).ms k → k = b ∨ Im σ s.ms k := by
    rintro k ⟨m, ab, p, e1, e2, e3⟩
    rw [hms] at e1
    change (if m = s.nx then _ else _) = some ab at e1
    rw [n1] at e2
    change (if m = s.nx then _ else _) = some p at e2
    by_cases hm : m = s.nx
    ·rw [if_pos hm] at e2; cases e2; exact .inl e3.symm
    ·rw [if_neg hm] at e1 e2; exact .inr ⟨m, ab, p, e1, e2, e3⟩
   obtain ⟨σ', g1, g2, g3, g4, g5, g6, g7, g8, g9⟩ := ih (av := b :: av) d2 (fun k hk => (hIm k hk).elim (fun h => .inr (by rw [h]; exact List.mem_cons_self)) (fun h => (hI k h).imp id (List.mem_cons_of_mem _))) ho hF hR (by show Nat.succ s.nx + _ ≤ _; omega)
   refine ⟨σ', g1, ?_, fun n hn => ?_, fun n hn => ?_, g5.trans n3, Sg.le_trans n4 g6, Nat.le_trans (Nat.le_succ _) g7, Nat.le_trans (Nat.le_succ _) g8, fun k hk => (g9 k hk).elim .inl fun h => (hIm k h).imp (fun h => by rw [h]; exact hW) id⟩
   ·simp only [slsL, Vs]
    refine ⟨z, zs, rfl, ?_, g2⟩
    simp only [V]
    refine ⟨0, r.n, rfl, by rw [g5, n3, d.sy]; exact r5, .inr ⟨(b, o), κ, g6.1 _ _ (by rw [n1]; exact if_pos rfl), by simpa using s1, .inr (.inr ⟨s.nc, κ - r.n, rfl, g6.2.1 _ _ (by rw [n2]; exact if_pos rfl), by omega⟩)⟩⟩
   ·rw [g3 n (Nat.lt_succ_of_lt hn), n1]
    show (if n = s.nx then _ else _) = _
    rw [if_neg (by omega)]
   ·rw [g4 n (Nat.lt_succ_of_lt hn), n2]
    show (if n = s.nc then _ else _) = _
    rw [if_neg (by omega)]
end
end Go.Proofs.YtocabeobfbhajaaGreatDoor.Sx
end
section
namespace Go.Proofs.YtocabeobfbhajaaGreatDoor.Sx
noncomputable section
open Go Go.RowKit
def isLs : AV → Bool
 | .sls _ _ _ _ _ => true
 | .ns => true
 | .sl _ _ _ _ _ => true
 | _ => false
def ivQ (sy : Nat → Value) (v : AV) (zs : List Value) : Option (Value × List Value) := match isLs v with
 | true => match zs with
  | z :: r => some (z, r)
  | [] => none
 | false => match iv sy v with
  | some x => some (x, zs)
  | none => none
def ivsQ (sy : Nat → Value) : List AV → List Value → Option (List Value × List Value)
 | [], zs => some ([], zs)
 | .bs n N :: r, zs => match ivsQ sy r zs with
  | some (l, t) => some (bcs n N ++ l, t)
  | none => none
 | v :: r, zs => match ivQ sy v zs with
  | some (x, t) => match ivsQ sy r t with
   | some (l, t') => some (x :: l, t')
   | none => none
  | none => none
def vvQ (sy : Nat → Value) (v : AV) (zs : List Value) : Option (Value × List Value) := match v with
 | .agg cs => match ivsQ sy cs zs with
  | some (l, t) => some (.agg l.toArray, t)
  | none => none
 | v => ivQ sy v zs
def vvsQ (sy : Nat → Value) : List AV → List Value → Option (List Value × List Value)
 | [], zs => some ([], zs)
 | v :: r, zs => match vvQ sy v zs with
  | some (x, t) => match vvsQ sy r t with
   | some (l, t') => some (x :: l, t')
   | none => none
  | none => none
def vtQ (sy : Nat → Value) (v : AV) (zs : List Value) : Option (Value × List Value) := match v with
 | .tup vs => match vvsQ sy vs zs with
  | some (l, t) => some (.tuple l.toArray, t)
  | none => none
 | v => vvQ sy v zs
def slsI (v : AV) : List AV := match isLs v with
 | true => [v]
 | false => []
def slsIs : List AV → List AV
 | [] => []
 | v :: r => slsI v ++ slsIs r
def slsV : AV → List AV
 | .agg cs => slsIs cs
 | v => slsI v
def slsVs : List AV → List AV
 | [] => []
 | v :: r => slsV v ++ slsVs r
def slsT : AV → List AV
 | .tup vs => slsVs vs
 | v => slsV v
theorem Vs_split {σ : Sg} : ∀ {a b : List AV} {z : List Value}, Vs σ (a ++ b) z → ∃ x y, z = x ++ y ∧ Vs σ a x ∧ Vs σ b y
 | [], b, z, h => ⟨[], z, rfl, by simp [Vs], h⟩
 | v :: a, b, z, h => by
  simp only [List.cons_append, Vs] at h
  obtain ⟨u, l, rfl, h1, h2⟩ := h
  obtain ⟨x, y, rfl, g1, g2⟩ := Vs_split h2
  exact ⟨u :: x, y, rfl, by simp only [Vs]; exact ⟨u, x, rfl, h1, g1⟩, g2⟩
theorem Vs_length {σ : Sg} : ∀ {a : List AV} {x : List Value}, Vs σ a x → x.length = a.length
 | [], x, h => by simp only [Vs] at h; subst h; rfl
 | v :: a, x, h => by
  simp only [Vs] at h
  obtain ⟨z, l, rfl, h1, h2⟩ := h
  simp [Vs_length h2]
theorem ivQ_of {σ : Sg} {v : AV} {u : Value} (h : V σ v u) : ∃ zs, Vs σ (slsI v) zs ∧ ∀ t x t', ivQ σ.sy v (zs ++ t) = some (x, t') → u = x ∧ t' = t := by
 unfold slsI ivQ
 cases hl : isLs v
 ·refine ⟨[], by simp [Vs], fun t x t' e => ?_⟩
  simp only [List.nil_append] at e
  cases he : iv σ.sy v with
  | none => rw [he] at e; cases e
  | some y => rw [he] at e; cases e; exact ⟨iv_of h he, rfl⟩
 ·refine ⟨[u], by simp only [Vs]; exact ⟨u, [], rfl, h, rfl⟩, fun t x t' e => ?_⟩
  cases e
  exact ⟨rfl, rfl⟩
theorem ivsQ_cons {sy : Nat → Value} {v : AV} {r : List AV} {zs : List Value} (h : ∀ n N, v ≠ .bs n N) : ivsQ sy (v :: r) zs = (match ivQ sy v zs with
  | some (x, t) => match ivsQ sy r t with
   | some (l, t') => some (x :: l, t')
   | none => none
  | none => none) := by
 cases v <;> first | rfl | exact absurd rfl (h _ _)
theorem ivsQ_of {σ : Sg} : ∀ {cs : List AV} {l : List Value}, Cs σ cs l → ∃ zs, Vs σ (slsIs cs) zs ∧ ∀ t x t', ivsQ σ.sy cs (zs ++ t) = some (x, t') → l = x ∧ t' = t
 | [], l, h => by
  simp only [Cs] at h
  subst h
  exact ⟨[], by simp [slsIs, Vs], fun t x t' e => by cases e; exact ⟨rfl, rfl⟩⟩
 | v :: r, l, h => by
  rcases Cs_cons.1 h with ⟨n, N, l', rfl, rfl, h2⟩ | ⟨y, l', rfl, rfl, h2⟩ | ⟨y, l', rfl, h1, h2⟩
  ·obtain ⟨zs, g1, g2⟩ := ivsQ_of h2
   refine ⟨zs, by simpa [slsIs, slsI, isLs] using g1, fun t x t' e => ?_⟩
   unfold ivsQ at e
   split at e
   case h_2 => cases e
   rename_i he
   cases e
   obtain ⟨e1, e2⟩ := g2 _ _ _ he
   exact ⟨by rw [e1], e2⟩
  ·obtain ⟨zs, g1, g2⟩ := ivsQ_of h2
   refine ⟨zs, by simpa [slsIs, slsI, isLs] using g1, fun t x t' e => ?_⟩
   unfold ivsQ at e
   simp [ivQ, isLs, iv] at e
  ·obtain ⟨z1, g1, g2⟩ := ivQ_of h1
   obtain ⟨z2, g3, g4⟩ := ivsQ_of h2
   refine ⟨z1 ++ z2, by simp only [slsIs]; exact Vs_append g1 g3, fun t x t' e => ?_⟩
   rw [ivsQ_cons (by rintro n N rfl; simp [V] at h1)] at e
   ·split at e
    case h_2 => cases e
    rename_i x1 t1 he1
    rw [List.append_assoc] at he1
    obtain ⟨e1, e2⟩ := g2 _ _ _ he1
    subst e2
    split at e
    case h_2 => cases e
    rename_i he2
    cases e
    obtain ⟨e3, e4⟩ := g4 _ _ _ he2
    exact ⟨by rw [e1, e3], e4⟩
theorem vvQ_of {σ : Sg} {v : AV} {u : Value} (h : V σ v u) : ∃ zs, Vs σ (slsV v) zs ∧ ∀ t x t', vvQ σ.sy v (zs ++ t) = some (x, t') → u = x ∧ t' = t := by
 by_cases hv : ∃ cs, v = .agg cs
 ·obtain ⟨cs, rfl⟩ := hv
  simp only [V] at h
  obtain ⟨l, h1, rfl⟩ := h
  obtain ⟨zs, g1, g2⟩ := ivsQ_of h1
  refine ⟨zs, g1, fun t x t' e => ?_⟩
  simp only [vvQ] at e
  split at e
  case h_2 => cases e
  rename_i he
  cases e
  obtain ⟨e1, e2⟩ := g2 _ _ _ he
  exact ⟨by rw [e1], e2⟩
 ·obtain ⟨zs, g1, g2⟩ := ivQ_of h
  have e1 : slsV v = slsI v := by
   cases v <;> first | rfl | exact absurd ⟨_, rfl⟩ hv
  have e2 : ∀ zs, vvQ σ.sy v zs = ivQ σ.sy v zs := by
   intro zs
   cases v <;> first | rfl | exact absurd ⟨_, rfl⟩ hv
  exact ⟨zs, by rw [e1]; exact g1, fun t x t' e => g2 t x t' (by rw [← e2]; exact e)⟩
theorem vvsQ_of {σ : Sg} : ∀ {cs : List AV} {l : List Value}, Vs σ cs l → ∃ zs, Vs σ (slsVs cs) zs ∧ ∀ t x t', vvsQ σ.sy cs (zs ++ t) = some (x, t') → l = x ∧ t' = t
 | [], l, h => by
  simp only [Vs] at h
  subst h
  exact ⟨[], by simp [slsVs, Vs], fun t x t' e => by cases e; exact ⟨rfl, rfl⟩⟩
 | v :: r, l, h => by
  simp only [Vs] at h
  obtain ⟨y, l', rfl, h1, h2⟩ := h
  obtain ⟨z1, g1, g2⟩ := vvQ_of h1
  obtain ⟨z2, g3, g4⟩ := vvsQ_of h2
  refine ⟨z1 ++ z2, by simp only [slsVs]; exact Vs_append g1 g3, fun t x t' e => ?_⟩
  unfold vvsQ at e
  split at e
  case h_2 => cases e
  rename_i x1 t1 he1
  rw [List.append_assoc] at he1
  obtain ⟨e1, e2⟩ := g2 _ _ _ he1
  subst e2
  split at e
  case h_2 => cases e
  rename_i he2
  cases e
  obtain ⟨e3, e4⟩ := g4 _ _ _ he2
  exact ⟨by rw [e1, e3], e4⟩
theorem vtQ_of {σ : Sg} {v : AV} {u : Value} (h : V σ v u) : ∃ zs, Vs σ (slsT v) zs ∧ ∀ t x t', vtQ σ.sy v (zs ++ t) = some (x, t') → u = x ∧ t' = t := by
 by_cases hv : ∃ cs, v = .tup cs
 ·obtain ⟨cs, rfl⟩ := hv
  simp only [V] at h
  obtain ⟨l, h1, rfl⟩ := h
  obtain ⟨zs, g1, g2⟩ := vvsQ_of h1
  refine ⟨zs, g1, fun t x t' e => ?_⟩
  simp only [vtQ] at e
  split at e
  case h_2 => cases e
  rename_i he
  cases e
  obtain ⟨e1, e2⟩ := g2 _ _ _ he
  exact ⟨by rw [e1], e2⟩
 ·obtain ⟨zs, g1, g2⟩ := vvQ_of h
  have e1 : slsT v = slsV v := by
   cases v <;> first | rfl | exact absurd ⟨_, rfl⟩ hv
  have e2 : ∀ zs, vtQ σ.sy v zs = vvQ σ.sy v zs := by
   intro zs
   cases v <;> first | rfl | exact absurd ⟨_, rfl⟩ hv
  exact ⟨zs, by rw [e1]; exact g1, fun t x t' e => g2 t x t' (by rw [← e2]; exact e)⟩
def oneIn (sy : Nat → Value) : AV → Bool
 | .sym i => (sy i).oneCell'
 | _ => true
theorem iv_one {sy : Nat → Value} {v : AV} {x : Value} (e : iv sy v = some x) (h : oneIn sy v = true) : x.oneCell' = true := by
 cases v <;> simp only [iv, Option.some.injEq, reduceCtorEq] at e <;> subst e <;> first | exact h | rfl
theorem ivQ_to {σ : Sg} {v : AV} {zs t t' : List Value} {x : Value} (h : Vs σ (slsI v) zs) (e : ivQ σ.sy v (zs ++ t) = some (x, t')) (ho : oneIn σ.sy v = true) : V σ v x ∧ t' = t := by
 unfold slsI at h
 unfold ivQ at e
 cases hl : isLs v
 ·rw [hl] at h e
  simp only [Vs] at h
  subst h
  simp only [List.nil_append] at e
  cases he : iv σ.sy v with
  | none => rw [he] at e; cases e
  | some y =>
   rw [he] at e; cases e
   exact ⟨iv_to he (iv_one he ho), rfl⟩
 ·rw [hl] at h e
  simp only [Vs] at h
  obtain ⟨z, l, rfl, h1, rfl⟩ := h
  cases e
  exact ⟨h1, rfl⟩
theorem ivsQ_to {σ : Sg} : ∀ {cs : List AV} {zs t t' : List Value} {l : List Value}, Vs σ (slsIs cs) zs → ivsQ σ.sy cs (zs ++ t) = some (l, t') → cs.all (oneIn σ.sy) = true → Cs σ cs l ∧ t' = t
 | [], zs, t, t', l, h, e, _ => by
  simp only [slsIs, Vs] at h
  subst h
  cases e
  exact ⟨by simp [Cs], rfl⟩
 | v :: r, zs, t, t', l, h, e, ho => by
  simp only [List.all_cons, Bool.and_eq_true] at ho
  obtain ⟨z1, z2, rfl, h1, h2⟩ := Vs_split h
  by_cases hv : ∃ n N, v = .bs n N
  ·obtain ⟨n, N, rfl⟩ := hv
   have h1 : Vs σ [] z1 := h1
   simp only [Vs] at h1
   subst h1
   unfold ivsQ at e
   split at e
   case h_2 => cases e
   rename_i he
   cases e
   obtain ⟨g1, g2⟩ := ivsQ_to h2 he ho.2
   exact ⟨Cs_cons.2 (.inl ⟨n, N, _, rfl, rfl, g1⟩), g2⟩
  ·rw [ivsQ_cons (by rintro n N rfl; exact hv ⟨n, N, rfl⟩)] at e
   split at e
   case h_2 => cases e
   rename_i x1 t1 he1
   rw [List.append_assoc] at he1
   obtain ⟨g1, rfl⟩ := ivQ_to h1 he1 ho.1
   split at e
   case h_2 => cases e
   rename_i he2
   cases e
   obtain ⟨g3, g4⟩ := ivsQ_to h2 he2 ho.2
   exact ⟨Cs_cons.2 (.inr (.inr ⟨_, _, rfl, g1, g3⟩)), g4⟩
def oneVa (sy : Nat → Value) : AV → Bool
 | .agg cs => cs.all (oneIn sy)
 | v => oneIn sy v
def oneTu (sy : Nat → Value) : AV → Bool
 | .tup vs => vs.all (oneVa sy)
 | v => oneVa sy v
theorem vvQ_to {σ : Sg} {v : AV} {zs t t' : List Value} {x : Value} (h : Vs σ (slsV v) zs) (e : vvQ σ.sy v (zs ++ t) = some (x, t')) (ho : oneVa σ.sy v = true) : V σ v x ∧ t' = t := by
 by_cases hv : ∃ cs, v = .agg cs
 ·obtain ⟨cs, rfl⟩ := hv
  simp only [vvQ] at e
  split at e
  case h_2 => cases e
  rename_i he
  cases e
  obtain ⟨g1, g2⟩ := ivsQ_to h he ho
  exact ⟨by simp only [V]; exact ⟨_, g1, rfl⟩, g2⟩
 ·have e1 : slsV v = slsI v := by
   cases v <;> first | rfl | exact absurd ⟨_, rfl⟩ hv
  have e2 : ∀ zs, vvQ σ.sy v zs = ivQ σ.sy v zs := by
   intro zs
   cases v <;> first | rfl | exact absurd ⟨_, rfl⟩ hv
  have e3 : oneVa σ.sy v = oneIn σ.sy v := by
   cases v <;> first | rfl | exact absurd ⟨_, rfl⟩ hv
  rw [e1] at h
  rw [e2] at e
  exact ivQ_to h e (by rw [← e3]; exact ho)
theorem vvsQ_to {σ : Sg} : ∀ {cs : List AV} {zs t t' : List Value} {l : List Value}, Vs σ (slsVs cs) zs → vvsQ σ.sy cs (zs ++ t) = some (l, t') → cs.all (oneVa σ.sy) = true → Vs σ cs l ∧ t' = t
 | [], zs, t, t', l, h, e, _ => by
  simp only [slsVs, Vs] at h
  subst h
  cases e
  exact ⟨by simp [Vs], rfl⟩
 | v :: r, zs, t, t', l, h, e, ho => by
  simp only [List.all_cons, Bool.and_eq_true] at ho
  obtain ⟨z1, z2, rfl, h1, h2⟩ := Vs_split h
  unfold vvsQ at e
  split at e
  case h_2 => cases e
  rename_i x1 t1 he1
  rw [List.append_assoc] at he1
  obtain ⟨g1, rfl⟩ := vvQ_to h1 he1 ho.1
  split at e
  case h_2 => cases e
  rename_i he2
  cases e
  obtain ⟨g3, g4⟩ := vvsQ_to h2 he2 ho.2
  exact ⟨by simp only [Vs]; exact ⟨_, _, rfl, g1, g3⟩, g4⟩
theorem vtQ_to {σ : Sg} {v : AV} {zs t t' : List Value} {x : Value} (h : Vs σ (slsT v) zs) (e : vtQ σ.sy v (zs ++ t) = some (x, t')) (ho : oneTu σ.sy v = true) : V σ v x ∧ t' = t := by
 by_cases hv : ∃ cs, v = .tup cs
 ·obtain ⟨cs, rfl⟩ := hv
  simp only [vtQ] at e
  split at e
  case h_2 => cases e
  rename_i he
  cases e
  obtain ⟨g1, g2⟩ := vvsQ_to h he ho
  exact ⟨by simp only [V]; exact ⟨_, g1, rfl⟩, g2⟩
 ·have e1 : slsT v = slsV v := by
   cases v <;> first | rfl | exact absurd ⟨_, rfl⟩ hv
  have e2 : ∀ zs, vtQ σ.sy v zs = vvQ σ.sy v zs := by
   intro zs
   cases v <;> first | rfl | exact absurd ⟨_, rfl⟩ hv
  have e3 : oneTu σ.sy v = oneVa σ.sy v := by
   cases v <;> first | rfl | exact absurd ⟨_, rfl⟩ hv
  rw [e1] at h
  rw [e2] at e
  exact vvQ_to h e (by rw [← e3]; exact ho)
structure QL where
 tag : Nat
 vs : List AV
 cs : List AV
 nx : Nat
 nc : Nat
 r : AV
 ls : List (Nat × Nat × AV)
def lookL (l : List QL) (tag : Nat) (vs cs : List AV) (nx nc : Nat) : Option QL := match l with
 | [] => none
 | e :: r => match Nat.beq e.tag tag, eqAVs e.vs vs, eqAVs e.cs cs, Nat.beq e.nx nx, Nat.beq e.nc nc with
  | true, true, true, true, true => some e
  | _, _, _, _, _ => lookL r tag vs cs nx nc
theorem lookL_ok {tag : Nat} {vs cs : List AV} {nx nc : Nat} {v : QL} : ∀ {l : List QL}, lookL l tag vs cs nx nc = some v → v ∈ l ∧ v.tag = tag ∧ v.vs = vs ∧ v.cs = cs ∧ v.nx = nx ∧ v.nc = nc
 | [], h => by cases h
 | e :: r, h => by
  unfold lookL at h
  split at h
  ·rename_i h1 h2 h3 h4 h5
   cases h
   exact ⟨List.mem_cons_self, Nat.eq_of_beq_eq_true h1, eqAVs_ok _ _ h2, eqAVs_ok _ _ h3, Nat.eq_of_beq_eq_true h4, Nat.eq_of_beq_eq_true h5⟩
  ·exact ⟨List.mem_cons_of_mem _ (lookL_ok h).1, (lookL_ok h).2⟩
def growLs : List (Nat × Nat × AV) → St → St
 | [], s => s
 | x :: r, s => growLs r { mem := Mm.put (some (.lst x.1 x.2.1 (Nat.succ s.nc))) s.mem s.nx, nx := Nat.succ s.nx, nc := Nat.succ s.nc }
theorem growLs_eq : ∀ (ls : List (Nat × Nat × AV)) (s : St), growLs ls s = growL (ls.map fun x => (x.1, x.2.1)) s
 | [], s => rfl
 | (c, sz, ln) :: r, s => growLs_eq r _
def sumB (l : List QE) (m : List QL) (f : Nat) (vs : List AV) (s : St) : Option (R (EE × St)) := match lookL m f vs (keyC s vs) s.nx s.nc with
 | some e => some (.ok (.ret e.r, growLs e.ls s))
 | none => sumT l f vs s
def COKL (G : Gl) (P : Program) (e : QL) : Prop := ∀ σ s w xs, Ds G σ s.ms w → Vs σ e.vs xs → keyC s e.vs = e.cs → s.nx = e.nx → s.nc = e.nc → Calls P e.tag xs.toArray w fun ec w' => ∃ σ', EV σ' (.ret e.r) ec ∧ Ds G σ' (growLs e.ls s).ms w' ∧ Ex σ s.ms w σ' (growLs e.ls s).ms w'
def CsOKL (G : Gl) (P : Program) : List QL → Prop
 | [] => True
 | e :: r => COKL G P e ∧ CsOKL G P r
theorem CsOKL.mem {G : Gl} {P : Program} : ∀ {l : List QL}, CsOKL G P l → ∀ e ∈ l, COKL G P e
 | e :: r, h, x, hx => by
  rcases List.mem_cons.1 hx with rfl | hx
  ·exact h.1
  ·exact h.2.mem x hx
theorem sumB_ok {G : Gl} {P : Program} {l : List QE} {m : List QL} (h : CsOK G P l) (hm : CsOKL G P m) : ∀ f vs s e s', sumB l m f vs s = some (.ok (e, s')) → ∀ σ w xs, Ds G σ s.ms w → Vs σ vs xs → Calls P f xs.toArray w fun ec w' => ∃ σ', EV σ' e ec ∧ Ds G σ' s'.ms w' ∧ Ex σ s.ms w σ' s'.ms w' := by
 intro f vs s e s' hs σ w xs hd hv
 unfold sumB at hs
 split at hs
 ·rename_i q hq
  cases hs
  obtain ⟨h1, h2, h3, h4, h5, h6⟩ := lookL_ok hq
  have := hm.mem _ h1 σ s w xs hd (by rw [h3]; exact hv) (by rw [h3, h4]) h5.symm h6.symm
  rw [h2] at this
  exact this
 ·exact h.sum f vs s e s' hs σ w xs hd hv
theorem EnvOK.syM {E : Env} (ok : EnvOK E) {G : Gl} {l cal : List QE} {cm : List QL} {lps : List LE} (hq : QsOK G E.P l) (hc : CsOK G E.P cal) (hm : CsOKL G E.P cm) (hl : LpsOK (E.sy G l (sumB cal cm) (lpA lps)) lps) : EnvOK (E.sy G l (sumB cal cm) (lpA lps)) :=
 EnvOK.sy ok hq (sumB_ok hc hm) fun f fn c h1 h2 => LpsOK.fn hl f fn c h1 h2
theorem q_callT {G : Gl} {P : Program} {f : Nat} {vs cs : List AV} {r : AV} {z : Value} {Q : World → List Value → Prop} (hs : SpecL G vs cs Q) (hr : vtQ G.sy r [] = some (z, [])) (hl : slsT r = []) (ho : oneTu G.sy r = true)
  (h : ∀ w xs, OldAt G w → Q w xs → Calls P f xs.toArray w fun ec w' => ec = .returned z ∧ Chg (fun _ => False) w w') : COK G P ⟨f, [.tup vs, .tup cs], r⟩ := by
 refine ⟨vs, cs, rfl, fun σ s w xs d hv hk => ?_⟩
 refine (h w xs (fun k hk => ⟨(d.old k hk).1, (d.old k hk).2.1⟩) (hs.get d hv hk)).mono fun ec w' ⟨h1, h2⟩ => ⟨⟨z, h1, ?_⟩, h2⟩
 exact (vtQ_to (zs := []) (t := []) (by rw [hl]; simp [Vs]) (by rw [d.sy]; exact hr) (by rw [d.sy]; exact ho)).1
theorem slsL_length : ∀ (ls : List (Nat × Nat × AV)) (a b : Nat), (slsL ls a b).length = ls.length
 | [], _, _ => rfl
 | (c, sz, ln) :: r, a, b => by simp [slsL, slsL_length r]
theorem q_callN {G : Gl} {P : Program} {f : Nat} {vs cs : List AV} {nx nc : Nat} {r : AV} {ls : List (Nat × Nat × AV)} {rs : List LRes} {F : List Value → Value} {Q : World → List Value → Prop} (hs : SpecL G vs cs Q) (hb : Nat.ble (nx + ls.length) topName = true) (hl : slsT r = slsL ls nx nc) (hr : ResOK G.sy ls rs) (ho : oneTu G.sy r = true) (hF : ∀ zs, zs.length = ls.length → vtQ G.sy r zs = some (F zs, []))
  (h : ∀ w xs, OldAt G w → Q w xs → Calls P f xs.toArray w fun ec w' => ∃ zs, ec = .returned (F zs) ∧ FrAll w.heap.size w' rs zs [] ∧ Chg (fun _ => False) w w') : COKL G P ⟨f, vs, cs, nx, nc, r, ls⟩ := by
 intro σ s w xs d hv hk h1 h2
 have hO : OldAt G w := fun k hk => ⟨(d.old k hk).1, (d.old k hk).2.1⟩
 refine (h w xs hO (hs.get d hv hk)).mono fun ec w' ⟨zs, g1, g2, g3⟩ => ?_
 obtain ⟨d2, x2⟩ := d.quiet g3
 have h1 : s.nx = nx := h1
 have h2 : s.nc = nc := h2
 obtain ⟨σ', e1, e2, e3, e4, e5, e6, e7, e8, e9⟩ := grow_all (ls := ls) (W := w.heap.size) d2 (fun k hk => .inl (by
  obtain ⟨m, ab, p, a1, a2, a3⟩ := hk
  obtain ⟨ob, b1, _⟩ := d.blkP a1 a2
  rw [← a3]; exact lt_of_get b1)) (fun k hk => (hO k hk).1) g2 hr (by rw [h1]; exact Nat.le_of_ble_eq_true hb)
 rw [← growLs_eq] at e1 e7 e8 e9
 refine ⟨σ', ⟨F zs, ?_, g1⟩, e1, ⟨e3, e4, e5, e7, e8, fun k hk => (e9 k hk).imp id id, ?_⟩⟩
 ·have hlen : zs.length = ls.length := by
   have := Vs_length e2
   rw [this]
   exact slsL_length ls _ _
  have hsy : σ'.sy = G.sy := e5.trans d.sy
  exact (vtQ_to (t := []) (by rw [hl, ← h1, ← h2]; exact e2) (by rw [List.append_nil, hsy]; exact hF zs hlen) (by rw [hsy]; exact ho)).1
 ·exact g3.mono fun _ _ hk => hk.elim
end
end Go.Proofs.YtocabeobfbhajaaGreatDoor.Sx
end
section
namespace Go.Proofs.YtocabeobfbhajaaGreatDoor.Sx
noncomputable section
open Go Go.RowKit
def isAB (x : Option AB) (ab : AB) : Bool := match x with
 | some (.lst c sz y) => match ab with
  | .lst c' sz' y' => match Nat.beq c c', Nat.beq sz sz', Nat.beq y y' with
   | true, true, true => true
   | _, _, _ => false
  | _ => false
 | some (.cells cs y z) => match ab with
  | .cells cs' y' z' => match eqAVs cs cs', Nat.beq y y', Nat.beq z z' with
   | true, true, true => true
   | _, _, _ => false
  | _ => false
 | _ => false
theorem isAB_ok {x : Option AB} {ab : AB} (h : isAB x ab = true) : x = some ab := by
 unfold isAB at h
 split at h
 ·split at h
  ·split at h
   ·rename_i h1 h2 h3
    rw [Nat.eq_of_beq_eq_true h1, Nat.eq_of_beq_eq_true h2, Nat.eq_of_beq_eq_true h3]
   ·cases h
  ·cases h
 ·split at h
  ·split at h
   ·rename_i h1 h2 h3
    rw [eqAVs_ok _ _ h1, Nat.eq_of_beq_eq_true h2, Nat.eq_of_beq_eq_true h3]
   ·cases h
  ·cases h
 ·cases h
def isABs (s : St) : List (Nat × AB) → Bool
 | [] => true
 | x :: r => match isAB (s.mem.get x.1) x.2 with
  | true => isABs s r
  | false => false
def isRL (v : AV) (bs : List (Nat × AB)) (x : R (EE × St)) : Bool := match x with
 | .ok (.ret u, s) => match eqAV u v with
  | true => isABs s bs
  | false => false
 | _ => false
theorem isRL_ok {v : AV} {bs : List (Nat × AB)} {x : R (EE × St)} (h : isRL v bs x = true) : ∃ s, x = .ok (.ret v, s) ∧ isABs s bs = true := by
 unfold isRL at h
 cases x with
 | no c => cases h
 | ok r =>
  obtain ⟨e, s⟩ := r
  cases e with
  | pan v => cases h
  | ret u =>
   dsimp only at h
   split at h
   ·rename_i h1
    rw [eqAV_ok _ _ h1]; exact ⟨s, rfl, h⟩
   ·cases h
def LsOK (sy : Nat → Value) : List Nat → List AV → List LRes → List (Nat × AB) → Prop
 | _, [], [], [] => True
 | used, .ns :: vs, r :: rs, bs => r.n = 0 ∧ LsOK sy used vs rs bs
 | used, .sls b sz o ln x :: vs, r :: rs, (b', ab) :: bs => (b' = b ∧ b ∉ used ∧ (∃ c y, ab = .lst c sz y ∧ sy c = .agg r.L.toArray ∧ (x = 0 ∨ x = y + 1 ∧ 1 ≤ y)) ∧ nz sy o = some ((0 : Nat) : Int) ∧ nz sy ln = some (r.n : Int) ∧ r.sz = sz ∧ r.L.length = r.n * r.sz) ∧ LsOK sy (b :: used) vs rs bs
 | used, .sl b o n c x :: vs, r :: rs, (b', ab) :: bs => (b' = b ∧ b ∉ used ∧ o = 0 ∧ c = n ∧ r.n = n ∧ r.L.length = n * r.sz ∧ ∃ cs y z, ab = .cells cs y z ∧ ivs sy cs = some r.L ∧ (x = 0 ∨ x = y ∧ z = r.sz)) ∧ LsOK sy (b :: used) vs rs bs
 | _, _, _, _ => False
theorem fr_all {G : Gl} {σ : Sg} {s : St} {w : World} {W : Nat} (d : Ds G σ s.ms w) (hI : ∀ k, Im σ s.ms k → W ≤ k) : ∀ {vs : List AV} {rs : List LRes} {bs : List (Nat × AB)} {zs : List Value} {av used : List Nat}, LsOK σ.sy used vs rs bs → isABs s bs = true → Vs σ vs zs → (∀ a ∈ av, ∃ m ab p, m ∈ used ∧ s.ms.g m = some ab ∧ σ.bl m = some p ∧ p.1 = a) → FrAll W w rs zs av
 | [], rs, bs, zs, av, used, hl, hb, hv, ha => by
  simp only [Vs] at hv
  subst hv
  cases rs with
  | nil => trivial
  | cons r rs => cases bs <;> exact hl.elim
 | v :: vs, [], bs, zs, av, used, hl, hb, hv, ha => by
  cases v <;> cases bs <;> exact hl.elim
 | v :: vs, r :: rs, bs, zs, av, used, hl, hb, hv, ha => by
  simp only [Vs] at hv
  obtain ⟨z, zs, rfl, h1, h2⟩ := hv
  by_cases hn : v = .ns
  ·subst hn
   have hl : r.n = 0 ∧ LsOK σ.sy used vs rs bs := by cases bs <;> exact hl
   simp only [V] at h1
   exact .inl ⟨hl.1, ⟨none, h1⟩, fr_all d hI hl.2 hb h2 ha⟩
  ·cases bs with
   | nil => cases v <;> first | exact hl.elim | exact absurd rfl hn
   | cons x bs =>
    obtain ⟨b', ab⟩ := x
    have hb' : isAB (s.mem.get b') ab = true ∧ isABs s bs = true := by
     unfold isABs at hb
     split at hb
     ·rename_i h; exact ⟨h, hb⟩
     ·cases hb
    have hg := isAB_ok hb'.1
    cases v <;> first | exact hl.elim | skip
    case ns => exact absurd rfl hn
    case sls b sz o ln x =>
     obtain ⟨⟨rfl, hu, ⟨c, y, rfl, hc, hx⟩, ho, hln, hsz, hL⟩, hl⟩ := hl
     simp only [V] at h1
     obtain ⟨oz, n, e1, e2, h1⟩ := h1
     rw [ho] at e1
     rw [hln] at e2
     have t1 : oz = 0 := by injection e1 with e1; omega
     have t2 : n = r.n := by injection e2 with e2; omega
     subst t1; subst t2
     rcases h1 with ⟨h0, aa, rfl⟩ | ⟨p, κ, hp, rfl, hK⟩
     ·exact .inl ⟨h0, ⟨aa, rfl⟩, fr_all d hI hl hb'.2 h2 fun a h => (ha a h).imp fun m ⟨ab, p, k1, k2⟩ => ⟨ab, p, List.mem_cons_of_mem _ k1, k2⟩⟩
     ·obtain ⟨ob, hob, cl, ty, fr, rfl, hfr, l, ext, k1, k2, k3, k4, k5⟩ := d.blkP hg hp
      have hl' : l = r.L.toArray := by rw [hc] at k1; cases k1; rfl
      subst hl'
      refine .inr ⟨p.1, fun hm => ?_, hI _ ⟨_, _, p, hg, hp, rfl⟩, ⟨p.2, κ, cl, ty, fr, by simp, ?_, hob, hfr, ?_, by simpa using k5⟩, fr_all d hI hl hb'.2 h2 fun a h => ?_⟩
      ·obtain ⟨m, ab, q, j1, j2, j3, j4⟩ := ha _ hm
       exact d.inj m b' ab _ q p (by rintro rfl; exact hu j1) j2 hg j3 hp j4
      ·rcases hK with ⟨_, e⟩ | ⟨_, e⟩ | ⟨_, _, _, _, e⟩ <;> omega
      ·rw [List.size_toArray, hL] at k4
       rcases hx with rfl | ⟨rfl, hy⟩
       ·rcases hK with ⟨_, e⟩ | ⟨e, _⟩ | ⟨_, _, e, _⟩
        ·subst e; omega
        ·cases e
        ·omega
       ·rcases hK with ⟨e, _⟩ | ⟨e, e'⟩ | ⟨i, k, e, e', e''⟩
        ·omega
        ·omega
        ·rcases k3 with ⟨k3, _⟩ | ⟨i', k', k3, k6, k7⟩
         ·omega
         ·have : i = i' := by omega
          subst this
          rw [e'] at k6
          cases k6
          rw [e'', Nat.add_mul, hsz, ← k7]
          rw [hsz] at k4
          omega
      ·rcases List.mem_cons.1 h with rfl | h
       ·exact ⟨b', _, p, List.mem_cons_self, hg, hp, rfl⟩
       ·exact (ha a h).imp fun m ⟨ab, p, k1, k2⟩ => ⟨ab, p, List.mem_cons_of_mem _ k1, k2⟩
    case sl b o n c x =>
     obtain ⟨⟨rfl, hu, rfl, rfl, hn', hL, cs, y, zz, rfl, hcs, hx⟩, hl⟩ := hl
     simp only [V] at h1
     obtain ⟨p, κ, hp, rfl, hK⟩ := h1
     obtain ⟨ob, hob, cl, ty, fr, rfl, hfr, l, ext, k1, k3, k4, k5⟩ := d.blkP hg hp
     have hl' : l = r.L := ivs_of k1 hcs
     subst hl'
     refine .inr ⟨p.1, fun hm => ?_, hI _ ⟨_, _, p, hg, hp, rfl⟩, ⟨p.2, κ, cl, ty, fr, by rw [hn']; simp, ?_, hob, hfr, ?_, by simpa using k5⟩, fr_all d hI hl hb'.2 h2 fun a h => ?_⟩
     ·obtain ⟨m, ab, q, j1, j2, j3, j4⟩ := ha _ hm
      exact d.inj m b' ab _ q p (by rintro rfl; exact hu j1) j2 hg j3 hp j4
     ·rcases hK with ⟨_, e⟩ | ⟨_, _, _, _, e⟩ <;> omega
     ·rw [hL] at k4
      rcases hx with rfl | ⟨rfl, rfl⟩
      ·rcases hK with ⟨_, e⟩ | ⟨_, _, e, _⟩
       ·subst e; omega
       ·omega
      ·rcases hK with ⟨e, e'⟩ | ⟨i, k, e, e', e''⟩
       ·subst e'; omega
       ·rcases k3 with ⟨k3, _⟩ | ⟨i', k', k3, k6, k7⟩
        ·omega
        ·have : i = i' := by omega
         subst this
         rw [e'] at k6
         cases k6
         rw [e'', Nat.add_mul, ← k7]
         omega
     ·rcases List.mem_cons.1 h with rfl | h
      ·exact ⟨b', _, p, List.mem_cons_self, hg, hp, rfl⟩
      ·exact (ha a h).imp fun m ⟨ab, p, k1, k2⟩ => ⟨ab, p, List.mem_cons_of_mem _ k1, k2⟩
theorem leafLL {E : Env} {n0 : Nat} {Y : Nat → Value} {w : World} (hG : E.G = Gw n0 Y w) (ok : EnvOK E) (hrd : E.rd = none) {f lf n : Nat} {vs : List AV} {v : AV} {xs : List Value} {bs : List (Nat × AB)} {rs : List LRes}
  (hv : vvs Y vs = some xs) (ho : onesL vs xs = true) (h : isRL v bs (funA E (drwA E) lf n (.fn f) vs ⟨Mm.lf, n0, 0⟩) = true) (hl : LsOK Y [] (slsT v) rs bs) :
  Calls E.P f xs.toArray w fun e w' => ∃ zs, zs.length = (slsT v).length ∧ (∀ x, vtQ Y v zs = some (x, []) → e = .returned x) ∧ FrAll w.heap.size w' rs zs [] ∧ Chg (fun _ => False) w w' := by
 have hd := Ds.bareW n0 Y w
 rw [← hG] at hd
 obtain ⟨s', h, hb⟩ := isRL_ok h
 have hno : ∀ k, ¬ Im (⟨fun m => if m < n0 then some (m, 0) else none, fun _ => none, Y⟩ : Sg) (⟨Mm.lf, n0, 0⟩ : St).ms k := by
  rintro k ⟨m, ab, p, e1, _⟩
  rw [show (⟨Mm.lf, n0, 0⟩ : St).ms.g m = none from Mm.get_lf m] at e1
  cases e1
 refine ((funA_sound hrd ok lf n).1 f vs _ (.ret v) s' h _ w xs hd (vvs_to (by exact hv) ho)).mono fun e w' ⟨σ', g1, g2, g3⟩ => ?_
 obtain ⟨y, hy, rfl⟩ := g1
 have hsy : σ'.sy = Y := g3.sy
 obtain ⟨zs, k1, k2⟩ := vtQ_of hy
 refine ⟨zs, Vs_length k1, fun x hx => ?_, fr_all g2 (fun k hk => (g3.im k hk).elim id fun h => (hno k h).elim) (by rw [hsy]; exact hl) hb k1 (fun a h => by cases h), g3.chg.mono fun k _ hk => (hno k hk).elim⟩
 rw [(k2 [] x [] (by rw [List.append_nil, hsy]; exact hx)).1]
end
end Go.Proofs.YtocabeobfbhajaaGreatDoor.Sx
end
section
namespace Go.Proofs.YtocabeobfbhajaaGreatDoor.Sx
noncomputable section
open Go Go.RowKit
theorem QsOK.nil {G : Gl} {P : Program} : QsOK G P [] := trivial
theorem QsOK.cons {G : Gl} {P : Program} {e : QE} {l : List QE} (h : QOK G P e) (t : QsOK G P l) : QsOK G P (e :: l) := ⟨h, t⟩
theorem QsOK.app {G : Gl} {P : Program} : ∀ {l m : List QE}, QsOK G P l → QsOK G P m → QsOK G P (l ++ m)
 | [], _, _, h => h
 | _ :: _, _, h, g => ⟨h.1, h.2.app g⟩
theorem CsOK.nil {G : Gl} {P : Program} : CsOK G P [] := trivial
theorem CsOK.cons {G : Gl} {P : Program} {e : QE} {l : List QE} (h : COK G P e) (t : CsOK G P l) : CsOK G P (e :: l) := ⟨h, t⟩
theorem CsOK.app {G : Gl} {P : Program} : ∀ {l m : List QE}, CsOK G P l → CsOK G P m → CsOK G P (l ++ m)
 | [], _, _, h => h
 | _ :: _, _, h, g => ⟨h.1, h.2.app g⟩
theorem CsOKL.nil {G : Gl} {P : Program} : CsOKL G P [] := trivial
theorem CsOKL.cons {G : Gl} {P : Program} {e : QL} {l : List QL} (h : COKL G P e) (t : CsOKL G P l) : CsOKL G P (e :: l) := ⟨h, t⟩
theorem CsOKL.app {G : Gl} {P : Program} : ∀ {l m : List QL}, CsOKL G P l → CsOKL G P m → CsOKL G P (l ++ m)
 | [], _, _, h => h
 | _ :: _, _, h, g => ⟨h.1, h.2.app g⟩
def Ev (E : Env) (n : Nat) (L : List Value) (w : World) (t c : List QE) (m : List QL) (p : List LE) : Env := E.sy (Gw n (syL L) w) t (sumB c m) (lpA p)
def LpsA (E : Env) (n : Nat) (L : List Value) (w : World) (l : List LE) : Prop := ∀ (t c : List QE) (m : List QL) (p : List LE), LpsOK (Ev E n L w t c m p) l
theorem Ev.ok {E : Env} (ok : EnvOK E) {n : Nat} {L : List Value} {w : World} {t c : List QE} {m : List QL} {p : List LE} (hq : QsOK (Gw n (syL L) w) E.P t) (hc : CsOK (Gw n (syL L) w) E.P c) (hm : CsOKL (Gw n (syL L) w) E.P m) (hl : LpsA E n L w p) : EnvOK (Ev E n L w t c m p) := EnvOK.syM ok hq hc hm (hl t c m p)
theorem LpsA.nil {E : Env} {n : Nat} {L : List Value} {w : World} : LpsA E n L w [] := fun _ _ _ _ => trivial
theorem LpsOK.app {E : Env} : ∀ {l m : List LE}, LpsOK E l → LpsOK E m → LpsOK E (l ++ m)
 | [], _, _, h => h
 | _ :: _, _, h, g => ⟨h.1, h.2.app g⟩
theorem LpsA.app {E : Env} {n : Nat} {L : List Value} {w : World} {l m : List LE} (h : LpsA E n L w l) (g : LpsA E n L w m) : LpsA E n L w (l ++ m) := fun t c k p => (h t c k p).app (g t c k p)
def RndS (P : Program) (n f k : Nat) (w : World) (H X : Head) (Lh L : List Value) (x : XE) : Prop := ∀ (σ0 : Sg) (w0 : World) (I0 : Nat → Prop) (a : Act) (w1 : World), Hd (Gw n (syL []) w) H (ntF P f) σ0 w0 I0 (syL Lh) a w1 →
 (loopF P f k).wpIn (Wd none) 0 P (fun e a' w' => e = exitOf x ∧ Hd (Gw n (syL []) w) X (ntF P f) σ0 w0 I0 (syL L) a' w') a w1
def RdsS (P : Program) (n f k : Nat) (w : World) (H X : Head) (Lh L : List Value) (x : XE) (fu : Nat) : Prop := ∀ (σ0 : Sg) (w0 : World) (I0 : Nat → Prop) (a : Act) (w1 : World), Hd (Gw n (syL []) w) H (ntF P f) σ0 w0 I0 (syL Lh) a w1 →
 Code.roundsIn (Wd none) 0 P (loopF P f k) (fun e a' w' => e = exitOf x ∧ Hd (Gw n (syL []) w) X (ntF P f) σ0 w0 I0 (syL L) a' w') fu a w1
theorem rndS {E : Env} {n0 f k : Nat} {w : World} {H X : Head} {Lh L L' : List Value} {x : XE} {t c : List QE} {m : List QL} {p : List LE} (lf n Kh : Nat) (r : Rn) (nils : List Nat) (ok : EnvOK E) (hq : QsOK (Gw n0 (syL L) w) E.P t) (hc : CsOK (Gw n0 (syL L) w) E.P c) (hm : CsOKL (Gw n0 (syL L) w) E.P m) (hp : LpsA E n0 L w p)
  (hG : syL L 0 = .agg #[] ∧ E.rd = none) (hnt : (Nat.ble (ntF E.P f) 512 && lowH H Kh && Nat.ble n0 H.n0 && Nat.beq X.n0 H.n0 && Nat.beq X.c0 H.c0) = true)
  (ck : chkR X r nils x (execL (lpA p f) (loopF E.P f k) (Ev E n0 L w t c m p) (funA (Ev E n0 L w t c m p) (drwA (Ev E n0 L w t c m p)) lf n) (drwA (Ev E n0 L w t c m p)) (ntF E.P f) lf H.T [] H.st) = true)
  (agh : Lh.take Kh = L.take Kh) (ag : L.take r.K = L'.take r.K) (hv : OutsOK (syL L) (syL L') r.K r.outs) : RndS E.P n0 f k w H X Lh L' x := by
 simp only [Bool.and_eq_true] at hnt
 obtain ⟨⟨⟨⟨h1, h2⟩, h3⟩, h4⟩, h5⟩ := hnt
 exact fun σ0 w0 I0 a w1 hH => round_step (E := Ev E n0 L w t c m p) (G := Gw n0 (syL []) w) rfl hG.1 hG.2 (Ev.ok ok hq hc hm hp) h1 (hp t c m p) ck h2 (agreeL agh) (Nat.eq_of_beq_eq_true h4) (Nat.eq_of_beq_eq_true h5) h3 (agreeL ag) hv hH
theorem rndGo {P : Program} {n f k : Nat} {w : World} {H X : Head} {Lh La Lo : List Value} {x : XE} {fu : Nat} (h : RndS P n f k w H H Lh La .normal) (g : RdsS P n f k w H X La Lo x fu) : RdsS P n f k w H X Lh Lo x (fu + 1) :=
 fun σ0 w0 I0 a w1 hH => rounds_go (h σ0 w0 I0 a w1 hH) (g σ0 w0 I0)
theorem rndEnd {P : Program} {n f k : Nat} {w : World} {H X : Head} {Lh Lo : List Value} {x : XE} {fu : Nat} (hx : exitOf x ≠ .normal) (h : RndS P n f k w H X Lh Lo x) : RdsS P n f k w H X Lh Lo x (fu + 1) :=
 fun σ0 w0 I0 a w1 hH => rounds_end hx (h σ0 w0 I0 a w1 hH) fun a' w' hI => ⟨rfl, hI⟩
theorem loopS {E : Env} {n0 f k : Nat} {w : World} {H X : Head} {L0 Lo L : List Value} {x : XE} {r : Rn} {nils : List Nat} (hG : syL L 0 = .agg #[]) (hx : match x with | .pan _ => false | _ => true)
  (hnt : (Nat.ble n0 H.n0 && Nat.beq X.n0 H.n0 && Nat.beq X.c0 H.c0 && lowH X X.K' && nodupN ((loopsOf (bodyF E.P f)).map fstR)) = true) (ag : L.take r.K = L0.take r.K) (hv : OutsOK (syL L) (syL L0) r.K r.outs) (ago : Lo.take X.K' = L.take X.K') {fu : Nat} (g : RdsS E.P n0 f k w H X L0 Lo x fu) :
  LpsA E n0 L w [⟨f, k, lpG H r nils X x⟩] := by
 simp only [Bool.and_eq_true] at hnt
 obtain ⟨⟨⟨⟨h1, h2⟩, h3⟩, h4⟩, h5⟩ := hnt
 exact fun t c m p => ⟨loop_step (E := Ev E n0 L w t c m p) (G := Gw n0 (syL []) w) rfl hG hx h1 (Nat.eq_of_beq_eq_true h2) (Nat.eq_of_beq_eq_true h3) h4 (agreeL ag) hv (agreeL ago) (n := fu) g h5, trivial⟩
theorem leafS {E : Env} {n0 : Nat} {L : List Value} {w : World} {t c : List QE} {m : List QL} {p : List LE} {f : Nat} {vs : List AV} {v : AV} {xs : List Value} {x : Value} (lf n : Nat) (ok : EnvOK E) (hq : QsOK (Gw n0 (syL L) w) E.P t) (hc : CsOK (Gw n0 (syL L) w) E.P c) (hm : CsOKL (Gw n0 (syL L) w) E.P m) (hp : LpsA E n0 L w p) (hrd : E.rd = none)
  (hv : vvs (syL L) vs = some xs) (ho : onesL vs xs = true) (h : isR v (funA (Ev E n0 L w t c m p) (drwA (Ev E n0 L w t c m p)) lf n (.fn f) vs ⟨Mm.lf, n0, 0⟩) = true) (hx : vt (syL L) v = some x) : Calls E.P f xs.toArray w fun e w' => e = .returned x ∧ Chg (fun _ => False) w w' :=
 leafL (E := Ev E n0 L w t c m p) rfl (Ev.ok ok hq hc hm hp) hrd hv ho h hx
end
end Go.Proofs.YtocabeobfbhajaaGreatDoor.Sx
end
section
namespace Go.Proofs.YtocabeobfbhajaaGreatDoor.Sx
noncomputable section
open Go Go.RowKit
section
variable {E : Env} {n : Nat} {w : World} {L : List Value → List Value} {t c : List QE} {m : List QL} {p : List LE} {S : Prop}
def Wy (E : Env) (n : Nat) (w : World) (L : List Value → List Value) (t c : List QE) (m : List QL) (p : List LE) (S : Prop) : Prop :=
 (∀ R, QsOK (Gw n (syL (L R)) w) E.P t) → (∀ R, CsOK (Gw n (syL (L R)) w) E.P c) → (∀ R, CsOKL (Gw n (syL (L R)) w) E.P m) → (∀ R, LpsA E n (L R) w p) → S
theorem wGo (h : Wy E n w L [] [] [] [] S) : S := h (fun _ => trivial) (fun _ => trivial) (fun _ => trivial) (fun _ => LpsA.nil)
theorem wB (hq : ∀ R, QsOK (Gw n (syL (L R)) w) E.P t) (hc : ∀ R, CsOK (Gw n (syL (L R)) w) E.P c) (hm : ∀ R, CsOKL (Gw n (syL (L R)) w) E.P m) (hp : ∀ R, LpsA E n (L R) w p) (h : Wy E n w L t c m p S) : S := h hq hc hm hp
theorem wS (l : List Value) (h : Wy E n w (fun R => L (l ++ R)) t c m p S) : Wy E n w L t c m p S := fun hq hc hm hp => h (fun R => hq _) (fun R => hc _) (fun R => hm _) (fun R => hp _)
theorem wE (e : QE) (h : ∀ R, QOK (Gw n (syL (L R)) w) E.P e) (k : Wy E n w L (e :: t) c m p S) : Wy E n w L t c m p S := fun hq hc hm hp => k (fun R => ⟨h R, hq R⟩) hc hm hp
theorem wC (e : QE) (h : ∀ R, COK (Gw n (syL (L R)) w) E.P e) (k : Wy E n w L t (e :: c) m p S) : Wy E n w L t c m p S := fun hq hc hm hp => k hq (fun R => ⟨h R, hc R⟩) hm hp
theorem wM (e : QL) (h : ∀ R, COKL (Gw n (syL (L R)) w) E.P e) (k : Wy E n w L t c (e :: m) p S) : Wy E n w L t c m p S := fun hq hc hm hp => k hq hc (fun R => ⟨h R, hm R⟩) hp
theorem wK {K : Prop} (h : Wy E n w L t c m p K) (g : K → Wy E n w L t c m p S) : Wy E n w L t c m p S := fun hq hc hm hp => g (h hq hc hm hp) hq hc hm hp
theorem wLp {f k fu : Nat} {H X : Head} {L0 Lo : List Value} {x : XE} (hx : match x with | .pan _ => false | _ => true) (g : RdsS E.P n f k w H X L0 Lo x fu) (r : Rn) (nils : List Nat) (hG : ∀ R, syL (L R) 0 = .agg #[])
  (hnt : (Nat.ble n H.n0 && Nat.beq X.n0 H.n0 && Nat.beq X.c0 H.c0 && lowH X X.K' && nodupN ((loopsOf (bodyF E.P f)).map fstR)) = true) (ag : ∀ R, (L R).take r.K = L0.take r.K) (hv : ∀ R, OutsOK (syL (L R)) (syL L0) r.K r.outs) (ago : ∀ R, Lo.take X.K' = (L R).take X.K')
  (q : Wy E n w L t c m (⟨f, k, lpG H r nils X x⟩ :: p) S) : Wy E n w L t c m p S :=
 fun hq hc hm hp => q hq hc hm (fun R => (loopS (hG R) hx hnt (ag R) (hv R) (ago R) g).app (hp R))
theorem wRet {f : Nat} {v : AV} {xs : List Value} {x : Value} (ok : EnvOK E) (lf k : Nat) (vs : List AV) (hrd : E.rd = none) (hv : vvs (syL (L [])) vs = some xs) (ho : onesL vs xs = true)
  (h : isR v (funA (Ev E n (L []) w t c m p) (drwA (Ev E n (L []) w t c m p)) lf k (.fn f) vs ⟨Mm.lf, n, 0⟩) = true) (hx : vt (syL (L [])) v = some x) : Wy E n w L t c m p (Calls E.P f xs.toArray w fun e w' => e = .returned x ∧ Chg (fun _ => False) w w') :=
 fun hq hc hm hp => leafS (E := E) (L := L []) lf k ok (hq []) (hc []) (hm []) (hp []) hrd hv ho h hx
theorem wRetL {f : Nat} {v : AV} {xs : List Value} {F : List Value → Value} {rs : List LRes} (ok : EnvOK E) (lf k : Nat) (vs : List AV) (bs : List (Nat × AB)) (hrd : E.rd = none) (hv : vvs (syL (L [])) vs = some xs) (ho : onesL vs xs = true)
  (h : isRL v bs (funA (Ev E n (L []) w t c m p) (drwA (Ev E n (L []) w t c m p)) lf k (.fn f) vs ⟨Mm.lf, n, 0⟩) = true) (hl : LsOK (syL (L [])) [] (slsT v) rs bs) (hF : ∀ zs, zs.length = (slsT v).length → vtQ (syL (L [])) v zs = some (F zs, [])) :
  Wy E n w L t c m p (Calls E.P f xs.toArray w fun e w' => ∃ zs : List Value, e = .returned (F zs) ∧ FrAll w.heap.size w' rs zs [] ∧ Chg (fun _ => False) w w') :=
 fun hq hc hm hp => (leafLL (E := Ev E n (L []) w t c m p) rfl (Ev.ok ok (hq []) (hc []) (hm []) (hp [])) hrd (lf := lf) (n := k) (vs := vs) (v := v) (bs := bs) hv ho h hl).mono fun e w' ⟨zs, h1, h2, h3, h4⟩ => ⟨zs, h2 _ (hF zs h1), h3, h4⟩
theorem wRnd {f k : Nat} {H X : Head} {Lh L' : List Value} {x : XE} (g : RndS E.P n f k w H X Lh L' x → S) (ok : EnvOK E) (lf j Kh : Nat) (r : Rn) (nils : List Nat) (hG : syL (L []) 0 = .agg #[] ∧ E.rd = none)
  (hnt : (Nat.ble (ntF E.P f) 512 && lowH H Kh && Nat.ble n H.n0 && Nat.beq X.n0 H.n0 && Nat.beq X.c0 H.c0) = true)
  (ck : chkR X r nils x (execL (lpA p f) (loopF E.P f k) (Ev E n (L []) w t c m p) (funA (Ev E n (L []) w t c m p) (drwA (Ev E n (L []) w t c m p)) lf j) (drwA (Ev E n (L []) w t c m p)) (ntF E.P f) lf H.T [] H.st) = true)
  (agh : Lh.take Kh = (L []).take Kh) (ag : (L []).take r.K = L'.take r.K) (hv : OutsOK (syL (L [])) (syL L') r.K r.outs) : Wy E n w L t c m p S :=
 fun hq hc hm hp => g (rndS (E := E) (L := L []) lf j Kh r nils ok (hq []) (hc []) (hm []) (hp []) hG hnt ck agh ag hv)
end
def RdsD (P : Program) (n f k : Nat) (w : World) (H : Head) (Lh : List Value) (fu : Nat) : List (Prop × Head × List Value × XE) → Prop
 | [] => False
 | [a] => a.1 ∧ RdsS P n f k w H a.2.1 Lh a.2.2.1 a.2.2.2 fu
 | a :: b :: r => (a.1 ∧ RdsS P n f k w H a.2.1 Lh a.2.2.1 a.2.2.2 fu) ∨ RdsD P n f k w H Lh fu (b :: r)
theorem rndGoD {P : Program} {n f k : Nat} {w : World} {H : Head} {Lh La : List Value} {fu : Nat} (h : RndS P n f k w H H Lh La .normal) : ∀ {l : List (Prop × Head × List Value × XE)}, RdsD P n f k w H La fu l → RdsD P n f k w H Lh (fu + 1) l
 | [], g => g
 | [_], g => ⟨g.1, rndGo h g.2⟩
 | _ :: _ :: _, g => g.imp (fun g => ⟨g.1, rndGo h g.2⟩) (fun g => rndGoD h g)
theorem xeR : exitOf .ret ≠ .normal := by intro h; cases h
theorem xeE {k : Nat} : exitOf (.exit k) ≠ .normal := by intro h; cases h
theorem q_not {G : Gl} {P : Program} {a : AV} {x c : Bool} (h2 : iv G.sy a = some (.bool x)) (hx : x = !c) : QOK G P ⟨102, [a], .bool c⟩ := by
 refine opOK (ble100 (by omega)) (Nat.ble_eq_true_of_le (by omega)) ?_
 rintro ⟨dst, op, ty, pos, after, guard⟩ xs σ ac hs hk hv w
 simp only at hk hv
 obtain ⟨t, z, rfl, rfl⟩ : ∃ t z, op = .unOp .not t z ∧ xs = [z] := by
  generalize htag : 102 = tag at hk
  cases hk
  case un o t x =>
   cases o
   case not => exact ⟨t, x, rfl, rfl⟩
   all_goals (exact absurd htag (by decide))
  all_goals omega
 simp only [Vs, List.map_cons, List.map_nil] at hv
 obtain ⟨u, l, hu, hv1, rfl⟩ := hv
 cases hu
 have := iv_of hv1 (by rw [hs]; exact h2)
 refine ⟨.bool c, run_v ?_, iv_to (x := .bool c) rfl rfl⟩
 rw [this, hx]
 cases c <;> rfl
end
end Go.Proofs.YtocabeobfbhajaaGreatDoor.Sx
end
section
namespace Go.Proofs.YtocabeobfbhajaaGreatDoor.Sx
noncomputable section
open Go Go.RowKit
def BkF {α : Type} (C : Codec α) (w : World) (B O k : Nat) (a : Int → Option Addr) (bb oo κ : Int → Nat) (L : Int → List α) : Prop :=
 B < w.heap.size ∧ ∀ i : Int, 0 ≤ i ∧ i < k → cellsH w.heap B (O + i.toNat) [.slice (a i) (L i).length (κ i)] ∧ (L i).length ≤ κ i ∧ LstAt C w (a i) (bb i) (oo i) (L i)
theorem BkL.fn {α : Type} {C : Codec α} {w : World} {B O : Nat} {Zs : List (List α)} (h : BkL C w B O Zs) : ∃ a bb oo κ, BkF C w B O Zs.length a bb oo κ (fun i => Zs.getD i.toNat []) := by
 have : ∀ i : Int, ∃ q : Option Addr × Nat × Nat × Nat, 0 ≤ i ∧ i < Zs.length → cellsH w.heap B (O + i.toNat) [.slice q.1 (Zs.getD i.toNat []).length q.2.2.2] ∧ (Zs.getD i.toNat []).length ≤ q.2.2.2 ∧ LstAt C w q.1 q.2.1 q.2.2.1 (Zs.getD i.toNat []) := by
  intro i
  by_cases hi : 0 ≤ i ∧ i < Zs.length
  ·have hlt : i.toNat < Zs.length := by omega
   obtain ⟨a, bb, oo, κ, h1, h2, h3⟩ := h.2 i.toNat _ (List.getElem?_eq_getElem hlt)
   have e : Zs.getD i.toNat [] = Zs[i.toNat] := by rw [List.getD_eq_getElem?_getD, List.getElem?_eq_getElem hlt]; rfl
   exact ⟨(a, bb, oo, κ), fun _ => by rw [e]; exact ⟨h1, h2, h3⟩⟩
  ·exact ⟨(none, 0, 0, 0), fun g => (hi g).elim⟩
 obtain ⟨f, hf⟩ := Classical.skolem.1 this
 exact ⟨fun i => (f i).1, fun i => (f i).2.1, fun i => (f i).2.2.1, fun i => (f i).2.2.2, h.1, hf⟩
theorem BkF.old {α : Type} {C : Codec α} {n : Nat} {Y : Nat → Value} {w w' : World} {B O k : Nat} {a : Int → Option Addr} {bb oo κ : Int → Nat} {L : Int → List α} (h : BkF C w B O k a bb oo κ L) (hw : OldAt (Gw n Y w) w') : BkF C w' B O k a bb oo κ L := by
 obtain ⟨g1, g2⟩ := hw B h.1
 refine ⟨g1, fun i hi => ?_⟩
 obtain ⟨h1, h2, h3⟩ := h.2 i hi
 obtain ⟨c, t, fr, e1, e2⟩ := h1
 exact ⟨⟨c, t, fr, g2.trans e1, e2⟩, h2, h3.old hw⟩
section
variable {G : Gl} {P : Program}
end
section
variable {G : Gl} {P : Program} {α : Type} {C : Codec α}
end
section
variable {E : Env} {n : Nat} {w : World} {L : List Value → List Value} {t c : List QE} {m : List QL} {p : List LE}
end
end
end Go.Proofs.YtocabeobfbhajaaGreatDoor.Sx
end
section
namespace Go.Proofs.YtocabeobfbhajaaGreatDoor.Sx
noncomputable section
open Go Go.RowKit
variable {G : Gl} {P : Program}
def subB (s : ByteArray) (l h : Int) : ByteArray := s.extract l.toNat h.toNat
theorem subB_size {s : ByteArray} {l h : Int} (h0 : 0 ≤ l ∧ l ≤ h ∧ h ≤ ((s.size : Nat) : Int)) : (((subB s l h).size : Nat) : Int) = h - l := by
 unfold subB
 rw [ByteArray.size_extract]
 omega
theorem q_strSl1 {a l r : AV} {t : Nat} {k : IntKind} {m : Int} {s : ByteArray} (hb : Nat.ble t 9999 = true) (hs0 : iv G.sy a = some (.string s)) (h2 : iv G.sy l = some (.int k m)) (hm : 0 ≤ m ∧ m ≤ ((s.size : Nat) : Int)) (hr : iv G.sy r = some (.string (subB s m ((s.size : Nat) : Int)))) (ht : stT P t = true) : QOK G P ⟨4100000000 + t, [a, l], r⟩ := by
 unfold stT at ht
 split at ht
 case h_2 => cases ht
 rename_i ht'
 have e1 := Nat.le_of_ble_eq_true hb
 refine opOK (ble100 (by omega)) (Nat.ble_eq_true_of_le (by omega)) ?_
 rintro ⟨dst, op, ty, pos, after, guard⟩ xs σ ac hs hk hv w
 simp only at hk hv
 obtain ⟨z, y, rfl, rfl⟩ : ∃ z y, op = .slice t z (some y) none none ∧ xs = [z, y] := by
  generalize htag : 4100000000 + t = tag at hk
  cases hk
  case un o t x => have := UnOp.ctor_le o; omega
  case slice1 t' x y g1 =>
   have : t' = t := by omega
   subst this
   exact ⟨_, _, rfl, rfl⟩
  all_goals omega
 simp only [Vs, List.map_cons, List.map_nil] at hv
 obtain ⟨u, l, hu, hv1, u', l', hu', hv2, rfl⟩ := hv
 cases hu
 cases hu'
 have g1 := iv_of hv1 (by rw [hs]; exact hs0)
 have g2 := iv_of hv2 (by rw [hs]; exact h2)
 refine ⟨.string (subB s m ((s.size : Nat) : Int)), run_v ?_, iv_to (by rw [hs]; exact hr) rfl⟩
 change (Instr.sliceAt t (ac.eval z) (some (ac.eval y)) none none).run P w = _
 rw [g1, g2]
 have c2 : (0 : Int) ≤ m ∧ m ≤ ((s.size : Nat) : Int) := hm
 simp only [Instr.sliceAt, Instr.slice, Instr.sliceBounds, Instr.sliceBound, asIntOf, Sem.run_bind, Sem.run_pure, Result.andThen_ok, run_underlying ht', Option.isSome_none, Bool.false_eq_true, if_false, c2, and_self, if_true]
 rfl
theorem q_strSl3 {a l h r : AV} {t : Nat} {k k' : IntKind} {m n : Int} {s : ByteArray} (hb : Nat.ble t 9999 = true) (hs0 : iv G.sy a = some (.string s)) (h2 : iv G.sy l = some (.int k m)) (h3 : iv G.sy h = some (.int k' n)) (hm : 0 ≤ m ∧ m ≤ n ∧ n ≤ ((s.size : Nat) : Int)) (hr : iv G.sy r = some (.string (subB s m n))) (ht : stT P t = true) : QOK G P ⟨4300000000 + t, [a, l, h], r⟩ := by
 unfold stT at ht
 split at ht
 case h_2 => cases ht
 rename_i ht'
 have e1 := Nat.le_of_ble_eq_true hb
 refine opOK (ble100 (by omega)) (Nat.ble_eq_true_of_le (by omega)) ?_
 rintro ⟨dst, op, ty, pos, after, guard⟩ xs σ ac hs hk hv w
 simp only at hk hv
 obtain ⟨z, y, x, rfl, rfl⟩ : ∃ z y x, op = .slice t z (some y) (some x) none ∧ xs = [z, y, x] := by
  generalize htag : 4300000000 + t = tag at hk
  cases hk
  case un o t x => have := UnOp.ctor_le o; omega
  case slice3 t' x y h' g1 =>
   have : t' = t := by omega
   subst this
   exact ⟨_, _, _, rfl, rfl⟩
  all_goals omega
 simp only [Vs, List.map_cons, List.map_nil] at hv
 obtain ⟨u, l, hu, hv1, u', l', hu', hv2, u'', l'', hu'', hv3, rfl⟩ := hv
 cases hu
 cases hu'
 cases hu''
 have g1 := iv_of hv1 (by rw [hs]; exact hs0)
 have g2 := iv_of hv2 (by rw [hs]; exact h2)
 have g3 := iv_of hv3 (by rw [hs]; exact h3)
 refine ⟨.string (subB s m n), run_v ?_, iv_to (by rw [hs]; exact hr) rfl⟩
 change (Instr.sliceAt t (ac.eval z) (some (ac.eval y)) (some (ac.eval x)) none).run P w = _
 rw [g1, g2, g3]
 have c1 : (0 : Int) ≤ n ∧ n ≤ ((s.size : Nat) : Int) := ⟨by omega, hm.2.2⟩
 have c2 : (0 : Int) ≤ m ∧ m ≤ ((n.toNat : Nat) : Int) := ⟨hm.1, by omega⟩
 simp only [Instr.sliceAt, Instr.slice, Instr.sliceBounds, Instr.sliceBound, asIntOf, Sem.run_bind, Sem.run_pure, Result.andThen_ok, run_underlying ht', Option.isSome_none, Bool.false_eq_true, if_false, c1, c2, and_self, if_true]
 rfl
end
end Go.Proofs.YtocabeobfbhajaaGreatDoor.Sx
end
section
namespace Go.Proofs.YtocabeobfbhajaaGreatDoor.Sx
noncomputable section
open Go Go.RowKit
def cntA (N c n : Nat) : Nat := Nat.rec (motive := fun _ => Nat) 0 (fun i ih => Bool.rec (motive := fun _ => Nat) ih (Nat.succ ih) (Nat.beq (bget N i) c)) n
def ixbA (N c n : Nat) : Nat → Int := Nat.rec (motive := fun _ => Nat → Int) (fun _ => .negSucc 0) (fun _ ih i => Bool.rec (motive := fun _ => Int) (ih (Nat.succ i)) (.ofNat i) (Nat.beq (bget N i) c)) n
theorem unpack_map (n N : Nat) : unpack n N = (List.range n).map fun i => UInt8.ofNat (bget N i) := by
 apply List.ext_getElem?
 intro i
 rcases Nat.lt_or_ge i n with h | h
 ·rw [unpack_bget n N i h, List.getElem?_map, List.getElem?_range h]; rfl
 ·rw [List.getElem?_eq_none (by rw [unpack_length]; exact h), List.getElem?_eq_none (by simpa using h)]
theorem beq_byte {a b : Nat} (ha : a < 256) (hb : b < 256) : (UInt8.ofNat a == UInt8.ofNat b) = Nat.beq a b := by
 cases h : Nat.beq a b with
 | true => rw [Nat.eq_of_beq_eq_true h]; simp
 | false =>
  have hne := beq_false_ne h
  simp only [beq_eq_false_iff_ne, ne_eq]
  intro e
  have := congrArg UInt8.toNat e
  simp at this
  omega
theorem cntA_ok (N c : Nat) (hc : c < 256) : ∀ n, cntA N c n = Lib.countByte (unpack n N) (UInt8.ofNat c)
 | 0 => by rw [unpack_map]; rfl
 | n + 1 => by
  have ih := cntA_ok N c hc n
  rw [unpack_map] at ih ⊢
  unfold Lib.countByte at ih ⊢
  rw [List.range_succ, List.map_append, List.count_append, ← ih]
  show Bool.rec (motive := fun _ => Nat) (cntA N c n) (Nat.succ (cntA N c n)) (Nat.beq (bget N n) c) = _
  simp only [List.map_cons, List.map_nil, List.count_cons, List.count_nil, beq_byte (bget_lt N n) hc]
  cases Nat.beq (bget N n) c <;> simp
theorem ixbA_ok (N c : Nat) (hc : c < 256) : ∀ n i, ixbA N c n i = (if Lib.indexByte ((List.range' i n).map fun i => UInt8.ofNat (bget N i)) (UInt8.ofNat c) = -1 then -1 else Lib.indexByte ((List.range' i n).map fun i => UInt8.ofNat (bget N i)) (UInt8.ofNat c) + i)
 | 0, i => rfl
 | n + 1, i => by
  have ih := ixbA_ok N c hc n (i + 1)
  show Bool.rec (motive := fun _ => Int) (ixbA N c n (Nat.succ i)) (.ofNat i) (Nat.beq (bget N i) c) = _
  simp only [List.range'_succ, List.map_cons, Lib.indexByte, beq_byte (bget_lt N i) hc]
  cases Nat.beq (bget N i) c with
  | true => simp
  | false =>
   simp only [Bool.false_eq_true, if_false]
   rw [show Nat.succ i = i + 1 from rfl, ih]
   have hge := Lib.indexByte_ge ((List.range' (i + 1) n).map fun i => UInt8.ofNat (bget N i)) (UInt8.ofNat c)
   generalize Lib.indexByte ((List.range' (i + 1) n).map fun i => UInt8.ofNat (bget N i)) (UInt8.ofNat c) = q at hge ⊢
   by_cases hq : q = -1
   ·subst hq; simp
   ·simp only [hq, if_false, beq_iff_eq]
    rw [if_neg (by omega)]
    omega
def bytesX (ic ix f : Nat) (vs : List AV) : R AV := match vs with
 | [.str n N, .int .u8 (.ofNat c)] => match Nat.ble c 255 with
  | true => match Nat.beq f ic with
   | true => .ok (.int .i64 (.ofNat (cntA N c n)))
   | false => match Nat.beq f ix with
    | true => .ok (.int .i64 (ixbA N c n 0))
    | false => .no 990
  | false => .no 991
 | _ => .no 992
def ExtF (P : Program) (f : Nat) (e : Array Value → Sem Value) : Prop := ∃ fn, P.funcs[f]? = some fn ∧ (fn.name == "runtime.NumGoroutine") = false ∧ fn.body.isNone = true ∧ Extern.findNext fn = none ∧ Extern.find fn = some e
theorem bytesX_ok {P : Program} {ic ix f : Nat} {vs : List AV} {v : AV} (hc : ExtF P ic Extern.BytealgCount.count) (hx : ExtF P ix Extern.BytealgIndexByte.indexByte) (h : bytesX ic ix f vs = .ok v) {σ : Sg} {xs : List Value} (hv : Vs σ vs xs) (w : World) :
  ∃ x, (callFunc f xs.toArray).run P w = .ok (.value x) w ∧ V σ v x := by
 unfold bytesX at h
 split at h
 case h_2 => cases h
 rename_i n N c
 split at h
 case h_2 => cases h
 rename_i hb
 have hc' : c < 256 := by have := Nat.le_of_ble_eq_true hb; omega
 simp only [Vs, V] at hv
 obtain ⟨x1, l1, rfl, rfl, x2, l2, rfl, rfl, rfl⟩ := hv
 have hcc : ((Int.ofNat c).toNat).toUInt8 = UInt8.ofNat c := rfl
 split at h
 ·rename_i hf
  have := Nat.eq_of_beq_eq_true hf
  subst this
  cases h
  obtain ⟨fn, a1, a2, a3, a4, a5⟩ := hc
  rw [run_callFunc_extern a1 a2 a3 a4 a5, Lib.run_countString]
  refine ⟨_, rfl, ?_⟩
  simp only [V]
  rw [cntA_ok N c hc' n, hcc]
  rfl
 ·split at h
  case h_2 => cases h
  rename_i hf
  have := Nat.eq_of_beq_eq_true hf
  subst this
  cases h
  obtain ⟨fn, a1, a2, a3, a4, a5⟩ := hx
  rw [run_callFunc_extern a1 a2 a3 a4 a5, Lib.run_indexByteString]
  refine ⟨_, rfl, ?_⟩
  simp only [V]
  rw [ixbA_ok N c hc' n 0, hcc, unpack_map, List.range_eq_range']
  congr 1
  simp only [Int.ofNat_zero, Int.add_zero]
  split
  ·rename_i e; exact e
  ·rfl
end
end Go.Proofs.YtocabeobfbhajaaGreatDoor.Sx
end
section
namespace Go.Proofs.YtocabeobfbhajaaGreatDoor.Sx
open Go Go.Proofs
theorem plainAll : Tryz.prog.funcs.toList.all (fun fn => !(fn.name == "runtime.NumGoroutine")) = true := by decide +kernel
theorem plainT : Plain Tryz.prog := fun f fn h => by
 have h1 : fn ∈ Tryz.prog.funcs.toList := by
  rw [← Array.getElem?_toList] at h
  exact List.mem_of_getElem? h
 have := List.all_eq_true.1 plainAll fn h1
 simpa using this
theorem mixedT : Tryz.prog.follows .mixedOrders = true := by decide +kernel
theorem extC : ExtF Tryz.prog 312 Extern.BytealgCount.count := ⟨_, Tryz.func312, by decide +kernel, by decide +kernel, by kernel_rfl, by kernel_rfl⟩
theorem extI : ExtF Tryz.prog 334 Extern.BytealgIndexByte.indexByte := ⟨_, Tryz.func334, by decide +kernel, by decide +kernel, by kernel_rfl, by kernel_rfl⟩
def G0 (n : Nat) : Gl := ⟨n, fun _ => undef, #[], fun _ => False⟩
noncomputable def E0 : Env := { G := G0 8, P := Tryz.prog, ext := bytesX 312 334, sum := fun _ _ _ => none, rd := none }
theorem ok0 : EnvOK E0 := ⟨plainT, mixedT, fun _ _ _ _ _ _ h _ _ hv w => bytesX_ok extC extI h hv w, fun _ _ _ _ _ h => (nomatch h), fun _ _ _ h => (nomatch h), fun _ _ _ _ h => (nomatch h), fun _ _ _ _ h => (nomatch h), fun _ _ c _ _ => LpOK_none c⟩
end Go.Proofs.YtocabeobfbhajaaGreatDoor.Sx
end
section
namespace Go.Proofs
open Go.Shelf
def Tryz.laysM171_ren : Go.Shelf.Ren := ⟨fun | 171 => 170 | 243 => 237 | 246 => 273 | 283 => 300 | 284 => 301 | 285 => 302 | 286 => 303 | 129 => 261 | 317 => 319 | 318 => 320 | 319 => 321 | 320 => 322 | 337 => 332 | 338 => 333 | n => n, fun | 3 => 3 | 9 => 9 | 2 => 2 | 4 => 4 | 171 => 371 | 0 => 0 | 53 => 345 | 37 => 117 | 5 => 5 | 173 => 373 | 212 => 391 | 51 => 343 | 20 => 20 | 213 => 392 | 46 => 72 | 232 => 411 | 233 => 196 | n => n, fun | 17 => 0 | 18 => 6 | 19 => 7 | n => n⟩
theorem Tryz.laysM171 : Go.Proofs.LaysM.n171 Tryz.prog Tryz.laysM171_ren := {
 mixed := by kernel_rfl
 f129 := Tryz.func261.trans (congrArg some (by kernel_rfl))
 f171 := Tryz.func170.trans (congrArg some (by kernel_rfl))
 f243 := Tryz.func237.trans (congrArg some (by kernel_rfl))
 f246 := Tryz.func273.trans (congrArg some (by kernel_rfl))
 f283 := Tryz.func300.trans (congrArg some (by kernel_rfl))
 f284 := Tryz.func301.trans (congrArg some (by kernel_rfl))
 f285 := Tryz.func302.trans (congrArg some (by kernel_rfl))
 f286 := Tryz.func303.trans (congrArg some (by kernel_rfl))
 f317 := Tryz.func319.trans (congrArg some (by kernel_rfl))
 f318 := Tryz.func320.trans (congrArg some (by kernel_rfl))
 f319 := Tryz.func321.trans (congrArg some (by kernel_rfl))
 f320 := Tryz.func322.trans (congrArg some (by kernel_rfl))
 f337 := Tryz.func332.trans (congrArg some (by kernel_rfl))
 f338 := Tryz.func333.trans (congrArg some (by kernel_rfl))
 t0 := Tryz.underlying0
 a0 := Tryz.isAgg0
 z0 := Tryz.sizeOf0
 v0 := Tryz.zeroValue0
 t2 := Tryz.underlying2
 a2 := Tryz.isAgg2
 z2 := Tryz.sizeOf2
 v2 := Tryz.zeroValue2
 t3 := Tryz.underlying3
 a3 := Tryz.isAgg3
 z3 := Tryz.sizeOf3
 v3 := Tryz.zeroValue3
 t4 := Tryz.underlying4
 a4 := Tryz.isAgg4
 z4 := Tryz.sizeOf4
 v4 := Tryz.zeroValue4
 t5 := Tryz.underlying5
 a5 := Tryz.isAgg5
 z5 := Tryz.sizeOf5
 v5 := Tryz.zeroValue5
 t9 := Tryz.underlying9
 a9 := Tryz.isAgg9
 z9 := Tryz.sizeOf9
 v9 := Tryz.zeroValue9
 t20 := Tryz.underlying20
 a20 := Tryz.isAgg20
 z20 := Tryz.sizeOf20
 v20 := Tryz.zeroValue20
 t37 := Tryz.underlying117
 a37 := Tryz.isAgg117
 z37 := Tryz.sizeOf117
 v37 := Tryz.zeroValue117
 t46 := Tryz.underlying72
 a46 := Tryz.isAgg72
 z46 := Tryz.sizeOf72
 v46 := Tryz.zeroValue72
 t51 := Tryz.underlying343
 a51 := Tryz.isAgg343
 z51 := Tryz.sizeOf343
 v51 := Tryz.zeroValue343
 t53 := Tryz.underlying345
 a53 := Tryz.isAgg345
 z53 := Tryz.sizeOf345
 v53 := Tryz.zeroValue345
 t171 := Tryz.underlying371
 a171 := Tryz.isAgg371
 z171 := Tryz.sizeOf371
 v171 := Tryz.zeroValue371
 t173 := Tryz.underlying373
 a173 := Tryz.isAgg373
 z173 := Tryz.sizeOf373
 v173 := Tryz.zeroValue373
 t212 := Tryz.underlying391
 a212 := Tryz.isAgg391
 z212 := Tryz.sizeOf391
 v212 := Tryz.zeroValue391
 t213 := Tryz.underlying392
 a213 := Tryz.isAgg392
 z213 := Tryz.sizeOf392
 t232 := Tryz.underlying411
 a232 := Tryz.isAgg411
 z232 := Tryz.sizeOf411
 v232 := Tryz.zeroValue411
 t233 := Tryz.underlying196
 a233 := Tryz.isAgg196
 z233 := Tryz.sizeOf196
 v233 := Tryz.zeroValue196
 g17 := by kernel_rfl
 g18 := by kernel_rfl
 g19 := by kernel_rfl
 i0 := by kernel_rfl
 i2 := by kernel_rfl
 i3 := by kernel_rfl
 i4 := by kernel_rfl
 i5 := by kernel_rfl
 i9 := by kernel_rfl
 i20 := by kernel_rfl
 i37 := by kernel_rfl
 i46 := by kernel_rfl
 i51 := by kernel_rfl
 i53 := by kernel_rfl
 i171 := by kernel_rfl
 i173 := by kernel_rfl
 i212 := by kernel_rfl
 i232 := by kernel_rfl
 i233 := by kernel_rfl
 m17 := by kernel_rfl
 m18 := by kernel_rfl
 m19 := by kernel_rfl }
open Go.RowKit Go.Sort Go.Lib in
theorem Tryz.strconv_Itoa (n : Int) (h0 : -9223372036854775808 ≤ n) (h1 : n ≤ 9223372036854775807) (w : World) (htab : Lib.TabIs Tryz.prog w "internal/strconv.uint64pow10" .u64 Lib.pow10Tab) :
  Calls Tryz.prog 170 #[.int .i64 n] w fun e w' => e = .returned (.string ⟨(Lib.itoa n).toArray⟩) ∧ ∃ k os, w' = grow (w.drewN k) os := Any.strconv_Itoa Tryz.laysM171 n h0 h1 w htab
def Tryz.laysC172_ren : Go.Shelf.Ren := ⟨fun | 172 => 241 | 244 => 275 | 245 => 276 | 247 => 305 | 279 => 306 | 280 => 307 | 281 => 308 | 282 => 309 | 287 => 327 | 316 => 328 | 171 => 170 | 205 => 329 | 321 => 336 | 322 => 337 | 243 => 237 | 246 => 273 | 283 => 300 | 284 => 301 | 285 => 302 | 286 => 303 | 129 => 261 | 317 => 319 | 318 => 320 | 319 => 321 | 320 => 322 | 337 => 332 | 338 => 333 | n => n, fun | 9 => 9 | 3 => 3 | 75 => 325 | 76 => 326 | 4 => 4 | 5 => 5 | 167 => 375 | 37 => 117 | 0 => 0 | 85 => 376 | 2 => 2 | 168 => 378 | 53 => 345 | 175 => 393 | 46 => 72 | 210 => 397 | 127 => 403 | 145 => 406 | 143 => 404 | 21 => 21 | 171 => 371 | 173 => 373 | 212 => 391 | 51 => 343 | 20 => 20 | 213 => 392 | 232 => 411 | 233 => 196 | 80 => 249 | n => n, fun | 15 => 2 | 16 => 3 | 17 => 0 | 18 => 6 | 19 => 7 | n => n⟩
theorem Tryz.laysC172 : Go.Proofs.LaysC.n172 Tryz.prog Tryz.laysC172_ren := {
 mixed := by kernel_rfl
 f129 := Tryz.func261.trans (congrArg some (by kernel_rfl))
 f171 := Tryz.func170.trans (congrArg some (by kernel_rfl))
 f172 := Tryz.func241.trans (congrArg some (by kernel_rfl))
 f205 := Tryz.func329.trans (congrArg some (by kernel_rfl))
 f243 := Tryz.func237.trans (congrArg some (by kernel_rfl))
 f244 := Tryz.func275.trans (congrArg some (by kernel_rfl))
 f245 := Tryz.func276.trans (congrArg some (by kernel_rfl))
 f246 := Tryz.func273.trans (congrArg some (by kernel_rfl))
 f247 := Tryz.func305.trans (congrArg some (by kernel_rfl))
 f279 := Tryz.func306.trans (congrArg some (by kernel_rfl))
 f280 := Tryz.func307.trans (congrArg some (by kernel_rfl))
 f281 := Tryz.func308.trans (congrArg some (by kernel_rfl))
 f282 := Tryz.func309.trans (congrArg some (by kernel_rfl))
 f283 := Tryz.func300.trans (congrArg some (by kernel_rfl))
 f284 := Tryz.func301.trans (congrArg some (by kernel_rfl))
 f285 := Tryz.func302.trans (congrArg some (by kernel_rfl))
 f286 := Tryz.func303.trans (congrArg some (by kernel_rfl))
 f287 := Tryz.func327.trans (congrArg some (by kernel_rfl))
 f316 := Tryz.func328.trans (congrArg some (by kernel_rfl))
 f317 := Tryz.func319.trans (congrArg some (by kernel_rfl))
 f318 := Tryz.func320.trans (congrArg some (by kernel_rfl))
 f319 := Tryz.func321.trans (congrArg some (by kernel_rfl))
 f320 := Tryz.func322.trans (congrArg some (by kernel_rfl))
 f321 := Tryz.func336.trans (congrArg some (by kernel_rfl))
 f322 := Tryz.func337.trans (congrArg some (by kernel_rfl))
 f337 := Tryz.func332.trans (congrArg some (by kernel_rfl))
 f338 := Tryz.func333.trans (congrArg some (by kernel_rfl))
 t0 := Tryz.underlying0
 a0 := Tryz.isAgg0
 z0 := Tryz.sizeOf0
 v0 := Tryz.zeroValue0
 t2 := Tryz.underlying2
 a2 := Tryz.isAgg2
 z2 := Tryz.sizeOf2
 v2 := Tryz.zeroValue2
 t3 := Tryz.underlying3
 a3 := Tryz.isAgg3
 z3 := Tryz.sizeOf3
 v3 := Tryz.zeroValue3
 t4 := Tryz.underlying4
 a4 := Tryz.isAgg4
 z4 := Tryz.sizeOf4
 v4 := Tryz.zeroValue4
 t5 := Tryz.underlying5
 a5 := Tryz.isAgg5
 z5 := Tryz.sizeOf5
 v5 := Tryz.zeroValue5
 t9 := Tryz.underlying9
 a9 := Tryz.isAgg9
 z9 := Tryz.sizeOf9
 v9 := Tryz.zeroValue9
 t20 := Tryz.underlying20
 a20 := Tryz.isAgg20
 z20 := Tryz.sizeOf20
 v20 := Tryz.zeroValue20
 t21 := Tryz.underlying21
 a21 := Tryz.isAgg21
 z21 := Tryz.sizeOf21
 v21 := Tryz.zeroValue21
 t37 := Tryz.underlying117
 a37 := Tryz.isAgg117
 z37 := Tryz.sizeOf117
 v37 := Tryz.zeroValue117
 t46 := Tryz.underlying72
 a46 := Tryz.isAgg72
 z46 := Tryz.sizeOf72
 v46 := Tryz.zeroValue72
 t51 := Tryz.underlying343
 a51 := Tryz.isAgg343
 z51 := Tryz.sizeOf343
 v51 := Tryz.zeroValue343
 t53 := Tryz.underlying345
 a53 := Tryz.isAgg345
 z53 := Tryz.sizeOf345
 v53 := Tryz.zeroValue345
 t75 := Tryz.underlying325
 a75 := Tryz.isAgg325
 z75 := Tryz.sizeOf325
 v75 := Tryz.zeroValue325
 t76 := Tryz.underlying326
 a76 := Tryz.isAgg326
 z76 := Tryz.sizeOf326
 v76 := Tryz.zeroValue326
 t85 := Tryz.underlying376
 a85 := Tryz.isAgg376
 z85 := Tryz.sizeOf376
 v85 := Tryz.zeroValue376
 t127 := Tryz.underlying403
 a127 := Tryz.isAgg403
 z127 := Tryz.sizeOf403
 v127 := Tryz.zeroValue403
 t143 := Tryz.underlying404
 a143 := Tryz.isAgg404
 z143 := Tryz.sizeOf404
 v143 := Tryz.zeroValue404
 t145 := Tryz.underlying406
 a145 := Tryz.isAgg406
 z145 := Tryz.sizeOf406
 v145 := Tryz.zeroValue406
 t167 := Tryz.underlying375
 a167 := Tryz.isAgg375
 z167 := Tryz.sizeOf375
 v167 := Tryz.zeroValue375
 t168 := Tryz.underlying378
 a168 := Tryz.isAgg378
 z168 := Tryz.sizeOf378
 v168 := Tryz.zeroValue378
 t171 := Tryz.underlying371
 a171 := Tryz.isAgg371
 z171 := Tryz.sizeOf371
 v171 := Tryz.zeroValue371
 t173 := Tryz.underlying373
 a173 := Tryz.isAgg373
 z173 := Tryz.sizeOf373
 v173 := Tryz.zeroValue373
 t175 := Tryz.underlying393
 a175 := Tryz.isAgg393
 z175 := Tryz.sizeOf393
 v175 := Tryz.zeroValue393
 t210 := Tryz.underlying397
 a210 := Tryz.isAgg397
 z210 := Tryz.sizeOf397
 v210 := Tryz.zeroValue397
 t212 := Tryz.underlying391
 a212 := Tryz.isAgg391
 z212 := Tryz.sizeOf391
 v212 := Tryz.zeroValue391
 t213 := Tryz.underlying392
 a213 := Tryz.isAgg392
 z213 := Tryz.sizeOf392
 t232 := Tryz.underlying411
 a232 := Tryz.isAgg411
 z232 := Tryz.sizeOf411
 v232 := Tryz.zeroValue411
 t233 := Tryz.underlying196
 a233 := Tryz.isAgg196
 z233 := Tryz.sizeOf196
 v233 := Tryz.zeroValue196
 g15 := by kernel_rfl
 g16 := by kernel_rfl
 g17 := by kernel_rfl
 g18 := by kernel_rfl
 g19 := by kernel_rfl
 t80 := Tryz.underlying249
 a80 := Tryz.isAgg249
 z80 := Tryz.sizeOf249
 v80 := Tryz.zeroValue249
 i0 := by kernel_rfl
 i2 := by kernel_rfl
 i3 := by kernel_rfl
 i4 := by kernel_rfl
 i5 := by kernel_rfl
 i9 := by kernel_rfl
 i20 := by kernel_rfl
 i21 := by kernel_rfl
 i37 := by kernel_rfl
 i46 := by kernel_rfl
 i51 := by kernel_rfl
 i53 := by kernel_rfl
 i75 := by kernel_rfl
 i76 := by kernel_rfl
 i80 := by kernel_rfl
 i85 := by kernel_rfl
 i127 := by kernel_rfl
 i143 := by kernel_rfl
 i145 := by kernel_rfl
 i167 := by kernel_rfl
 i168 := by kernel_rfl
 i171 := by kernel_rfl
 i173 := by kernel_rfl
 i175 := by kernel_rfl
 i210 := by kernel_rfl
 i212 := by kernel_rfl
 i232 := by kernel_rfl
 i233 := by kernel_rfl
 m15 := by kernel_rfl
 m16 := by kernel_rfl
 m17 := by kernel_rfl
 m18 := by kernel_rfl
 m19 := by kernel_rfl
 c0 := by kernel_rfl
 c2 := by kernel_rfl
 c3 := by kernel_rfl
 c4 := by kernel_rfl
 c5 := by kernel_rfl
 c9 := by kernel_rfl
 c20 := by kernel_rfl
 c21 := by kernel_rfl
 c37 := by kernel_rfl
 c46 := by kernel_rfl
 c51 := by kernel_rfl
 c53 := by kernel_rfl
 c75 := by kernel_rfl
 c76 := by kernel_rfl
 c80 := by kernel_rfl
 c85 := by kernel_rfl
 c127 := by kernel_rfl
 c143 := by kernel_rfl
 c145 := by kernel_rfl
 c167 := by kernel_rfl
 c168 := by kernel_rfl
 c171 := by kernel_rfl
 c173 := by kernel_rfl
 c175 := by kernel_rfl
 c210 := by kernel_rfl
 c212 := by kernel_rfl
 c213 := by kernel_rfl
 c232 := by kernel_rfl
 c233 := by kernel_rfl }
open Go.RowKit in
theorem Tryz.strconv_Atoi_ok (s : ByteArray) (hmax : s.size ≤ 9223372036854775806) (v : Int) (h : Lib.atoiAll s.data.toList = .ok v) (w : World) :
  Calls Tryz.prog 241 #[.string s] w fun e w' => e = .returned (.tuple #[.int .i64 v, .nilIface]) ∧ (w' = w ∨ ∃ t, w' = Lib.bytesWorld w 5 t) := Any.strconv_Atoi_ok Tryz.laysC172 s hmax v h w
open Go.RowKit in
theorem Tryz.strconv_Atoi_syntax (s : ByteArray) (hlim : s.size ≤ 281474976710656) (h : Lib.atoiAll s.data.toList = Lib.atoiAll []) (ev : Value) (w : World) (hv : w.cell? ⟨2, 0, none⟩ = some ev) (hev : ev = .nilIface ∨ ∃ te pe, ev = .iface te pe) :
  Calls Tryz.prog 241 #[.string s] w fun e w' => ∃ N, e = .returned (.tuple #[.int .i64 (0), .iface 378 (.pointer (some ⟨N, 0, none⟩))]) ∧ w.heap.size ≤ N ∧ w'.heap[N]? = some (.cells #[.string ⟨#[65, 116, 111, 105]⟩, .string s, ev] 397 (0, 0)) ∧ Below w.heap.size w w' := Any.strconv_Atoi_syntax Tryz.laysC172 s hlim h ev w hv hev
open Go.RowKit in
theorem Tryz.strconv_Atoi_range (s : ByteArray) (hlim : s.size ≤ 281474976710656) (h : Lib.atoiAll s.data.toList = .range) (ev : Value) (w : World) (hv : w.cell? ⟨3, 0, none⟩ = some ev) (hev : ev = .nilIface ∨ ∃ te pe, ev = .iface te pe) :
  Calls Tryz.prog 241 #[.string s] w fun e w' => ∃ N, e = .returned (.tuple #[.int .i64 (Lib.atoiSat s.data.toList), .iface 378 (.pointer (some ⟨N, 0, none⟩))]) ∧ w.heap.size ≤ N ∧ w'.heap[N]? = some (.cells #[.string ⟨#[65, 116, 111, 105]⟩, .string s, ev] 397 (0, 0)) ∧ Below w.heap.size w w' := Any.strconv_Atoi_range Tryz.laysC172 s hlim h ev w hv hev
open Go.RowKit in
open Go.RowKit in
def Tryz.lays145_ren : Go.Shelf.Ren := ⟨fun | 145 => 239 | 220 => 274 | 219 => 304 | 217 => 323 | 225 => 324 | 224 => 325 | 267 => 326 | 266 => 334 | 314 => 335 | n => n, fun | 9 => 9 | 4 => 4 | 59 => 322 | 3 => 3 | 5 => 5 | 46 => 72 | 146 => 400 | 51 => 343 | n => n, fun | 1 => 1 | n => n⟩
theorem Tryz.lays145 : Go.Proofs.Lays.n145 Tryz.prog Tryz.lays145_ren := {
 mixed := by kernel_rfl
 f145 := Tryz.func239.trans (congrArg some (by kernel_rfl))
 f217 := Tryz.func323.trans (congrArg some (by kernel_rfl))
 f219 := Tryz.func304.trans (congrArg some (by kernel_rfl))
 f220 := Tryz.func274.trans (congrArg some (by kernel_rfl))
 f224 := Tryz.func325.trans (congrArg some (by kernel_rfl))
 f225 := Tryz.func324.trans (congrArg some (by kernel_rfl))
 f266 := Tryz.func334.trans (congrArg some (by kernel_rfl))
 f267 := Tryz.func326.trans (congrArg some (by kernel_rfl))
 f314 := Tryz.func335.trans (congrArg some (by kernel_rfl))
 t3 := Tryz.underlying3
 a3 := Tryz.isAgg3
 z3 := Tryz.sizeOf3
 v3 := Tryz.zeroValue3
 t4 := Tryz.underlying4
 a4 := Tryz.isAgg4
 z4 := Tryz.sizeOf4
 v4 := Tryz.zeroValue4
 t5 := Tryz.underlying5
 a5 := Tryz.isAgg5
 z5 := Tryz.sizeOf5
 v5 := Tryz.zeroValue5
 t9 := Tryz.underlying9
 a9 := Tryz.isAgg9
 z9 := Tryz.sizeOf9
 v9 := Tryz.zeroValue9
 t46 := Tryz.underlying72
 a46 := Tryz.isAgg72
 z46 := Tryz.sizeOf72
 v46 := Tryz.zeroValue72
 t51 := Tryz.underlying343
 a51 := Tryz.isAgg343
 z51 := Tryz.sizeOf343
 v51 := Tryz.zeroValue343
 t59 := Tryz.underlying322
 a59 := Tryz.isAgg322
 z59 := Tryz.sizeOf322
 v59 := Tryz.zeroValue322
 t146 := Tryz.underlying400
 a146 := Tryz.isAgg400
 z146 := Tryz.sizeOf400
 v146 := Tryz.zeroValue400
 g1 := by kernel_rfl }
open Go.RowKit Go.Lib in
theorem Tryz.strings_Cut (s sep : ByteArray) (m : Int) (w : World) (hs : s.size < 4294967281) (hm : w.cell? ⟨1, 0, none⟩ = some (.int .i64 m)) :
  Calls Tryz.prog 239 #[.string s, .string sep] w fun e w' => e = .returned (.tuple #[.string ⟨(Lib.cut s.data.toList sep.data.toList).1.toArray⟩, .string ⟨(Lib.cut s.data.toList sep.data.toList).2.1.toArray⟩, .bool (Lib.cut s.data.toList sep.data.toList).2.2]) ∧ ∃ n, w' = w.drewN n := Any.strings_Cut Tryz.lays145 s sep m w hs hm
end Go.Proofs
end
section
namespace Go.Proofs.YtocabeobfbhajaaGreatDoor.Sx
noncomputable section
open Go Go.RowKit
instance symN (n : Nat) : OfNat AV n := ⟨.sym n⟩
abbrev I (n : Int) : Value := .int .i64 n
abbrev J (n : Int) : AV := .int .i64 n
section
variable {E : Env} {n : Nat} {w : World} {L : List Value → List Value} {t c : List QE} {m : List QL} {p : List LE} {S : Prop}
theorem wT (o : BinOp) (a b : AV) {k : IntKind} {x y : Int} (h : cmpZ o x y) (g : Wy E n w L (⟨tagB o, [a, b], .bool true⟩ :: t) c m p S) (h1 : isCmp o = true := by rfl) (h2 : ∀ R, iv (syL (L R)) a = some (.int k x) := by exact fun _ => rfl) (h3 : ∀ R, iv (syL (L R)) b = some (.int k y) := by exact fun _ => rfl) : Wy E n w L t c m p S :=
 wE _ (fun R => q_t o h1 (h2 R) (h3 R) h) g
theorem wF (o : BinOp) (a b : AV) {k : IntKind} {x y : Int} (h : ¬ cmpZ o x y) (g : Wy E n w L (⟨tagB o, [a, b], .bool false⟩ :: t) c m p S) (h1 : isCmp o = true := by rfl) (h2 : ∀ R, iv (syL (L R)) a = some (.int k x) := by exact fun _ => rfl) (h3 : ∀ R, iv (syL (L R)) b = some (.int k y) := by exact fun _ => rfl) : Wy E n w L t c m p S :=
 wE _ (fun R => q_f o h1 (h2 R) (h3 R) h) g
theorem wU (a b : AV) {k : IntKind} {x y : Int} (h : x = y) (g : Wy E n w L (⟨20, [a, b], .bool true⟩ :: t) c m p S) (h2 : ∀ R, iv (syL (L R)) a = some (.int k x) := by exact fun _ => rfl) (h3 : ∀ R, iv (syL (L R)) b = some (.int k y) := by exact fun _ => rfl) : Wy E n w L t c m p S :=
 wE _ (fun R => q_it (h2 R) (h3 R) h) g
theorem wV (a b : AV) {k : IntKind} {x y : Int} (h : ¬ x = y) (g : Wy E n w L (⟨20, [a, b], .bool false⟩ :: t) c m p S) (h2 : ∀ R, iv (syL (L R)) a = some (.int k x) := by exact fun _ => rfl) (h3 : ∀ R, iv (syL (L R)) b = some (.int k y) := by exact fun _ => rfl) : Wy E n w L t c m p S :=
 wE _ (fun R => q_if (h2 R) (h3 R) h) g
theorem wA (a b r : AV) {x y : Int} (g : Wy E n w L (⟨tagB .add, [a, b], r⟩ :: t) c m p S) (h2 : ∀ R, iv (syL (L R)) a = some (.int .i64 x) := by exact fun _ => rfl) (h3 : ∀ R, iv (syL (L R)) b = some (.int .i64 y) := by exact fun _ => rfl) (h4 : ∀ R, iv (syL (L R)) r = some (.int .i64 (x + y)) := by exact fun _ => rfl) (h : -9223372036854775808 ≤ x + y ∧ x + y ≤ 9223372036854775807 := by omega) : Wy E n w L t c m p S :=
 wE _ (fun R => q_addI (h2 R) (h3 R) (h4 R) h) g
section
variable {α : Type} [Inhabited α] {C : Codec α} {a : Option Addr} {b o : Nat} {l : List α}
end
end
theorem specV {G : Gl} : ∀ {vs : List AV} {xs : List Value}, vvs G.sy vs = some xs → SpecL G vs [] (fun _ l => l = xs)
 | [], xs, h => by
  cases h
  exact .nil
 | v :: vs, xs, h => by
  unfold vvs at h
  split at h
  case h_2 => cases h
  rename_i x l h1 h2
  cases h
  have := SpecL.val v x vs [] _ h1 (specV h2)
  have e : (fun (w : World) (xs : List Value) => ∃ l', xs = x :: l' ∧ (fun (_ : World) (q : List Value) => q = l) w l') = fun _ q => q = x :: l := by
   funext w q
   exact propext ⟨fun ⟨l', e1, e2⟩ => by rw [e1, e2], fun e => ⟨l, e, rfl⟩⟩
  rw [← e]; exact this
theorem q_cV {G : Gl} {P : Program} {f : Nat} {vs : List AV} {xs : List Value} {r : AV} {z : Value} (hv : vvs G.sy vs = some xs := by rfl) (hr : vtQ G.sy r [] = some (z, []) := by rfl) (hl : slsT r = [] := by rfl) (ho : oneTu G.sy r = true := by rfl) (h : ∀ w, OldAt G w → Calls P f xs.toArray w fun ec w' => ec = .returned z ∧ Chg (fun _ => False) w w') : COK G P ⟨f, [.tup vs, .tup []], r⟩ :=
 q_callT (specV hv) hr hl ho (fun w xs hw hq => by subst hq; exact h w hw)
theorem rnG {α : Type} {P : Program} {n f k : Nat} {w : World} {H : Head} {Lh La : List Value} {fu : Nat} {x : Option α} {Q : α → List (Prop × Head × List Value × XE)} (g : ∃ o, x = some o ∧ RdsD P n f k w H La fu (Q o)) (h : RndS P n f k w H H Lh La .normal) : ∃ o, x = some o ∧ RdsD P n f k w H Lh (fu + 1) (Q o) :=
 let ⟨o, g1, g2⟩ := g
 ⟨o, g1, rndGoD h g2⟩
section
variable {n : Nat} {w : World} {L : List Value → List Value} {t c : List QE} {m : List QL} {p : List LE}
theorem wZ {f : Nat} {xs : List Value} {x : Value} (v : AV) (vs : List AV) (hv : vvs (syL (L [])) vs = some xs := by rfl) (ho : onesL vs xs = true := by rfl)
  (h : isR v (funA (Ev E0 n (L []) w t c m p) (drwA (Ev E0 n (L []) w t c m p)) 60 60 (.fn f) vs ⟨Mm.lf, n, 0⟩) = true := by kernel_rfl) (hx : vt (syL (L [])) v = some x := by rfl) : Wy E0 n w L t c m p (Calls E0.P f xs.toArray w fun e w' => e = .returned x ∧ Chg (fun _ => False) w w') :=
 wRet ok0 60 60 vs rfl hv ho h hx
theorem wQ {S : Prop} {f k : Nat} {H X : Head} {Lh L' : List Value} {x : XE} (g : RndS E0.P n f k w H X Lh L' x → S) (Kh : Nat) (r : Rn) (nils : List Nat) (hv : OutsOK (syL (L [])) (syL L') r.K r.outs) (hG : syL (L []) 0 = .agg #[] ∧ E0.rd = none := by exact ⟨rfl, rfl⟩)
  (hnt : (Nat.ble (ntF E0.P f) 512 && lowH H Kh && Nat.ble n H.n0 && Nat.beq X.n0 H.n0 && Nat.beq X.c0 H.c0) = true := by kernel_rfl)
  (ck : chkR X r nils x (execL (lpA p f) (loopF E0.P f k) (Ev E0 n (L []) w t c m p) (funA (Ev E0 n (L []) w t c m p) (drwA (Ev E0 n (L []) w t c m p)) 60 60) (drwA (Ev E0 n (L []) w t c m p)) (ntF E0.P f) 60 H.T [] H.st) = true := by kernel_rfl)
  (agh : Lh.take Kh = (L []).take Kh := by rfl) (ag : (L []).take r.K = L'.take r.K := by rfl) : Wy E0 n w L t c m p S :=
 wRnd g ok0 60 60 Kh r nils hG hnt ck agh ag hv
end
end
end Go.Proofs.YtocabeobfbhajaaGreatDoor.Sx
end
section
namespace Go.Proofs.YtocabeobfbhajaaGreatDoor.Sx
open Go Go.RowKit Go.Proofs Go.Proofs.YtocabeobfbhajaaGreatDoor
structure StrW (w : World) : Prop where
 tab : Lib.TabIs Tryz.prog w "internal/strconv.uint64pow10" .u64 Lib.pow10Tab
 max : ∃ m, w.cell? ⟨1, 0, none⟩ = some (.int .i64 m)
 es : ∃ t p, w.cell? ⟨2, 0, none⟩ = some (.iface t p)
 er : ∃ t p, w.cell? ⟨3, 0, none⟩ = some (.iface t p)
theorem cell_old {w w' : World} (h : ∀ k, k < w.heap.size → k < w'.heap.size ∧ w'.heap[k]? = w.heap[k]?) {a : Addr} {v : Value} (hc : w.cell? a = some v) : w'.cell? a = some v := by
 unfold World.cell? at hc ⊢
 by_cases hk : a.block < w.heap.size
 ·rw [(h _ hk).2]; exact hc
 ·rw [Array.getElem?_eq_none (by omega)] at hc; cases hc
theorem StrW.keep {w w' : World} (h : ∀ k, k < w.heap.size → k < w'.heap.size ∧ w'.heap[k]? = w.heap[k]?) (H : StrW w) : StrW w' := by
 obtain ⟨h1, ⟨m, h2⟩, ⟨t1, p1, h3⟩, ⟨t2, p2, h4⟩⟩ := H
 refine ⟨?_, ⟨m, cell_old h h2⟩, ⟨t1, p1, cell_old h h3⟩, ⟨t2, p2, cell_old h h4⟩⟩
 unfold Lib.TabIs World.var? at h1 ⊢
 cases hg : (Tryz.prog).globalNamed "internal/strconv.uint64pow10" with
 | none => rw [hg] at h1; cases h1
 | some g =>
  rw [hg] at h1
  simp only [Option.bind_some] at h1 ⊢
  by_cases hk : g < w.heap.size
  ·rw [(h _ hk).2]; exact h1
  ·rw [Array.getElem?_eq_none (by omega)] at h1; cases h1
theorem StrW.old {n : Nat} {Y : Nat → Value} {w w' : World} (H : StrW w) (hw : OldAt (Gw n Y w) w') : StrW w' := H.keep fun k hk => hw k hk
theorem StrW.chg {w w' : World} (H : StrW w) (hc : Chg (fun _ => False) w w') : StrW w' := H.keep fun k hk => ⟨Nat.lt_of_lt_of_le hk hc.size, hc.block k hk id⟩
def itoaB (n : Int) : ByteArray := ⟨(Lib.itoa n).toArray⟩
def cutA (s : ByteArray) : ByteArray := ⟨(Lib.cut s.data.toList [32]).1.toArray⟩
def cutR (s : ByteArray) : ByteArray := ⟨(Lib.cut s.data.toList [32]).2.1.toArray⟩
def cutF (s : ByteArray) : Bool := (Lib.cut s.data.toList [32]).2.2
def atoiOK (s : ByteArray) : Bool := match Lib.atoiAll s.data.toList with
 | .ok _ => true
 | _ => false
def atoiV (s : ByteArray) : Int := match Lib.atoiAll s.data.toList with
 | .ok v => v
 | _ => 0
theorem itoa_n {w : World} (H : StrW w) (n : Int) (h : -9223372036854775808 ≤ n ∧ n ≤ 9223372036854775807) : Calls Tryz.prog 170 #[.int .i64 n] w fun e w' => e = .returned (.string (itoaB n)) ∧ Chg (fun _ => False) w w' :=
 (Tryz.strconv_Itoa n h.1 h.2 w H.tab).mono fun e w' ⟨h1, k, os, h2⟩ => ⟨h1, by rw [h2]; exact Chg.of_below (Lib.below_grow _ w (Nat.le_refl _) k os)⟩
theorem cut_n {w : World} (H : StrW w) (s : ByteArray) (h : ((s.size : Nat) : Int) ≤ 100000) : Calls Tryz.prog 239 #[.string s, .string (bstr 1 32)] w fun e w' => e = .returned (.tuple #[.string (cutA s), .string (cutR s), .bool (cutF s)]) ∧ Chg (fun _ => False) w w' := by
 obtain ⟨m, hm⟩ := H.max
 refine (Tryz.strings_Cut s (bstr 1 32) m w (by omega) hm).mono fun e w' ⟨h1, n, h2⟩ => ⟨?_, ?_⟩
 ·rw [h1]; rfl
 ·rw [h2]; exact ⟨rfl, rfl, rfl, Nat.le_refl _, fun _ _ _ => rfl⟩
theorem atoi_t {w : World} (H : StrW w) (s : ByteArray) (hs : ((s.size : Nat) : Int) ≤ 100000) (h : atoiOK s = true) : Calls Tryz.prog 241 #[.string s] w fun e w' => e = .returned (.tuple #[.int .i64 (atoiV s), .nilIface]) ∧ Chg (fun _ => False) w w' := by
 unfold atoiOK at h
 split at h
 case h_2 => cases h
 rename_i v hv
 refine (Tryz.strconv_Atoi_ok s (by omega) v hv w).mono fun e w' ⟨h1, h2⟩ => ⟨?_, ?_⟩
 ·rw [h1]; unfold atoiV; rw [hv]
 ·rcases h2 with rfl | ⟨t, rfl⟩
  ·exact Chg.refl _ _
  ·exact Chg.of_below (Lib.bytesWorld_below _ _ _)
theorem atoi_f {w : World} (H : StrW w) (s : ByteArray) (hs : ((s.size : Nat) : Int) ≤ 100000) (h : ¬ atoiOK s = true) : Calls Tryz.prog 241 #[.string s] w fun e w' => (∃ (x : Value) (p : Value), e = .returned (.tuple #[x, .iface 378 p])) ∧ Chg (fun _ => False) w w' := by
 obtain ⟨t1, p1, e1⟩ := H.es
 obtain ⟨t2, p2, e2⟩ := H.er
 rcases hc : Lib.atoiAll s.data.toList with v | _ | _
 ·exact absurd (by unfold atoiOK; rw [hc]) h
 ·exact (Tryz.strconv_Atoi_syntax s (by omega) hc _ w e1 (.inr ⟨t1, p1, rfl⟩)).mono fun e w' ⟨N, h1, _, _, h2⟩ => ⟨⟨.int .i64 _, _, h1⟩, Chg.of_below h2⟩
 ·exact (Tryz.strconv_Atoi_range s (by omega) hc _ w e2 (.inr ⟨t2, p2, rfl⟩)).mono fun e w' ⟨N, h1, _, _, h2⟩ => ⟨⟨.int .i64 _, _, h1⟩, Chg.of_below h2⟩
theorem bstr_sz (n N : Nat) : (((bstr n N).size : Nat) : Int) = n := by rw [bstr_size]
theorem size_app {a b : ByteArray} {m n : Int} (ha : ((a.size : Nat) : Int) = m) (hb : ((b.size : Nat) : Int) = n) : (((a ++ b).size : Nat) : Int) = m + n := by
 rw [ByteArray.size_append]; omega
theorem size_le {a b : ByteArray} {m n K : Int} (ha : ((a.size : Nat) : Int) = m) (hb : ((b.size : Nat) : Int) = n) (h : m + n ≤ K) : ((a.size : Nat) : Int) + ((b.size : Nat) : Int) ≤ K := by omega
theorem cutA_size (s : ByteArray) : (((cutA s).size : Nat) : Int) ≤ ((s.size : Nat) : Int) := by
 unfold cutA Lib.cut
 split
 ·show (((List.take _ s.data.toList).toArray.size : Nat) : Int) ≤ _
  rw [List.size_toArray, List.length_take, Array.length_toList]
  show _ ≤ ((s.data.size : Nat) : Int)
  omega
 ·exact Int.le_refl _
theorem cutR_size (s : ByteArray) : (((cutR s).size : Nat) : Int) ≤ ((s.size : Nat) : Int) := by
 unfold cutR Lib.cut
 split
 ·show (((List.drop _ s.data.toList).toArray.size : Nat) : Int) ≤ _
  rw [List.size_toArray, List.length_drop, Array.length_toList]
  show _ ≤ ((s.data.size : Nat) : Int)
  omega
 ·show ((0 : Nat) : Int) ≤ _
  omega
theorem q_cErr {G : Gl} {P : Program} {f ty : Nat} {vs : List AV} {xs : List Value} (hv : vvs G.sy vs = some xs := by rfl) (h : ∀ w, OldAt G w → Calls P f xs.toArray w fun ec w' => (∃ x p, ec = .returned (.tuple #[x, .iface ty p])) ∧ Chg (fun _ => False) w w') : COK G P ⟨f, [.tup vs, .tup []], .tup [.top, .ifc ty .top]⟩ := by
 refine ⟨vs, [], rfl, fun σ s w xs' d hvs hk => ?_⟩
 have hq := (specV hv).get d hvs hk
 subst hq
 refine (h w (fun k hk => ⟨(d.old k hk).1, (d.old k hk).2.1⟩)).mono fun ec w' ⟨⟨x, p, h1⟩, h2⟩ => ⟨⟨_, h1, ?_⟩, h2⟩
 simp only [V, Vs]
 exact ⟨[x, .iface ty p], ⟨x, _, rfl, trivial, .iface ty p, _, rfl, ⟨p, trivial, rfl⟩, rfl⟩, rfl⟩
theorem digits_len : ∀ (k u : Nat), u < 10 ^ (k + 1) → (Lib.decDigits u).length ≤ k + 1
 | 0, u, h => by
  unfold Lib.decDigits
  rw [dif_pos (by omega)]; simp
 | k + 1, u, h => by
  unfold Lib.decDigits
  split
  ·simp
  ·rw [List.length_append, List.length_singleton]
   have := digits_len k (u / 10) (by rw [Nat.pow_succ] at h; omega)
   omega
theorem itoaB_size {n : Int} (h : 0 ≤ n ∧ n ≤ 999999999) : (((itoaB n).size : Nat) : Int) ≤ 9 := by
 have : (itoaB n).size = (Lib.decDigits n.toNat).length := by
  unfold itoaB Lib.itoa
  rw [if_neg (by omega)]
  simp [ByteArray.size]
 rw [this]
 have := digits_len 8 n.toNat (by omega)
 omega
end Go.Proofs.YtocabeobfbhajaaGreatDoor.Sx
end
section
set_option maxRecDepth 100000
namespace Go.Proofs.YtocabeobfbhajaaGreatDoor
open Go Go.RowKit
attribute [local go_sem] if_ok Bool.and_true
theorem within_any (n low high : Int) (w : World) : Calls Tryz.prog 176 #[.int .i64 n, .int .i64 low, .int .i64 high] w fun e w' => e = .returned (.bool (inB n low high)) ∧ w = w' := by
 unfold inB
 go_enter Tryz.func176, Tryz.ntmps176
 go_wp2
 all_goals
  go_ret
  refine ⟨?_, rfl⟩
  simp_all
 all_goals omega
theorem reeves_any (n : Int) (w : World) : Calls Tryz.prog 78 #[.int .i64 n] w fun e w' => e = .returned (.bool (manyB n)) ∧ w = w' := by
 unfold manyB
 go_enter Tryz.func78, Tryz.ntmps78
 go_wp2
 all_goals
  go_ret
  refine ⟨?_, rfl⟩
  simp_all
theorem risRef_any (n : Int) (hn : -9223372036854775807 ≤ n ∧ n ≤ 9223372036854775807) (x : Rf) (w : World) : Calls Tryz.prog 177 #[.int .i64 n, x.val] w fun e w' => e = .returned (.bool (isRefB n x)) ∧ w.alloc (.cells x.cells.toArray 23) = w' := by
 unfold Rf.val isRefB Rf.cells
 obtain ⟨n1, n2⟩ := hn
 go_enter Tryz.func177, Tryz.ntmps177
 go_wp2_with (first | (go_at_call 176; refine (within_any _ _ _ _).mono ?_; rintro e w' ⟨rfl, rfl⟩))
 all_goals
  go_ret
  refine ⟨?_, rfl⟩
  simp_all
set_option maxHeartbeats 2000000 in
theorem rformed_bad1 (n : Int) (p : Po) (w : World) (h1 : manyB n = true)  (ha : inB p.reeve 0 (n - 1) = false) : Calls Tryz.prog 82 #[.int .i64 n, p.val] w fun e w' => e = .returned (.bool false) ∧ Below w.heap.size w w' := by
 have h35 : n = 3 ∨ n = 5 := by unfold manyB at h1; simpa using h1
 have hn : -9223372036854775807 ≤ n ∧ n ≤ 9223372036854775807 := by omega
 have hn0 : (n == 0) = false := by simp; omega
 have hn1 : ¬ n = 0 := by omega
 have hn2 : 3 ≤ n := by omega
 have hn3 : n ≤ 5 := by omega
 obtain ⟨re, nu, ti, ki, cs, ow, ⟨ofr, ofn⟩, ⟨byr, byn⟩, am⟩ := p
 simp only at ha
 have HI := hid (risRef_any n hn)
 simp only [Po.val, Po.cells, Rf.val, Rf.cells] at *
 clear h35 hn
 go_enter Tryz.func82, Tryz.ntmps82
 go_wp2_with (first
  | (go_at_call 176; refine (within_any _ _ _ _).mono ?_; rintro e w' ⟨rfl, rfl⟩)
  | (go_at_call 177; refine (HI.out ⟨_, _⟩ _).mono ?_; rintro e w' ⟨rfl, rfl⟩))
 go_ret
 exact ⟨rfl, (by go_grown)⟩
set_option maxHeartbeats 2000000 in
theorem rformed_bad2 (n : Int) (p : Po) (w : World) (h1 : manyB n = true) (ha : inB p.reeve 0 (n - 1) = true) (hb : inB p.number 1 300 = false) : Calls Tryz.prog 82 #[.int .i64 n, p.val] w fun e w' => e = .returned (.bool false) ∧ Below w.heap.size w w' := by
 have h35 : n = 3 ∨ n = 5 := by unfold manyB at h1; simpa using h1
 have hn : -9223372036854775807 ≤ n ∧ n ≤ 9223372036854775807 := by omega
 have hn0 : (n == 0) = false := by simp; omega
 have hn1 : ¬ n = 0 := by omega
 have hn2 : 3 ≤ n := by omega
 have hn3 : n ≤ 5 := by omega
 obtain ⟨re, nu, ti, ki, cs, ow, ⟨ofr, ofn⟩, ⟨byr, byn⟩, am⟩ := p
 simp only at ha hb
 have HI := hid (risRef_any n hn)
 simp only [Po.val, Po.cells, Rf.val, Rf.cells] at *
 clear h35 hn
 go_enter Tryz.func82, Tryz.ntmps82
 go_wp2_with (first
  | (go_at_call 176; refine (within_any _ _ _ _).mono ?_; rintro e w' ⟨rfl, rfl⟩)
  | (go_at_call 177; refine (HI.out ⟨_, _⟩ _).mono ?_; rintro e w' ⟨rfl, rfl⟩))
 go_ret
 exact ⟨rfl, (by go_grown)⟩
set_option maxHeartbeats 2000000 in
theorem rformed_bad3 (n : Int) (p : Po) (w : World) (h1 : manyB n = true) (ha : inB p.reeve 0 (n - 1) = true) (hb : inB p.number 1 300 = true) (h3 : inB p.tick 0 100000 = false) : Calls Tryz.prog 82 #[.int .i64 n, p.val] w fun e w' => e = .returned (.bool false) ∧ Below w.heap.size w w' := by
 have h35 : n = 3 ∨ n = 5 := by unfold manyB at h1; simpa using h1
 have hn : -9223372036854775807 ≤ n ∧ n ≤ 9223372036854775807 := by omega
 have hn0 : (n == 0) = false := by simp; omega
 have hn1 : ¬ n = 0 := by omega
 have hn2 : 3 ≤ n := by omega
 have hn3 : n ≤ 5 := by omega
 obtain ⟨re, nu, ti, ki, cs, ow, ⟨ofr, ofn⟩, ⟨byr, byn⟩, am⟩ := p
 simp only at ha hb h3
 have HI := hid (risRef_any n hn)
 simp only [Po.val, Po.cells, Rf.val, Rf.cells] at *
 clear h35 hn
 go_enter Tryz.func82, Tryz.ntmps82
 go_wp2_with (first
  | (go_at_call 176; refine (within_any _ _ _ _).mono ?_; rintro e w' ⟨rfl, rfl⟩)
  | (go_at_call 177; refine (HI.out ⟨_, _⟩ _).mono ?_; rintro e w' ⟨rfl, rfl⟩))
 go_ret
 exact ⟨rfl, (by go_grown)⟩
set_option maxHeartbeats 2000000 in
theorem rformed_bad4 (n : Int) (p : Po) (w : World) (h1 : manyB n = true) (ha : inB p.reeve 0 (n - 1) = true) (hb : inB p.number 1 300 = true) (h3 : inB p.tick 0 100000 = true) (h4 : inB p.owner 1 40 = false) : Calls Tryz.prog 82 #[.int .i64 n, p.val] w fun e w' => e = .returned (.bool false) ∧ Below w.heap.size w w' := by
 have h35 : n = 3 ∨ n = 5 := by unfold manyB at h1; simpa using h1
 have hn : -9223372036854775807 ≤ n ∧ n ≤ 9223372036854775807 := by omega
 have hn0 : (n == 0) = false := by simp; omega
 have hn1 : ¬ n = 0 := by omega
 have hn2 : 3 ≤ n := by omega
 have hn3 : n ≤ 5 := by omega
 obtain ⟨re, nu, ti, ki, cs, ow, ⟨ofr, ofn⟩, ⟨byr, byn⟩, am⟩ := p
 simp only at ha hb h3 h4
 have HI := hid (risRef_any n hn)
 simp only [Po.val, Po.cells, Rf.val, Rf.cells] at *
 clear h35 hn
 go_enter Tryz.func82, Tryz.ntmps82
 go_wp2_with (first
  | (go_at_call 176; refine (within_any _ _ _ _).mono ?_; rintro e w' ⟨rfl, rfl⟩)
  | (go_at_call 177; refine (HI.out ⟨_, _⟩ _).mono ?_; rintro e w' ⟨rfl, rfl⟩))
 go_ret
 exact ⟨rfl, (by go_grown)⟩
set_option maxHeartbeats 2000000 in
theorem rformed_bad5 (n : Int) (p : Po) (w : World) (h1 : manyB n = true) (ha : inB p.reeve 0 (n - 1) = true) (hb : inB p.number 1 300 = true) (h3 : inB p.tick 0 100000 = true) (h4 : inB p.owner 1 40 = true) (h5 : inB p.amount 1 1000000 = false) : Calls Tryz.prog 82 #[.int .i64 n, p.val] w fun e w' => e = .returned (.bool false) ∧ Below w.heap.size w w' := by
 have h35 : n = 3 ∨ n = 5 := by unfold manyB at h1; simpa using h1
 have hn : -9223372036854775807 ≤ n ∧ n ≤ 9223372036854775807 := by omega
 have hn0 : (n == 0) = false := by simp; omega
 have hn1 : ¬ n = 0 := by omega
 have hn2 : 3 ≤ n := by omega
 have hn3 : n ≤ 5 := by omega
 obtain ⟨re, nu, ti, ki, cs, ow, ⟨ofr, ofn⟩, ⟨byr, byn⟩, am⟩ := p
 simp only at ha hb h3 h4 h5
 have HI := hid (risRef_any n hn)
 simp only [Po.val, Po.cells, Rf.val, Rf.cells] at *
 clear h35 hn
 go_enter Tryz.func82, Tryz.ntmps82
 go_wp2_with (first
  | (go_at_call 176; refine (within_any _ _ _ _).mono ?_; rintro e w' ⟨rfl, rfl⟩)
  | (go_at_call 177; refine (HI.out ⟨_, _⟩ _).mono ?_; rintro e w' ⟨rfl, rfl⟩))
 go_ret
 exact ⟨rfl, (by go_grown)⟩
end Go.Proofs.YtocabeobfbhajaaGreatDoor
end
