/- An operation of a reeve's script that came in, opened. -/
import Derived.Test.YtocabeobfbhajaaGreatDoorNilA
import Derived.ProofKit
import Derived.OpenShut
import Derived.Deep.Slices
import Derived.ChangeSame
import Derived.ChangeArms
import Derived.KernelRfl
set_option linter.unusedSimpArgs false
set_option linter.unusedVariables false
set_option maxRecDepth 100000
namespace Go.Proofs.YtocabeobfbhajaaGreatDoor
open Go Go.RowKit Go.ChangeShapes Go.WideShapes Go.Deep

def fieldsOf (d : TypeDesc) : List (Nat × TypeId) := match d with
  | .struct fs => fs.toList.map fun f => (f.offset, f.type)
  | _ => []
section
variable {H : Type} {enc : TypeId × Value → H} {W : World}
/-- The parts of a struct that was trodden. -/
theorem parts_trod {P : Program} {n : Nat} {t : TypeId} {cs : List Value} {y : DataW H × List MemPlace} {L : List (Nat × TypeId)} (hf : (P.underlying t).map fieldsOf = some L) (hL : L ≠ [])
    (h : DataW.trod enc P W 0 (fun _ => true) true n t cs = some y) : cs.length = P.cellsOf t ∧ ∃ m, ∀ (i o : Nat) (t' : TypeId), L[i]? = some (o, t') → ∃ y, DataW.trod enc P W 0 (fun _ => true) true m t' ((cs.drop o).take (P.cellsOf t')) = some y := by
  cases hu : P.underlying t with
  | none => rw [hu] at hf; cases hf
  | some d =>
    rw [hu] at hf
    simp only [Option.map_some, Option.some.injEq] at hf
    cases d with
    | struct fs =>
      simp only [fieldsOf] at hf
      obtain ⟨xs, m, _, _, hlen, hxl, hget⟩ := DataW.trod_struct hu h
      refine ⟨hlen, m, fun i o t' hi => ?_⟩
      rw [← hf] at hi
      rw [List.getElem?_map] at hi
      cases hfi : fs.toList[i]? with
      | none => rw [hfi] at hi; cases hi
      | some f =>
        rw [hfi] at hi
        simp only [Option.map_some, Option.some.injEq, Prod.mk.injEq] at hi
        obtain ⟨rfl, rfl⟩ := hi
        have h2 := hget i f (by simpa using hfi)
        have hil : i < xs.length := by
          rw [hxl]
          have := (List.getElem?_eq_some_iff.1 hfi).1
          simpa using this
        rw [h2, List.getElem?_eq_getElem hil]
        exact ⟨_, rfl⟩
    | _ => exact absurd hf.symm hL
theorem refFields : (Tryz.prog.underlying 23).map fieldsOf = some [(0, 3), (1, 3)] := by kernel_rfl
theorem poFields : (Tryz.prog.underlying 25).map fieldsOf = some [(0, 3), (1, 3), (2, 3), (3, 5), (4, 3), (5, 3), (6, 23), (8, 23), (10, 3)] := by kernel_rfl
theorem stFields : (Tryz.prog.underlying 41).map fieldsOf = some [(0, 39)] := by kernel_rfl
theorem rvFields : (Tryz.prog.underlying 44).map fieldsOf = some [(0, 5), (1, 3), (2, 3), (3, 9), (4, 4), (5, 3), (6, 3), (7, 3), (8, 23), (10, 38), (11, 41), (16, 42)] := by kernel_rfl
theorem rowPo : Tryz.prog.underlying 38 = some (.slice 25) := by kernel_rfl
theorem rowInt : Tryz.prog.underlying 42 = some (.slice 3) := by kernel_rfl
theorem arrInt : Tryz.prog.underlying 39 = some (.array 5 3) := by kernel_rfl
theorem cellsN : Tryz.prog.cellsOf 3 = 1 ∧ Tryz.prog.cellsOf 5 = 1 ∧ Tryz.prog.cellsOf 9 = 1 ∧ Tryz.prog.cellsOf 4 = 1 ∧ Tryz.prog.cellsOf 23 = 2 ∧ Tryz.prog.cellsOf 38 = 1 ∧ Tryz.prog.cellsOf 41 = 5 ∧ Tryz.prog.cellsOf 42 = 1 ∧ Tryz.prog.cellsOf 39 = 5 ∧ Tryz.prog.cellsOf 25 = 11 ∧ Tryz.prog.cellsOf 44 = 17 := by
  refine ⟨?_, ?_, ?_, ?_, ?_, ?_, ?_, ?_, ?_, ?_, ?_⟩ <;> kernel_rfl

theorem rf_trod {n : Nat} {cs : List Value} {y : DataW H × List MemPlace} (h : DataW.trod enc Tryz.prog W 0 (fun _ => true) true n 23 cs = some y) : ∃ r : Rf, cs = r.cells := by
  obtain ⟨hlen, m, hp⟩ := parts_trod refFields (by simp) h
  obtain ⟨c1, _, _, _, c2, _⟩ := cellsN
  rw [c2] at hlen
  match cs, hlen with
  | [v0, v1], _ =>
    obtain ⟨_, h0⟩ := hp 0 _ _ rfl
    obtain ⟨_, h1⟩ := hp 1 _ _ rfl
    rw [c1] at h0 h1
    simp only [List.drop_zero, List.drop_succ_cons, List.take_succ_cons, List.take_zero] at h0 h1
    obtain ⟨a, e0, _, _⟩ := DataW.trod_int Tryz.underlying3 h0
    obtain ⟨b, e1, _, _⟩ := DataW.trod_int Tryz.underlying3 h1
    simp only [List.cons.injEq, and_true] at e0 e1
    subst e0 e1
    exact ⟨⟨a, b⟩, rfl⟩
theorem po_trod {n : Nat} {cs : List Value} {y : DataW H × List MemPlace} (h : DataW.trod enc Tryz.prog W 0 (fun _ => true) true n 25 cs = some y) : ∃ p : Po, cs = p.cells := by
  obtain ⟨hlen, m, hp⟩ := parts_trod poFields (by simp) h
  obtain ⟨c1, c8, _, _, c2, _, _, _, _, c11, _⟩ := cellsN
  rw [c11] at hlen
  match cs, hlen with
  | [v0, v1, v2, v3, v4, v5, v6, v7, v8, v9, v10], _ =>
    obtain ⟨_, h0⟩ := hp 0 _ _ rfl
    obtain ⟨_, h1⟩ := hp 1 _ _ rfl
    obtain ⟨_, h2⟩ := hp 2 _ _ rfl
    obtain ⟨_, h3⟩ := hp 3 _ _ rfl
    obtain ⟨_, h4⟩ := hp 4 _ _ rfl
    obtain ⟨_, h5⟩ := hp 5 _ _ rfl
    obtain ⟨_, h6⟩ := hp 6 _ _ rfl
    obtain ⟨_, h7⟩ := hp 7 _ _ rfl
    obtain ⟨_, h8⟩ := hp 8 _ _ rfl
    rw [c1] at h0 h1 h2 h4 h5 h8
    rw [c8] at h3
    rw [c2] at h6 h7
    simp only [List.drop_zero, List.drop_succ_cons, List.take_succ_cons, List.take_zero] at h0 h1 h2 h3 h4 h5 h6 h7 h8
    obtain ⟨a0, e0, _, _⟩ := DataW.trod_int Tryz.underlying3 h0
    obtain ⟨a1, e1, _, _⟩ := DataW.trod_int Tryz.underlying3 h1
    obtain ⟨a2, e2, _, _⟩ := DataW.trod_int Tryz.underlying3 h2
    obtain ⟨a3, e3, _, _⟩ := DataW.trod_int Tryz.underlying5 h3
    obtain ⟨a4, e4, _, _⟩ := DataW.trod_int Tryz.underlying3 h4
    obtain ⟨a5, e5, _, _⟩ := DataW.trod_int Tryz.underlying3 h5
    obtain ⟨r6, e6⟩ := rf_trod h6
    obtain ⟨r7, e7⟩ := rf_trod h7
    obtain ⟨a8, e8, _, _⟩ := DataW.trod_int Tryz.underlying3 h8
    simp only [Rf.cells, List.cons.injEq, and_true] at e0 e1 e2 e3 e4 e5 e6 e7 e8
    obtain ⟨rfl, rfl⟩ := e6
    obtain ⟨rfl, rfl⟩ := e7
    subst e0 e1 e2 e3 e4 e5 e8
    exact ⟨⟨a0, a1, a2, a3, a4, a5, r6, r7, a8⟩, rfl⟩
theorem st_trod {n : Nat} {cs : List Value} {y : DataW H × List MemPlace} (h : DataW.trod enc Tryz.prog W 0 (fun _ => true) true n 41 cs = some y) : ∃ a b c d e : Int, cs = [.int .i64 a, .int .i64 b, .int .i64 c, .int .i64 d, .int .i64 e] := by
  obtain ⟨hlen, m, hp⟩ := parts_trod stFields (by simp) h
  obtain ⟨c1, _, _, _, _, _, c5, _, c5', _⟩ := cellsN
  rw [c5] at hlen
  obtain ⟨_, h0⟩ := hp 0 _ _ rfl
  rw [c5'] at h0
  match cs, hlen with
  | [v0, v1, v2, v3, v4], _ =>
    simp only [List.drop_zero, List.drop_succ_cons, List.take_succ_cons, List.take_zero] at h0
    obtain ⟨xs, m', _, _, _, hxl, hget⟩ := DataW.trod_array arrInt h0
    rw [c1] at hget
    have each : ∀ i, i < 5 → ∃ y, DataW.trod enc Tryz.prog W 0 (fun _ => true) true m' 3 (([v0, v1, v2, v3, v4].drop (i * 1)).take 1) = some y := fun i hi => by
      rw [hget i hi, List.getElem?_eq_getElem (by rw [hxl]; exact hi)]
      exact ⟨_, rfl⟩
    obtain ⟨_, k0⟩ := each 0 (by omega)
    obtain ⟨_, k1⟩ := each 1 (by omega)
    obtain ⟨_, k2⟩ := each 2 (by omega)
    obtain ⟨_, k3⟩ := each 3 (by omega)
    obtain ⟨_, k4⟩ := each 4 (by omega)
    simp only [Nat.mul_one, List.drop_zero, List.drop_succ_cons, List.take_succ_cons, List.take_zero] at k0 k1 k2 k3 k4
    obtain ⟨a0, e0, _, _⟩ := DataW.trod_int Tryz.underlying3 k0
    obtain ⟨a1, e1, _, _⟩ := DataW.trod_int Tryz.underlying3 k1
    obtain ⟨a2, e2, _, _⟩ := DataW.trod_int Tryz.underlying3 k2
    obtain ⟨a3, e3, _, _⟩ := DataW.trod_int Tryz.underlying3 k3
    obtain ⟨a4, e4, _, _⟩ := DataW.trod_int Tryz.underlying3 k4
    simp only [List.cons.injEq, and_true] at e0 e1 e2 e3 e4
    subst e0 e1 e2 e3 e4
    exact ⟨a0, a1, a2, a3, a4, rfl⟩
theorem posts_trod {n : Nat} {v : Value} {y : DataW H × List MemPlace} (h : DataW.trod enc Tryz.prog W 0 (fun _ => true) true n 38 [v] = some y) :
    ∃ (a : Option Addr) (ps : List Po) (cap : Nat), v = .slice a ps.length cap ∧ ps.length ≤ maxLen ∧ PostsAt W W.heap.size a ps := by
  obtain ⟨_, _, _, _, _, _, _, _, _, c11, _⟩ := cellsN
  rcases open_slice rowPo h with ⟨hcs, _⟩ | ⟨a, len, cap, m, k, D, Pl, hcs, _, hl, hm, hmm, _, hall⟩
  · simp at hcs
    exact ⟨none, [], 0, hcs, by simp, fun i o h => by simp at h⟩
  · simp at hcs
    simp only [if_true] at hmm
    rw [c11, hmm] at hall
    have each : ∀ i, i < len → ∃ p : Po, ∀ j c, p.cells[j]? = some c → W.cell? (a.add (i * 11 + j)) = some c := fun i hi => by
      obtain ⟨cs', h1, h2⟩ := hall i (by omega)
      obtain ⟨p, rfl⟩ := po_trod h2
      obtain ⟨_, _, hcell⟩ := World.cells?_some h1
      refine ⟨p, fun j c hj => ?_⟩
      have hj5 : j < 11 := (List.getElem?_eq_some_iff.1 hj).1
      have := hcell j hj5
      rw [add_add] at this
      rw [this, hj]
    have hne : Nonempty Po := ⟨⟨0, 0, 0, 0, 0, 0, ⟨0, 0⟩, ⟨0, 0⟩, 0⟩⟩
    have hin : Inhabited Po := ⟨⟨0, 0, 0, 0, 0, 0, ⟨0, 0⟩, ⟨0, 0⟩, 0⟩⟩
    obtain ⟨f, hf⟩ := choose_lt each
    refine ⟨some a, (List.range len).map f, cap, by simpa using hcs, by simp; omega, fun i o hi => ?_⟩
    rw [List.getElem?_map] at hi
    have hil : i < len := by
      rcases Nat.lt_or_ge i len with h' | h'
      · exact h'
      · rw [List.getElem?_eq_none (by simpa using h')] at hi; cases hi
    rw [List.getElem?_range hil] at hi
    simp only [Option.map_some, Option.some.injEq] at hi
    subst hi
    have hc := hf i hil
    obtain ⟨b, fo, spot⟩ := a
    have h0 := hc 0 _ rfl
    have hspot : spot = none := by
      have := (hf 0 (by omega)) 0 _ rfl
      simpa [Addr.add] using World.cell?_spot this
    subst hspot
    refine ⟨b, fo, rfl, ?_, fun j c hj => ?_⟩
    · have := lt_of_cell h0
      have hb : ((⟨b, fo, none⟩ : Addr).add (i * 11 + 0)).block = b := by unfold Addr.add; split <;> rfl
      rwa [hb] at this
    · have := hc j c hj
      rw [Addr.add_lit] at this
      rw [Nat.add_assoc]
      exact this
theorem rv_trod {n : Nat} {cs : List Value} {y : DataW H × List MemPlace} (h : DataW.trod enc Tryz.prog W 0 (fun _ => true) true n 44 cs = some y) :
    ∃ o : RvOp, cs = o.cells ∧ PostsAt W W.heap.size o.pa o.ps := by
  obtain ⟨hlen, m, hp⟩ := parts_trod rvFields (by simp) h
  obtain ⟨c1, c8, cs1, cb, c2, cp, c5, cn, _, _, c17⟩ := cellsN
  rw [c17] at hlen
  match cs, hlen with
  | [v0, v1, v2, v3, v4, v5, v6, v7, v8, v9, v10, v11, v12, v13, v14, v15, v16], _ =>
    obtain ⟨_, h0⟩ := hp 0 _ _ rfl
    obtain ⟨_, h1⟩ := hp 1 _ _ rfl
    obtain ⟨_, h2⟩ := hp 2 _ _ rfl
    obtain ⟨_, h3⟩ := hp 3 _ _ rfl
    obtain ⟨_, h4⟩ := hp 4 _ _ rfl
    obtain ⟨_, h5⟩ := hp 5 _ _ rfl
    obtain ⟨_, h6⟩ := hp 6 _ _ rfl
    obtain ⟨_, h7⟩ := hp 7 _ _ rfl
    obtain ⟨_, h8⟩ := hp 8 _ _ rfl
    obtain ⟨_, h9⟩ := hp 9 _ _ rfl
    obtain ⟨_, h10⟩ := hp 10 _ _ rfl
    obtain ⟨_, h11⟩ := hp 11 _ _ rfl
    rw [c8] at h0
    rw [c1] at h1 h2 h5 h6 h7
    rw [cs1] at h3
    rw [cb] at h4
    rw [c2] at h8
    rw [cp] at h9
    rw [c5] at h10
    rw [cn] at h11
    simp only [List.drop_zero, List.drop_succ_cons, List.take_succ_cons, List.take_zero] at h0 h1 h2 h3 h4 h5 h6 h7 h8 h9 h10 h11
    obtain ⟨a0, e0, _, _⟩ := DataW.trod_int Tryz.underlying5 h0
    obtain ⟨a1, e1, _, _⟩ := DataW.trod_int Tryz.underlying3 h1
    obtain ⟨a2, e2, _, _⟩ := DataW.trod_int Tryz.underlying3 h2
    obtain ⟨s3, e3, _, _⟩ := DataW.trod_string Tryz.underlying9 h3
    obtain ⟨b4, e4, _⟩ := DataW.trod_bool Tryz.underlying4 h4
    obtain ⟨a5, e5, _, _⟩ := DataW.trod_int Tryz.underlying3 h5
    obtain ⟨a6, e6, _, _⟩ := DataW.trod_int Tryz.underlying3 h6
    obtain ⟨a7, e7, _, _⟩ := DataW.trod_int Tryz.underlying3 h7
    obtain ⟨r8, e8⟩ := rf_trod h8
    obtain ⟨pa, ps, pcap, e9, _, hps⟩ := posts_trod h9
    obtain ⟨t0, t1, t2, t3, t4, e10⟩ := st_trod h10
    obtain ⟨ka, kn, kcap, e11⟩ : ∃ ka kn kcap, v16 = .slice ka kn kcap := by
      rcases open_slice rowInt h11 with ⟨hcs, _⟩ | ⟨a, len, cap, m, k, D, Pl, hcs, _⟩
      · simp at hcs; exact ⟨none, 0, 0, hcs⟩
      · simp at hcs; exact ⟨some a, len, cap, hcs⟩
    simp only [Rf.cells, List.cons.injEq, and_true] at e0 e1 e2 e3 e4 e5 e6 e7 e8 e10
    obtain ⟨rfl, rfl⟩ := e8
    obtain ⟨rfl, rfl, rfl, rfl, rfl⟩ := e10
    subst e0 e1 e2 e3 e4 e5 e6 e7 e9 e11
    exact ⟨⟨a0, a1, a2, s3, b4, a5, a6, a7, r8, pa, ps, pcap, t0, t1, t2, t3, t4, ka, kn, kcap⟩, rfl, hps⟩
end
end Go.Proofs.YtocabeobfbhajaaGreatDoor
