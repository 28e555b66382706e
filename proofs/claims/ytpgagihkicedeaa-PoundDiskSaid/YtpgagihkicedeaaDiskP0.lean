/- The script of PoundDisk, opened. -/
import Derived.Test.YtpgagihkicedeaaStepF
import Derived.Test.YtpgagihkicedeaaOpen
import Derived.Deep.Slices
import Derived.ChangeSame
import Derived.KernelRfl
set_option linter.unusedSimpArgs false
set_option linter.unusedVariables false
namespace Go.Proofs.Ytpgagihkicedeaa
open Go Go.RowKit Go.ChangeShapes Go.WideShapes Go.Deep

def fieldsOf (d : TypeDesc) : List (Nat × TypeId) := match d with
  | .struct fs => fs.toList.map fun f => (f.offset, f.type)
  | _ => []
theorem fieldsDiskOp : (Try.prog.underlying 43).map fieldsOf = some [(0, 5), (1, 3), (2, 22), (3, 3), (4, 32)] := by kernel_rfl
theorem rowDiskOps : Try.prog.underlying 36 = some (.slice 43) := by kernel_rfl
theorem rowInts : Try.prog.underlying 32 = some (.slice 3) := by kernel_rfl
theorem cellsDiskOp : Try.prog.cellsOf 43 = 5 := by kernel_rfl
theorem cells1 : Try.prog.cellsOf 5 = 1 ∧ Try.prog.cellsOf 3 = 1 ∧ Try.prog.cellsOf 22 = 1 ∧ Try.prog.cellsOf 32 = 1 := by
  refine ⟨?_, ?_, ?_, ?_⟩ <;> kernel_rfl

section
variable {H : Type} {enc : TypeId × Value → H} {W : World}

theorem bytes_trod {n : Nat} {v : Value} {y : DataW H × List MemPlace} (h : DataW.trod enc Try.prog W 0 (fun _ => true) true n 22 [v] = some y) :
    ∃ (a : Option Addr) (s : List UInt8) (cap : Nat), v = .slice a s.length cap ∧ s.length ≤ maxLen ∧ BytesAt W a s := by
  obtain ⟨a, l, c, zs, rfl, hr⟩ : ∃ a l c zs, v = .slice a l c ∧ IsRow .u8 W a l c zs := by
    rcases open_ints Try.underlying22 Try.underlying5 (by kernel_rfl) h with ⟨hcs, _⟩ | ⟨x, l, c, zs, hcs, _, hl, hm, hz, _, hcell, hwz⟩
    · simp at hcs; exact ⟨none, 0, 0, [], hcs, .inl ⟨rfl, rfl, rfl, rfl⟩⟩
    · simp at hcs; exact ⟨some x, l, c, zs, hcs, .inr ⟨_, rfl, hl, hm, by simpa using hz, hcell, hwz⟩⟩
  obtain ⟨s, rfl, hm, hb⟩ := bytes_of_row hr
  exact ⟨a, s, c, rfl, hm, hb⟩

theorem ints_trod {n : Nat} {v : Value} {y : DataW H × List MemPlace} (h : DataW.trod enc Try.prog W 0 (fun _ => true) true n 32 [v] = some y) :
    ∃ (a : Option Addr) (l : List Int) (cap : Nat), v = .slice a l.length cap ∧ l.length ≤ maxLen ∧ IntsAt W a l ∧ ∀ n ∈ l, -9223372036854775808 ≤ n ∧ n ≤ 9223372036854775807 := by
  rcases open_ints rowInts Try.underlying3 (by kernel_rfl) h with ⟨hcs, _⟩ | ⟨x, l, c, zs, hcs, _, hl, hm, hz, _, hcell, hwz⟩
  · simp at hcs
    exact ⟨none, [], 0, hcs, by simp, fun j n h => by simp at h, fun n h => by simp at h⟩
  · simp at hcs
    simp at hz
    have hlen : (zs.take l).length = l := by simp; omega
    refine ⟨some x, zs.take l, c, by rw [hlen]; exact hcs, by omega, fun j n hj => ⟨x, rfl, ?_⟩, fun n hn => bounds_i64 (hwz n (List.mem_of_mem_take hn))⟩
    rw [List.getElem?_take] at hj
    split at hj
    · have hjz : j < zs.length := by omega
      rw [hcell j hjz, getD_lt hjz]
      rw [List.getElem?_eq_getElem hjz] at hj
      simp only [Option.some.injEq] at hj
      rw [hj]
    · cases hj

theorem intsAt_lt {w : World} {a : Option Addr} {l : List Int} (h : IntsAt w a l) (hl : l ≠ []) : ∀ x, a = some x → x.block < w.heap.size := by
  intro x hx
  cases l with
  | nil => exact absurd rfl hl
  | cons n l =>
    obtain ⟨y, hy, hc⟩ := h 0 n rfl
    rw [hx] at hy
    cases hy
    have := block_lt_of_cell hc
    simpa [Addr.add] using this

theorem op_of_trod {n : Nat} {cs : List Value} {y : DataW H × List MemPlace} (h : DataW.trod enc Try.prog W 0 (fun _ => true) true n 43 cs = some y) : ∃ o : OpIn, cs = o.vals ∧ OpOk W W.heap.size o := by
  have hf := fieldsDiskOp
  cases hu : Try.prog.underlying 43 with
  | none => rw [hu] at hf; cases hf
  | some d =>
    rw [hu] at hf
    simp only [Option.map_some, Option.some.injEq] at hf
    cases d with
    | struct fs =>
      simp only [fieldsOf] at hf
      obtain ⟨xs, m, _, _, hlen, hxl, hget⟩ := DataW.trod_struct hu h
      rw [cellsDiskOp] at hlen
      have hs : fs.size = 5 := by
        have := congrArg List.length hf
        simpa using this
      obtain ⟨k0, k1, k2, k3⟩ := cells1
      have at5 : ∀ (i : Nat) (o : Nat) (t : TypeId), ([(0, 5), (1, 3), (2, 22), (3, 3), (4, 32)] : List (Nat × TypeId))[i]? = some (o, t) → ∃ y, DataW.trod enc Try.prog W 0 (fun _ => true) true m t ((cs.drop o).take (Try.prog.cellsOf t)) = some y := by
        intro i o t hi
        rw [← hf] at hi
        rw [List.getElem?_map] at hi
        cases hfi : fs.toList[i]? with
        | none => rw [hfi] at hi; cases hi
        | some f =>
          rw [hfi] at hi
          simp only [Option.map_some, Option.some.injEq, Prod.mk.injEq] at hi
          obtain ⟨rfl, rfl⟩ := hi
          have h2 := hget i f (by simpa using hfi)
          have hil : i < xs.length := by
            rw [hxl]
            have := (List.getElem?_eq_some_iff.1 hfi).1
            simpa using this
          rw [h2, List.getElem?_eq_getElem hil]
          exact ⟨_, rfl⟩
      match cs, hlen with
      | [v0, v1, v2, v3, v4], _ =>
        obtain ⟨y0, h0⟩ := at5 0 _ _ rfl
        obtain ⟨y1, h1⟩ := at5 1 _ _ rfl
        obtain ⟨y2, h2⟩ := at5 2 _ _ rfl
        obtain ⟨y3, h3⟩ := at5 3 _ _ rfl
        obtain ⟨y4, h4⟩ := at5 4 _ _ rfl
        rw [k0] at h0
        rw [k1] at h1 h3
        rw [k2] at h2
        rw [k3] at h4
        simp only [List.drop_zero, List.drop_succ_cons, List.take_succ_cons, List.take_zero] at h0 h1 h2 h3 h4
        obtain ⟨kd, e0, _, w0⟩ := DataW.trod_int Try.underlying5 h0
        obtain ⟨at_, e1, _, w1⟩ := DataW.trod_int Try.underlying3 h1
        obtain ⟨nn, e3, _, w3⟩ := DataW.trod_int Try.underlying3 h3
        obtain ⟨a, s, cap, e2, hm, hb⟩ := bytes_trod h2
        obtain ⟨ka, keep, kcap, e4, hkm, hkb, hkr⟩ := ints_trod h4
        simp only [List.cons.injEq, and_true] at e0 e1 e3
        subst e0 e1 e2 e3 e4
        refine ⟨⟨kd, at_, nn, a, s, cap, ka, keep, kcap⟩, rfl, bounds_u8 w0, (bounds_i64 w3).2, hb, hm, fun h0 x hx => ?_, hkb, hkm, fun h0 => intsAt_lt hkb h0, hkr⟩
        obtain ⟨y, hy, hl⟩ := hb.lt h0
        simp only at hx
        rw [hx] at hy; cases hy; exact hl
    | _ => simp [fieldsOf] at hf

theorem script_of_trod {n : Nat} {v : Value} {y : DataW H × List MemPlace} (h : DataW.trod enc Try.prog W 0 (fun _ => true) true n 36 [v] = some y) :
    ∃ (sa : Option Addr) (os : List OpIn) (cap : Nat), v = .slice sa os.length cap ∧ os.length ≤ maxLen ∧ ScriptAt W W.heap.size sa os := by
  rcases open_slice rowDiskOps h with ⟨hcs, _⟩ | ⟨a, len, cap, m, k, D, Pl, hcs, _, hl, hm, hmm, _, hall⟩
  · simp at hcs
    exact ⟨none, [], 0, hcs, by simp, fun i o h => by simp at h⟩
  · simp at hcs
    simp only [if_true] at hmm
    rw [cellsDiskOp, hmm] at hall
    have each : ∀ i, i < len → ∃ o : OpIn, OpOk W W.heap.size o ∧ ∀ j c, o.vals[j]? = some c → W.cell? (a.add (i * 5 + j)) = some c := fun i hi => by
      obtain ⟨cs', h1, h2⟩ := hall i (by omega)
      obtain ⟨o, rfl, hok⟩ := op_of_trod h2
      obtain ⟨_, _, hcell⟩ := World.cells?_some h1
      refine ⟨o, hok, fun j c hj => ?_⟩
      have hj5 : j < 5 := (List.getElem?_eq_some_iff.1 hj).1
      have := hcell j hj5
      rw [add_add] at this
      rw [this, hj]
    have hne : Nonempty OpIn := ⟨⟨0, 0, 0, none, [], 0, none, [], 0⟩⟩
    have : Inhabited OpIn := ⟨⟨0, 0, 0, none, [], 0, none, [], 0⟩⟩
    obtain ⟨f, hf⟩ := choose_lt each
    refine ⟨some a, (List.range len).map f, cap, by simpa using hcs, by simp; omega, fun i o hi => ?_⟩
    rw [List.getElem?_map] at hi
    have hil : i < len := by
      rcases Nat.lt_or_ge i len with h' | h'
      · exact h'
      · rw [List.getElem?_eq_none (by simpa using h')] at hi; cases hi
    rw [List.getElem?_range hil] at hi
    simp only [Option.map_some, Option.some.injEq] at hi
    subst hi
    obtain ⟨hok, hc⟩ := hf i hil
    obtain ⟨b, fo, spot⟩ := a
    have h0 := hc 0 _ rfl
    have hspot : spot = none := by
      have := (hf 0 (by omega)).2 0 _ rfl
      simpa [Addr.add] using World.cell?_spot this
    subst hspot
    refine ⟨b, fo, rfl, ?_, fun j c hj => ?_, hok⟩
    · have := block_lt_of_cell h0
      have hb : ((⟨b, fo, none⟩ : Addr).add (i * 5 + 0)).block = b := by unfold Addr.add; split <;> rfl
      rwa [hb] at this
    · have := hc j c hj
      rw [Addr.add_lit] at this
      rw [Nat.add_assoc]
      exact this
end
end Go.Proofs.Ytpgagihkicedeaa
