/- The reckoner: functions of the library without a body: bytes counted, a byte sought. No program is named here. -/
import Derived.Test.YtocabeobfbhajaaGreatDoorSxRe
import Derived.Lib.Bytealg
import Derived.Laws.Externs
set_option linter.unusedVariables false
set_option linter.unusedSimpArgs false
namespace Go.Proofs.YtocabeobfbhajaaGreatDoor.Sx
noncomputable section
open Go Go.RowKit

noncomputable def cntA (N c n : Nat) : Nat := Nat.rec (motive := fun _ => Nat) 0 (fun i ih => Bool.rec (motive := fun _ => Nat) ih (Nat.succ ih) (Nat.beq (bget N i) c)) n
noncomputable def ixbA (N c n : Nat) : Nat → Int := Nat.rec (motive := fun _ => Nat → Int) (fun _ => .negSucc 0) (fun _ ih i => Bool.rec (motive := fun _ => Int) (ih (Nat.succ i)) (.ofNat i) (Nat.beq (bget N i) c)) n
theorem unpack_map (n N : Nat) : unpack n N = (List.range n).map fun i => UInt8.ofNat (bget N i) := by
  apply List.ext_getElem?
  intro i
  rcases Nat.lt_or_ge i n with h | h
  · rw [unpack_bget n N i h, List.getElem?_map, List.getElem?_range h]; rfl
  · rw [List.getElem?_eq_none (by rw [unpack_length]; exact h), List.getElem?_eq_none (by simpa using h)]
theorem beq_byte {a b : Nat} (ha : a < 256) (hb : b < 256) : (UInt8.ofNat a == UInt8.ofNat b) = Nat.beq a b := by
  cases h : Nat.beq a b with
  | true => rw [Nat.eq_of_beq_eq_true h]; simp
  | false =>
    have hne := beq_false_ne h
    simp only [beq_eq_false_iff_ne, ne_eq]
    intro e
    have := congrArg UInt8.toNat e
    simp at this
    omega
theorem cntA_ok (N c : Nat) (hc : c < 256) : ∀ n, cntA N c n = Lib.countByte (unpack n N) (UInt8.ofNat c)
  | 0 => by rw [unpack_map]; rfl
  | n + 1 => by
    have ih := cntA_ok N c hc n
    rw [unpack_map] at ih ⊢
    unfold Lib.countByte at ih ⊢
    rw [List.range_succ, List.map_append, List.count_append, ← ih]
    show Bool.rec (motive := fun _ => Nat) (cntA N c n) (Nat.succ (cntA N c n)) (Nat.beq (bget N n) c) = _
    simp only [List.map_cons, List.map_nil, List.count_cons, List.count_nil, beq_byte (bget_lt N n) hc]
    cases Nat.beq (bget N n) c <;> simp
theorem ixbA_ok (N c : Nat) (hc : c < 256) : ∀ n i, ixbA N c n i = (if Lib.indexByte ((List.range' i n).map fun i => UInt8.ofNat (bget N i)) (UInt8.ofNat c) = -1 then -1 else Lib.indexByte ((List.range' i n).map fun i => UInt8.ofNat (bget N i)) (UInt8.ofNat c) + i)
  | 0, i => rfl
  | n + 1, i => by
    have ih := ixbA_ok N c hc n (i + 1)
    show Bool.rec (motive := fun _ => Int) (ixbA N c n (Nat.succ i)) (.ofNat i) (Nat.beq (bget N i) c) = _
    simp only [List.range'_succ, List.map_cons, Lib.indexByte, beq_byte (bget_lt N i) hc]
    cases Nat.beq (bget N i) c with
    | true => simp
    | false =>
      simp only [Bool.false_eq_true, if_false]
      rw [show Nat.succ i = i + 1 from rfl, ih]
      have hge := Lib.indexByte_ge ((List.range' (i + 1) n).map fun i => UInt8.ofNat (bget N i)) (UInt8.ofNat c)
      generalize Lib.indexByte ((List.range' (i + 1) n).map fun i => UInt8.ofNat (bget N i)) (UInt8.ofNat c) = q at hge ⊢
      by_cases hq : q = -1
      · subst hq; simp
      · simp only [hq, if_false, beq_iff_eq]
        rw [if_neg (by omega)]
        omega
noncomputable def bytesX (ic ix f : Nat) (vs : List AV) : R AV := match vs with
  | [.str n N, .int .u8 (.ofNat c)] => match Nat.ble c 255 with
    | true => match Nat.beq f ic with
      | true => .ok (.int .i64 (.ofNat (cntA N c n)))
      | false => match Nat.beq f ix with
        | true => .ok (.int .i64 (ixbA N c n 0))
        | false => .no 990
    | false => .no 991
  | _ => .no 992
def ExtF (P : Program) (f : Nat) (e : Array Value → Sem Value) : Prop := ∃ fn, P.funcs[f]? = some fn ∧ (fn.name == "runtime.NumGoroutine") = false ∧ fn.body.isNone = true ∧ Extern.findNext fn = none ∧ Extern.find fn = some e
theorem bytesX_ok {P : Program} {ic ix f : Nat} {vs : List AV} {v : AV} (hc : ExtF P ic Extern.BytealgCount.count) (hx : ExtF P ix Extern.BytealgIndexByte.indexByte) (h : bytesX ic ix f vs = .ok v) {σ : Sg} {xs : List Value} (hv : Vs σ vs xs) (w : World) :
    ∃ x, (callFunc f xs.toArray).run P w = .ok (.value x) w ∧ V σ v x := by
  unfold bytesX at h
  split at h
  case h_2 => cases h
  rename_i n N c
  split at h
  case h_2 => cases h
  rename_i hb
  have hc' : c < 256 := by have := Nat.le_of_ble_eq_true hb; omega
  simp only [Vs, V] at hv
  obtain ⟨x1, l1, rfl, rfl, x2, l2, rfl, rfl, rfl⟩ := hv
  have hcc : ((Int.ofNat c).toNat).toUInt8 = UInt8.ofNat c := rfl
  split at h
  · rename_i hf
    have := Nat.eq_of_beq_eq_true hf
    subst this
    cases h
    obtain ⟨fn, a1, a2, a3, a4, a5⟩ := hc
    rw [run_callFunc_extern a1 a2 a3 a4 a5, Lib.run_countString]
    refine ⟨_, rfl, ?_⟩
    simp only [V]
    rw [cntA_ok N c hc' n, hcc]
    rfl
  · split at h
    case h_2 => cases h
    rename_i hf
    have := Nat.eq_of_beq_eq_true hf
    subst this
    cases h
    obtain ⟨fn, a1, a2, a3, a4, a5⟩ := hx
    rw [run_callFunc_extern a1 a2 a3 a4 a5, Lib.run_indexByteString]
    refine ⟨_, rfl, ?_⟩
    simp only [V]
    rw [ixbA_ok N c hc' n 0, hcc, unpack_map, List.range_eq_range']
    congr 1
    simp only [Int.ofNat_zero, Int.add_zero]
    split
    · rename_i e; exact e
    · rfl
end
end Go.Proofs.YtocabeobfbhajaaGreatDoor.Sx
