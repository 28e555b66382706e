/- Whatever step; the script in memory; small. -/
import Derived.Test.YtpgagihkicedeaaStepD
set_option linter.unusedSimpArgs false
set_option linter.unusedVariables false
namespace Go.Proofs.Ytpgagihkicedeaa
open Go Go.RowKit

/-- An operation of the script. -/
structure OpIn where
  kd : Int
  at_ : Int
  n : Int
  a : Option Addr
  s : List UInt8
  cap : Nat
  ka : Option Addr
  keep : List Int
  kcap : Nat
def OpIn.vals (o : OpIn) : List Value := [.int .u8 o.kd, .int .i64 o.at_, .slice o.a o.s.length o.cap, .int .i64 o.n, .slice o.ka o.keep.length o.kcap]
structure OpOk (w : World) (B : Nat) (o : OpIn) : Prop where
  kd : 0 ≤ o.kd ∧ o.kd ≤ 255
  n : o.n ≤ 9223372036854775807
  ha : BytesAt w o.a o.s
  hm : o.s.length ≤ maxLen
  aB : o.s ≠ [] → ∀ x, o.a = some x → x.block < B
  hka : IntsAt w o.ka o.keep
  hkm : o.keep.length ≤ maxLen
  kB : o.keep ≠ [] → ∀ x, o.ka = some x → x.block < B
  kr : ∀ n ∈ o.keep, -9223372036854775808 ≤ n ∧ n ≤ 9223372036854775807
theorem OpOk.chg {w w' : World} {B : Nat} {o : OpIn} (h : OpOk w B o) {F : Nat → Prop} (hc : Chg F w w') (hF : ∀ k, F k → B ≤ k) : OpOk w' B o :=
  { h with
    ha := h.ha.chg hc (fun h0 x hx hf => by have := h.aB h0 x hx; have := hF _ hf; omega)
    hka := h.hka.chg hc (fun h0 x hx hf => by have := h.kB h0 x hx; have := hF _ hf; omega) }

theorem step_any {w : World} {d : DLoc} {r : RLoc} {D : Dk} (h : Two w d r D) {B : Nat} {o : OpIn} (ho : OpOk w B o) (hd : ∀ k, d.F k → B ≤ k) (hr : ∀ k, r.F k → B ≤ k) (hf : D.pend.length < 1000000000) :
    Calls Try.prog 14 #[.pointer (some ⟨d.b, 0, none⟩), .pointer (some ⟨r.b, 0, none⟩), .agg o.vals.toArray] w (StepPost d r D w) := by
  have hk := ho.kd
  have h5 : o.kd % 5 = 0 ∨ o.kd % 5 = 1 ∨ o.kd % 5 = 2 ∨ o.kd % 5 = 3 ∨ o.kd % 5 = 4 := by omega
  rcases h5 with h5 | h5 | h5 | h5 | h5
  · exact step_read h o.kd o.at_ o.n hk _ _ h5
  · exact step_write h o.kd o.at_ o.n hk o.a o.s o.cap ho.ha ho.hm (fun h0 x hx hF => by have := ho.aB h0 x hx; have := hd _ hF; omega) _ hf h5
  · exact step_flush h o.kd o.at_ o.n hk _ _ h5
  · exact step_stop h o.kd o.at_ o.n hk ho.n _ _ h5
  · exact step_crash h o.kd o.at_ o.n hk o.keep o.ka o.kcap ho.hka ho.hkm (fun h0 x hx => ⟨fun hF => by have := ho.kB h0 x hx; have := hd _ hF; omega, fun hF => by have := ho.kB h0 x hx; have := hr _ hF; omega⟩) ho.kr _ h5

/-- The script in memory. -/
def ScriptAt (w : World) (B : Nat) (sa : Option Addr) (os : List OpIn) : Prop :=
  ∀ i o, os[i]? = some o → ∃ b f, sa = some ⟨b, f, none⟩ ∧ b < B ∧ (∀ j c, o.vals[j]? = some c → w.cell? ⟨b, f + i * 5 + j, none⟩ = some c) ∧ OpOk w B o
theorem ScriptAt.chg {w w' : World} {B : Nat} {sa : Option Addr} {os : List OpIn} (h : ScriptAt w B sa os) {F : Nat → Prop} (hc : Chg F w w') (hF : ∀ k, F k → B ≤ k) : ScriptAt w' B sa os := fun i o hi => by
  obtain ⟨b, f, h1, h2, h3, h4⟩ := h i o hi
  exact ⟨b, f, h1, h2, fun j c hj => hc.cell (h3 j c hj) (fun hf => by have := hF _ hf; simp at this; omega), h4.chg hc hF⟩
theorem ScriptAt.cells {w : World} {B : Nat} {sa : Option Addr} {os : List OpIn} (h : ScriptAt w B sa os) {i : Nat} (hi : i < os.length) : ∃ b f, sa = some ⟨b, f, none⟩ ∧ b < B ∧ OpOk w B os[i] ∧
    w.cell? ⟨b, f + i * 5, none⟩ = some (.int .u8 os[i].kd) ∧ w.cell? ⟨b, f + i * 5 + 1, none⟩ = some (.int .i64 os[i].at_) ∧ w.cell? ⟨b, f + i * 5 + 2, none⟩ = some (.slice os[i].a os[i].s.length os[i].cap) ∧
    w.cell? ⟨b, f + i * 5 + 3, none⟩ = some (.int .i64 os[i].n) ∧ w.cell? ⟨b, f + i * 5 + 4, none⟩ = some (.slice os[i].ka os[i].keep.length os[i].kcap) := by
  obtain ⟨b, f, h1, h2, h3, h4⟩ := h i os[i] (List.getElem?_eq_getElem hi)
  exact ⟨b, f, h1, h2, h4, h3 0 _ rfl, h3 1 _ rfl, h3 2 _ rfl, h3 3 _ rfl, h3 4 _ rfl⟩

def smallOp (o : OpIn) : Bool := decide (o.s.length ≤ 200) && decide (o.keep.length ≤ 200)
def smallS (os : List OpIn) : Bool := decide (os.length ≤ 200) && os.all smallOp

set_option maxHeartbeats 1000000 in
theorem small_any {w : World} {B : Nat} {sa : Option Addr} {os : List OpIn} (h : ScriptAt w B sa os) (cap : Nat) (hm : os.length ≤ maxLen) :
    Calls Try.prog 12 #[.slice sa os.length cap] w fun e w' => e = .returned (.bool (smallS os)) ∧ w = w' := by
  unfold maxLen at hm
  by_cases hl : 200 < os.length
  · have h1 : (200 : Int) < (os.length : Int) := by omega
    have e : Hid (smallS os = false) := by simp [Hid, smallS]; omega
    clear h
    go_enter Try.func12, Try.ntmps12
    go_wp2
    go_ret
    exact ⟨by rw [e.out]; rfl, rfl⟩
  have h1 : (os.length : Int) ≤ 200 := by omega
  go_enter Try.func12, Try.ntmps12
  go_wp2
  go_loop [3] (fun c => ∃ k : Nat, k ≤ os.length ∧ c = .int .i64 k ∧ (os.take k).all smallOp = true) (fun c => os.length - (intOf c).toNat)
  case atStart => exact ⟨0, Nat.zero_le _, rfl, by simp⟩
  case round =>
    obtain ⟨k, hk, rfl, hall⟩ := hrel
    by_cases hlt : k < os.length
    · obtain ⟨b, f, hsa, _, hok, y0, y1, y2, y3, y4⟩ := h.cells hlt
      have hm1 := hok.hm
      have hm2 := hok.hkm
      unfold maxLen at hm1 hm2
      have hk1 : ((k : Nat) : Int) < (os.length : Int) := by omega
      have hk0 : (0 : Int) ≤ (k : Int) := by omega
      rw [hsa]
      have hs := List.take_succ_eq_append_getElem hlt
      have e1 : Hid (((os.take (k + 1)).all smallOp) = ((os.take k).all smallOp && smallOp os[k])) := by rw [Hid, hs, List.all_append]; simp only [List.all_cons, List.all_nil, Bool.and_true]
      have e2 : Hid (smallOp os[k] = false → smallS os = false) := by
        intro h0
        simp only [smallS, Bool.and_eq_false_imp]
        intro _
        rw [List.all_eq_false]
        exact ⟨os[k], List.getElem_mem _, by simp [h0]⟩
      have HA := hid hall
      generalize os[k] = o at *
      have HO : Hid (smallOp o = (decide (o.s.length ≤ 200) && decide (o.keep.length ≤ 200))) := rfl
      clear hs hall hok h
      by_cases q1 : o.s.length ≤ 200
      · have q1' : (o.s.length : Int) ≤ 200 := by omega
        by_cases q2 : o.keep.length ≤ 200
        · have q2' : (o.keep.length : Int) ≤ 200 := by omega
          have HR : Hid ((os.take (k + 1)).all smallOp = true) := by rw [Hid, e1.out, HA.out, HO.out, decide_eq_true q1, decide_eq_true q2]; rfl
          go_wp2
          go_round
          case rel => exact ⟨k + 1, by omega, by go_num, HR.out⟩
          case measure => simp [intOf]; omega
        · have q2' : (200 : Int) < (o.keep.length : Int) := by omega
          have HR := hid (e2.out (by rw [HO.out, decide_eq_false q2, Bool.and_false]))
          clear e2 HO
          go_wp2
          go_ret
          exact ⟨by rw [HR.out]; rfl, rfl⟩
      · have q1' : (200 : Int) < (o.s.length : Int) := by omega
        have HR := hid (e2.out (by rw [HO.out, decide_eq_false q1, Bool.false_and]))
        clear e2 HO
        go_wp2
        go_ret
        exact ⟨by rw [HR.out]; rfl, rfl⟩
    · have hkn : k = os.length := by omega
      subst hkn
      rw [List.take_length] at hall
      have e : Hid (smallS os = true) := by simp only [Hid, smallS, hall]; simp; omega
      clear h hall
      go_wp2
      go_ret
      exact ⟨by rw [e.out]; rfl, rfl⟩
end Go.Proofs.Ytpgagihkicedeaa
