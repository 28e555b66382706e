/- Contracts of (*Disk).Write at every input, of (*Disk).Stop and (*Disk).Read of package pound. -/
import Derived.Test.YtpgagihkicedeaaDiskC
set_option linter.unusedSimpArgs false
set_option linter.unusedVariables false
namespace Go.Proofs.Ytpgagihkicedeaa
open Go Go.RowKit

theorem DiskPost.same {d : DLoc} {D D' : Dk} {v : Value} {w w' : World} (h : DiskAt w' d D) (hc : Chg d.F w w') (hD : D' = D) : DiskPost d D' v w (.returned v) w' :=
  ⟨rfl, d, rfl, hD ▸ h, hc, fun k hk => .inl hk⟩

set_option maxHeartbeats 1000000 in
theorem write_any {w : World} {d : DLoc} {D : Dk} (h : DiskAt w d D) (at_ : Int) (s : List UInt8) (a : Option Addr) (cap : Nat) (ha : BytesAt w a s) (hm : s.length ≤ maxLen) (haF : s ≠ [] → ∀ x, a = some x → ¬ d.F x.block)
    (hf : D.pend.length < 1000000000) :
    Calls Try.prog 7 #[.pointer (some ⟨d.b, 0, none⟩), .int .i64 at_, .slice a s.length cap] w (DiskPost d (D.write at_ s).1 (.int .i64 (D.write at_ s).2) w) := by
  unfold maxLen at hm
  have H1 := hid (place_any h at_)
  have H2 := hid (power_any h)
  by_cases hp : D.place at_ = 0
  · have hin : D.down = false ∧ 0 ≤ at_ ∧ at_ < D.now.length := by
      unfold Dk.place at hp
      split at hp
      · omega
      · split at hp
        · omega
        · rename_i hd _; exact ⟨by simpa using hd, by omega, by omega⟩
    obtain ⟨i, rfl⟩ := Int.eq_ofNat_of_zero_le hin.2.1
    by_cases hs : s.length ≤ 64
    · by_cases hq : D.power.2 = true
      · have e : D.write i s = (D.power.1.put i s, 0) := by simp [Dk.write, hp, hq]; omega
        rw [e]
        exact write_ok h i (by omega) s a cap hs ha haF hp hq hf
      · have hq' : D.power.2 = false := by simpa using hq
        have e : Hid (D.write i s = (D.power.1, 90)) := by simp [Hid, Dk.write, hp, hq']; omega
        have HP := hid hp
        have HQ := hid hq'
        have h3 : ((s.length : Nat) : Int) ≤ 64 := by omega
        clear hp hq hq' hin
        go_enter Try.func7, Try.ntmps7
        go_wp2_with (go_at_call 15; refine H1.out.mono ?_; rintro e w' ⟨rfl, rfl⟩; rw [HP.out])
        refine H2.out.mono ?_
        rintro e w1 ⟨rfl, hd1, hc1⟩
        rw [HQ.out]
        go_wp2_with fail
        go_ret
        rw [e.out]
        exact DiskPost.same hd1 hc1 rfl
    · have e : Hid (D.write i s = (D, 2)) := by simp [Hid, Dk.write, hp]; omega
      have HP := hid hp
      have h3 : (64 : Int) < ((s.length : Nat) : Int) := by omega
      clear hp hin
      go_enter Try.func7, Try.ntmps7
      go_wp2_with (go_at_call 15; refine H1.out.mono ?_; rintro e w' ⟨rfl, rfl⟩; rw [HP.out])
      go_ret
      rw [e.out]
      exact DiskPost.same h (Chg.refl _ _) rfl
  · have e : Hid (D.write at_ s = (D, D.place at_)) := by simp [Hid, Dk.write, hp]
    have hb : ((D.place at_) != 0) = true := by simpa using hp
    have HB := hid hp
    clear hp
    go_enter Try.func7, Try.ntmps7
    go_wp2_with (go_at_call 15; refine H1.out.mono ?_; rintro e w' ⟨rfl, rfl⟩)
    go_ret
    rw [e.out]
    exact DiskPost.same h (Chg.refl _ _) rfl

def Dk.stop (D : Dk) (n : Int) : Dk × Int := if D.down then (D, 90) else if n < 0 then (D, 1) else ({ D with fuse := n }, 0)

/-- A disk's last two fields are written. -/
theorem DiskAt.field {w : World} {d : DLoc} {D : Dk} (h : DiskAt w d D) (i : Nat) (v : Value) (D' : Dk) (e1 : D'.las = D.las) (e2 : D'.now = D.now) (e3 : D'.pend = D.pend) (e4 : -1 ≤ D'.fuse) (e5 : D'.fuse ≤ 9223372036854775807)
    (e6 : (dcells d D.now.length D.down D.fuse).setIfInBounds i v = dcells d D.now.length D'.down D'.fuse) : DiskAt (w.setCell ⟨d.b, i, none⟩ v) d D' ∧ Chg d.F w (w.setCell ⟨d.b, i, none⟩ v) := by
  have hok := h.ok
  have hc : Chg (fun k => k = d.b) w (w.setCell ⟨d.b, i, none⟩ v) := Chg.one _ _ _ _
  have other : ∀ k o, w.heap[k]? = some o → d.b ≠ k → (w.setCell ⟨d.b, i, none⟩ v).heap[k]? = some o := fun k o hk hne => (hc.block k (lt_of_block hk) (fun e => hne e.symm)).trans hk
  refine ⟨⟨⟨by rw [e1, e2]; exact hok.len, by rw [e2]; exact hok.lo, by rw [e2]; exact hok.hi, by rw [e1]; exact hok.las64, by rw [e2]; exact hok.now64, by rw [e3, e2]; exact hok.pend64, by rw [e3]; exact hok.few, e4, e5⟩, ?_, ?_, ?_, ?_, h.nbl, h.nbn, h.nln, h.npb, h.npl, h.npn⟩, hc.mono (fun _ _ e => .inl e)⟩
  · rw [heap_setCell_lit h.hb, e2, e6]
  · rw [e1]; exact other _ _ h.hl h.nbl
  · rw [e2]; exact other _ _ h.hn h.nbn
  · rw [e3]
    exact h.hp.kept (row := some d.b) ⟨rfl, rfl, rfl, by simp [World.setCell], fun k hk hne => Below.heap_setCell _ _ _ _ (fun e => hne (by rw [e]))⟩ (.inr h.npb)

set_option maxHeartbeats 400000 in
theorem stop_any {w : World} {d : DLoc} {D : Dk} (h : DiskAt w d D) (n : Int) (hn : n ≤ 9223372036854775807) :
    Calls Try.prog 23 #[.pointer (some ⟨d.b, 0, none⟩), .int .i64 n] w (DiskPost d (D.stop n).1 (.int .i64 (D.stop n).2) w) := by
  have hs := state_any h
  obtain ⟨c0, c1, c2, c3, c4, cf⟩ := h.cells
  have f4 := cf 4
  clear cf
  cases hd : D.down
  · rw [hd] at hs c3
    simp only [Bool.false_eq_true, ↓reduceIte] at hs
    have hS := hid hs
    by_cases h1 : n < 0
    · have e : Hid (D.stop n = (D, 1)) := by simp [Hid, Dk.stop, hd, h1]
      clear hs hd
      go_enter Try.func23, Try.ntmps23
      go_wp2_with (go_at_call 17; refine hS.out.mono ?_; rintro e w' ⟨rfl, rfl⟩)
      go_ret
      rw [e.out]
      exact DiskPost.same h (Chg.refl _ _) rfl
    · have e : Hid (D.stop n = ({ D with fuse := n }, 0)) := by simp [Hid, Dk.stop, hd, h1]
      clear hs hd
      go_enter Try.func23, Try.ntmps23
      go_wp2_with (go_at_call 17; refine hS.out.mono ?_; rintro e w' ⟨rfl, rfl⟩)
      go_ret
      rw [e.out]
      obtain ⟨g1, g2⟩ := h.field 4 (.int .i64 n) { D with fuse := n } rfl rfl rfl (by simp; omega) hn (by simp [dcells])
      exact DiskPost.same g1 g2 rfl
  · have e : Hid (D.stop n = (D, 90)) := by simp [Hid, Dk.stop, hd]
    rw [hd] at hs c3
    simp only [↓reduceIte] at hs
    have hS := hid hs
    clear hs hd
    go_enter Try.func23, Try.ntmps23
    go_wp2_with (go_at_call 17; refine hS.out.mono ?_; rintro e w' ⟨rfl, rfl⟩)
    go_ret
    rw [e.out]
    exact DiskPost.same h (Chg.refl _ _) rfl
end Go.Proofs.Ytpgagihkicedeaa
