/- Contracts of (*couchantref09.Disk).Write at every input, of Stop and Read. -/
import Derived.Test.YtpgagihkicedeaaRefB
set_option linter.unusedSimpArgs false
set_option linter.unusedVariables false
namespace Go.Proofs.Ytpgagihkicedeaa
open Go Go.RowKit

set_option maxHeartbeats 1000000 in
theorem rwrite_any {w : World} {r : RLoc} {D : Dk} (h : RefAt w r D) (at_ : Int) (s : List UInt8) (hm : s.length ≤ maxLen) (hf : D.pend.length < 1000000000) :
    Calls Try.prog 21 #[.pointer (some ⟨r.b, 0, none⟩), .int .i64 at_, sv s] w (RefPost r (D.write at_ s).1 (.int .i64 (D.write at_ s).2) w) := by
  unfold maxLen at hm
  have H2 := hid (rcall_any h)
  obtain ⟨c0, c1, c2, c3, cf⟩ := h.mem.cells
  obtain ⟨g, cap, hv, hgl, hgb, hgc, hgf, hgcell⟩ := dv_form h.mem (by have := h.ok.len; have := h.ok.lo; omega)
  rw [hv] at c0
  have hlen := h.ok.len
  clear cf hv hgf hgcell
  by_cases hd : D.down = true
  · have e : Hid (D.write at_ s = (D, 90)) := by simp [Hid, Dk.write, Dk.place, hd]
    rw [hd] at c3
    clear hd hlen
    unfold sv
    go_enter Try.func21, Try.ntmps21
    go_wp2_with fail
    go_ret
    rw [e.out]
    exact RefPost.same h (Chg.refl _ _) rfl
  have hd' : D.down = false := by simpa using hd
  by_cases hin : at_ < 0 ∨ (D.now.length : Int) ≤ at_
  · have e : Hid (D.write at_ s = (D, 1)) := by simp [Hid, Dk.write, Dk.place, hd', hin]
    have hin' : at_ < 0 ∨ (D.las.length : Int) ≤ at_ := by omega
    rw [hd'] at c3
    clear hd hd' hin hlen
    unfold sv
    by_cases h0 : at_ < 0
    · go_enter Try.func21, Try.ntmps21
      go_wp2_with fail
      go_ret
      rw [e.out]
      exact RefPost.same h (Chg.refl _ _) rfl
    · have h1 : (D.las.length : Int) ≤ at_ := by omega
      clear hin'
      go_enter Try.func21, Try.ntmps21
      go_wp2_with fail
      go_ret
      rw [e.out]
      exact RefPost.same h (Chg.refl _ _) rfl
  have hp : D.place at_ = 0 := by simp [Dk.place, hd', hin]
  by_cases hs : s.length ≤ 64
  · by_cases hq : D.power.2 = true
    · have e : D.write at_ s = (D.power.1.put at_.toNat s, 0) := by simp [Dk.write, hp, hq]; omega
      rw [e]
      obtain ⟨i, rfl⟩ := Int.eq_ofNat_of_zero_le (show 0 ≤ at_ by omega)
      exact rwrite_ok h i (by omega) s hs hd' hq hf
    · have hq' : D.power.2 = false := by simpa using hq
      have e : Hid (D.write at_ s = (D.power.1, 90)) := by simp [Hid, Dk.write, hp, hq']; omega
      have HQ := hid hq'
      have h3 : ((s.length : Nat) : Int) ≤ 64 := by omega
      have h0 : 0 ≤ at_ := by omega
      have h1 : at_ < (D.las.length : Int) := by omega
      rw [hd'] at c3
      clear hd hd' hp hq hq' hin hlen
      unfold sv
      go_enter Try.func21, Try.ntmps21
      go_wp2_with fail
      refine H2.out.mono ?_
      rintro e w1 ⟨rfl, hd1, hc1⟩
      rw [HQ.out]
      go_wp2_with fail
      go_ret
      rw [e.out]
      exact RefPost.same hd1 hc1 rfl
  · have e : Hid (D.write at_ s = (D, 2)) := by simp [Hid, Dk.write, hp]; omega
    have h3 : (64 : Int) < ((s.length : Nat) : Int) := by omega
    have h0 : 0 ≤ at_ := by omega
    have h1 : at_ < (D.las.length : Int) := by omega
    rw [hd'] at c3
    clear hd hd' hp hin hlen
    unfold sv
    go_enter Try.func21, Try.ntmps21
    go_wp2_with fail
    go_ret
    rw [e.out]
    exact RefPost.same h (Chg.refl _ _) rfl

set_option maxHeartbeats 400000 in
theorem rstop_any {w : World} {r : RLoc} {D : Dk} (h : RefAt w r D) (n : Int) (hn : n ≤ 9223372036854775807) :
    Calls Try.prog 24 #[.pointer (some ⟨r.b, 0, none⟩), .int .i64 n] w (RefPost r (D.stop n).1 (.int .i64 (D.stop n).2) w) := by
  obtain ⟨c0, c1, c2, c3, cf⟩ := h.mem.cells
  have f2 := cf 2
  clear cf
  cases hd : D.down
  · rw [hd] at c3
    by_cases h1 : n < 0
    · have e : Hid (D.stop n = (D, 1)) := by simp [Hid, Dk.stop, hd, h1]
      clear hd
      go_enter Try.func24, Try.ntmps24
      go_wp2_with fail
      go_ret
      rw [e.out]
      exact RefPost.same h (Chg.refl _ _) rfl
    · have e : Hid (D.stop n = ({ D with fuse := n }, 0)) := by simp [Hid, Dk.stop, hd, h1]
      clear hd
      go_enter Try.func24, Try.ntmps24
      go_wp2_with fail
      go_ret
      rw [e.out]
      obtain ⟨g1, g2⟩ := h.mem.field (fuse' := n) (down' := D.down) 2 (.int .i64 n) (by simp)
      have ok := h.ok
      refine RefPost.same (D := { D with fuse := n }) ⟨⟨ok.len, ok.lo, ok.hi, ok.las64, ok.now64, ok.pend64, ok.few, ?_, hn⟩, h.inv, g1⟩ g2 rfl
      show -1 ≤ n
      omega
  · have e : Hid (D.stop n = (D, 90)) := by simp [Hid, Dk.stop, hd]
    rw [hd] at c3
    clear hd
    go_enter Try.func24, Try.ntmps24
    go_wp2_with fail
    go_ret
    rw [e.out]
    exact RefPost.same h (Chg.refl _ _) rfl

/-- What a list's pending writes look like in the reference's memory. -/
theorem rpending {w : World} {r : RLoc} {las : List (List UInt8)} {pend : List (Nat × List UInt8)} {fuse : Int} {down : Bool} (h : RefMem w r las pend fuse down) : (r.pv = .slice none 0 0 ∧ pend = []) ∨
    ∃ g cap, r.pv = .slice (some ⟨g, 0, none⟩) pend.length cap ∧ g < w.heap.size ∧ g ≠ r.b ∧ r.dv.ownBlock ≠ some g ∧ ∀ k, k < pend.length → w.cell? ⟨g, k * 2, none⟩ = some (.int .i64 ((pend.getD k (0, [])).1 : Int)) ∧ w.cell? ⟨g, k * 2 + 1, none⟩ = some (sv (pend.getD k (0, [])).2) := by
  obtain ⟨h1, h2⟩ := h.hp
  rcases h2 with ⟨h2, h3⟩ | ⟨g, cap, cur, hv, _, hg, h4, h5, h6, h7⟩
  · exact .inl ⟨h2, List.eq_nil_of_length_eq_zero h3⟩
  · refine .inr ⟨g, cap, hv, lt_of_block hg, fun e => h.npb (by rw [hv, e]; rfl), fun e => h.ndp g e (by rw [hv]; rfl), fun k hk => ?_⟩
    have hal : AllLen 2 (pend.map rrow) := fun x hx => by obtain ⟨p, _, rfl⟩ := List.mem_map.1 hx; rfl
    have key : ∀ j v, (rrow (pend.getD k (0, [])))[j]? = some v → w.cell? ⟨g, k * 2 + j, none⟩ = some v := fun j v hj => by
      have := hal.rowcell k (by simpa using hk) j v (by rw [← hj, getD_lt hk]; simp)
      rw [show (pend.map rrow).flatten = rrows pend from rfl, ← h7, List.getElem?_take] at this
      split at this
      · have hg' : w.heap[g]? = some (.cells cur.toList.toArray 66 (0, 0)) := by rw [Array.toArray_toList]; exact hg
        rw [cell_of_list hg']; exact this
      · cases this
    exact ⟨key 0 _ rfl, key 1 _ rfl⟩

/-- What was written last. -/
def lastOf (i : Nat) : List (Nat × List UInt8) → List UInt8 → List UInt8
  | [], s => s
  | p :: ps, s => lastOf i ps (if p.1 = i then p.2 else s)
theorem lastOf_snoc (i : Nat) : ∀ (ps : List (Nat × List UInt8)) (p : Nat × List UInt8) (s : List UInt8), lastOf i (ps ++ [p]) s = if p.1 = i then p.2 else lastOf i ps s
  | [], p, s => by simp [lastOf]
  | q :: ps, p, s => by rw [List.cons_append, lastOf, lastOf_snoc i ps, lastOf]
theorem putAll_get (l : List (List UInt8)) (ps : List (Nat × List UInt8)) (i : Nat) (hi : i < l.length) : (putAll l ps).getD i [] = lastOf i ps (l.getD i []) := by
  unfold putAll
  induction ps generalizing l with
  | nil => rfl
  | cons p ps ih =>
    rw [List.foldl_cons, ih _ (by simpa using hi), lastOf]
    congr 1
    by_cases e : p.1 = i
    · subst e
      rw [if_pos rfl, getD_lt (by simpa using hi), List.getElem_set_self]
    · rw [if_neg e, getD_lt (by simpa using hi), List.getElem_set_ne e, getD_lt hi]

theorem ret_pair {a b c : Value} (h : a = b) : Ending.returned (.tuple #[a, c]) = Ending.returned (.tuple #[b, c]) := by rw [h]

set_option maxHeartbeats 1000000 in
theorem rread_ok {w : World} {r : RLoc} {D : Dk} (h : RefAt w r D) (i : Nat) (hi : i < D.now.length) (hdn : D.down = false) :
    Calls Try.prog 20 #[.pointer (some ⟨r.b, 0, none⟩), .int .i64 i] w fun e w' => e = .returned (.tuple #[sv (D.now.getD i []), .int .i64 0]) ∧ w = w' := by
  obtain ⟨c0, c1, c2, c3, cf⟩ := h.mem.cells
  rw [hdn] at c3
  obtain ⟨g, cap, hv, hgl, hgb, hgc, hgf, hgcell⟩ := dv_form h.mem (by have := h.ok.len; have := h.ok.lo; omega)
  rw [hv] at c0
  have hlen := h.ok.len
  have hi0 : (0 : Int) ≤ (i : Int) := by omega
  have hi1 : ((i : Nat) : Int) < (D.las.length : Int) := by omega
  have hcell := hgcell i (by omega)
  have hN : Hid (D.now.getD i [] = lastOf i D.pend (D.las.getD i [])) := by rw [Hid, h.inv]; exact putAll_get _ _ _ (by omega)
  have few := h.ok.few
  rcases rpending h.mem with ⟨hp1, hp2⟩ | ⟨g2, cap2, hp1, hgl2, hgb2, hgd2, hp2⟩
  · rw [hp1] at c1
    have HN : Hid (D.now.getD i [] = D.las.getD i []) := by rw [Hid, hN.out, hp2]; rfl
    clear hgf hgcell hlen hv hp1 hp2 hdn cf
    unfold sv at *
    go_enter Try.func20, Try.ntmps20
    go_wp2_with fail
    refine wp_loop_rounds 1 ?_
    rw [rounds_succ]
    go_wp2
    go_ret2
    exact ⟨by rw [HN.out]; rfl, rfl⟩
  · rw [hp1] at c1
    have HP := hid hp2
    clear hgf hgcell hlen hv hp1 hp2 hdn cf
    unfold sv at *
    go_enter Try.func20, Try.ntmps20
    go_wp2_with fail
    go_loop [7, 6] (fun c s => ∃ k : Nat, k ≤ D.pend.length ∧ c = .int .i64 k ∧ s = .string ⟨(lastOf i (D.pend.take k) (D.las.getD i [])).toArray⟩) (fun c _ => D.pend.length - (intOf c).toNat)
    case atStart => exact ⟨0, Nat.zero_le _, rfl, by simp [lastOf]⟩
    case round =>
      obtain ⟨k, hk, rfl, rfl⟩ := hrel
      by_cases hlt : k < D.pend.length
      · obtain ⟨y1, y2⟩ := HP.out k hlt
        have hs := lastOf_snoc i (D.pend.take k) D.pend[k] (D.las.getD i [])
        rw [← List.take_succ_eq_append_getElem hlt] at hs
        rw [getD_lt hlt] at y1 y2
        have hk1 : ((k : Nat) : Int) < (D.pend.length : Int) := by omega
        have hk0 : (0 : Int) ≤ (k : Int) := by omega
        have HS := hid hs
        clear hs
        by_cases hpi : D.pend[k].1 = i
        · have hb : (((D.pend[k].1 : Nat) : Int) == (i : Int)) = true := by rw [hpi]; simp
          have HI := hid hpi
          clear hpi
          go_wp2
          go_round
          case rel => exact ⟨k + 1, by omega, by go_num, by rw [HS.out, if_pos HI.out]⟩
          case measure => simp [intOf]; omega
        · have hb : (((D.pend[k].1 : Nat) : Int) == (i : Int)) = false := by simp; omega
          have HI := hid hpi
          clear hpi
          go_wp2
          go_round
          case rel => exact ⟨k + 1, by omega, by go_num, by rw [HS.out, if_neg HI.out]⟩
          case measure => simp [intOf]; omega
      · have hk1 : (D.pend.length : Int) ≤ (k : Int) := by omega
        have hkk : Hid (k = D.pend.length) := by unfold Hid; omega
        have hN2 : Hid (lastOf i (D.pend.take k) (D.las[i]?.getD []) = D.now[i]?.getD []) := by
          unfold Hid
          rw [← List.getD_eq_getElem?_getD, ← List.getD_eq_getElem?_getD, hN.out, hkk.out, List.take_length]
        go_wp2
        go_ret2
        refine ⟨ret_pair ?_, rfl⟩
        show Value.string ⟨(lastOf i (D.pend.take k) (D.las[i]?.getD [])).toArray⟩ = _
        rw [hN2.out, List.getElem?_eq_getElem hi]
        rfl
end Go.Proofs.Ytpgagihkicedeaa
