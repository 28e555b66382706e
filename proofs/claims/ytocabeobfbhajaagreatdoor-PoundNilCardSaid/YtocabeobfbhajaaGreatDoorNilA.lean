/- brief, at a script of one operation: it ends in a truth; nothing that was there changes. -/
import Derived.Test.YtocabeobfbhajaaGreatDoorPoA
set_option linter.unusedSimpArgs false
set_option linter.unusedVariables false
set_option maxRecDepth 100000
namespace Go.Proofs.YtocabeobfbhajaaGreatDoor
open Go Go.RowKit

theorem lt_of_cell {w : World} {p : Addr} {v : Value} (h : w.cell? p = some v) : p.block < w.heap.size := by
  rcases Nat.lt_or_ge p.block w.heap.size with h1 | h1
  · exact h1
  · unfold World.cell? at h
    rw [Array.getElem?_eq_none h1] at h
    cases h
theorem Chg.cell' {F : Nat → Prop} {w w' : World} (h : Chg F w w') {p : Addr} {v : Value} (hx : w.cell? p = some v) (hF : ¬ F p.block) : w'.cell? p = some v := by
  rw [World.cell?_of_block (h.block _ (lt_of_cell hx) hF)]; exact hx
/-- An operation of a reeve's script. -/
structure RvOp where
  kd : Int
  wait : Int
  n : Int
  tag : ByteArray
  fee : Bool
  cse : Int
  owner : Int
  amount : Int
  of : Rf
  pa : Option Addr
  ps : List Po
  pcap : Nat
  s0 : Int
  s1 : Int
  s2 : Int
  s3 : Int
  s4 : Int
  ka : Option Addr
  kn : Nat
  kcap : Nat
def RvOp.cells (o : RvOp) : List Value := [.int .u8 o.kd, .int .i64 o.wait, .int .i64 o.n, .string o.tag, .bool o.fee, .int .i64 o.cse, .int .i64 o.owner, .int .i64 o.amount, .int .i64 o.of.reeve, .int .i64 o.of.number, .slice o.pa o.ps.length o.pcap,
  .int .i64 o.s0, .int .i64 o.s1, .int .i64 o.s2, .int .i64 o.s3, .int .i64 o.s4, .slice o.ka o.kn o.kcap]
/-- Postings in memory, below B. -/
def PostsAt (w : World) (B : Nat) (a : Option Addr) (ps : List Po) : Prop :=
  ∀ i p, ps[i]? = some p → ∃ b f, a = some ⟨b, f, none⟩ ∧ b < B ∧ ∀ j c, p.cells[j]? = some c → w.cell? ⟨b, f + i * 11 + j, none⟩ = some c
theorem PostsAt.chg {w w' : World} {B : Nat} {a : Option Addr} {ps : List Po} (h : PostsAt w B a ps) {F : Nat → Prop} (hc : Chg F w w') (hF : ∀ k, F k → B ≤ k) : PostsAt w' B a ps := fun i p hi => by
  obtain ⟨b, f, h1, h2, h3⟩ := h i p hi
  exact ⟨b, f, h1, h2, fun j c hj => hc.cell' (h3 j c hj) (fun hf => by have := hF _ hf; simp at this; omega)⟩
theorem PostsAt.cells {w : World} {B : Nat} {a : Option Addr} {ps : List Po} (h : PostsAt w B a ps) {i : Nat} (hi : i < ps.length) : ∃ b f, a = some ⟨b, f, none⟩ ∧ b < B ∧
    w.cell? ⟨b, f + i * 11, none⟩ = some (.int .i64 ps[i].reeve) ∧ w.cell? ⟨b, f + i * 11 + 1, none⟩ = some (.int .i64 ps[i].number) ∧ w.cell? ⟨b, f + i * 11 + 2, none⟩ = some (.int .i64 ps[i].tick) ∧ w.cell? ⟨b, f + i * 11 + 3, none⟩ = some (.int .u8 ps[i].kind) ∧
    w.cell? ⟨b, f + i * 11 + 4, none⟩ = some (.int .i64 ps[i].cse) ∧ w.cell? ⟨b, f + i * 11 + 5, none⟩ = some (.int .i64 ps[i].owner) ∧ w.cell? ⟨b, f + i * 11 + 6, none⟩ = some (.int .i64 ps[i].of.reeve) ∧ w.cell? ⟨b, f + i * 11 + 7, none⟩ = some (.int .i64 ps[i].of.number) ∧
    w.cell? ⟨b, f + i * 11 + 8, none⟩ = some (.int .i64 ps[i].by_.reeve) ∧ w.cell? ⟨b, f + i * 11 + 9, none⟩ = some (.int .i64 ps[i].by_.number) ∧ w.cell? ⟨b, f + i * 11 + 10, none⟩ = some (.int .i64 ps[i].amount) := by
  obtain ⟨b, f, h1, h2, h3⟩ := h i ps[i] (List.getElem?_eq_getElem hi)
  exact ⟨b, f, h1, h2, h3 0 _ rfl, h3 1 _ rfl, h3 2 _ rfl, h3 3 _ rfl, h3 4 _ rfl, h3 5 _ rfl, h3 6 _ rfl, h3 7 _ rfl, h3 8 _ rfl, h3 9 _ rfl, h3 10 _ rfl⟩

/-- What brief holds on to: the copy of the operation. -/
structure InBrief (w : World) (o : RvOp) (g : Nat) (wr : World) : Prop where
  chg : Chg (fun _ => False) w wr
  new : w.heap.size ≤ g
  cells : ∀ j c, o.cells[j]? = some c → wr.cell? ⟨g, j, none⟩ = some c

theorem InBrief.alloc {w : World} {o : RvOp} {g : Nat} {wr : World} (h : InBrief w o g wr) (ob : Obj) : InBrief w o g (wr.alloc ob) :=
  ⟨h.chg.alloc ob, h.new, fun j c hj => ((Chg.refl (fun _ => False) wr).alloc ob).cell' (h.cells j c hj) id⟩
theorem InBrief.start (w : World) (o : RvOp) (t : TypeId) : InBrief w o w.heap.size (w.alloc (.cells o.cells.toArray t)) := by
  refine ⟨(Chg.refl _ _).alloc _, Nat.le_refl _, fun j c hj => ?_⟩
  rw [cell_of_row (w.alloc (.cells o.cells.toArray t)) w.heap.size j o.cells.toArray t (0, 0) (heap_alloc_new w _)]
  simpa using hj

/-- It ends in a truth; nothing that was there changes. -/
def TruthPost (w : World) (e : Ending) (w' : World) : Prop := (∃ t, e = .returned (.bool t)) ∧ Chg (fun _ => False) w w'

set_option maxHeartbeats 4000000 in
theorem brief_one {w : World} {o : RvOp} {b f : Nat} (cap : Nat) (hc : ∀ j c, o.cells[j]? = some c → w.cell? ⟨b, f + j, none⟩ = some c) (hp : PostsAt w w.heap.size o.pa o.ps) :
    Calls Tryz.prog 23 #[.slice (some ⟨b, f, none⟩) 1 cap] w (TruthPost w) := by
  have y0 : w.cell? ⟨b, f, none⟩ = some (.int .u8 o.kd) := hc 0 _ rfl
  have y1 := hc 1 _ rfl
  have y2 := hc 2 _ rfl
  have y3 := hc 3 _ rfl
  have y4 := hc 4 _ rfl
  have y5 := hc 5 _ rfl
  have y6 := hc 6 _ rfl
  have y7 := hc 7 _ rfl
  have y8 := hc 8 _ rfl
  have y9 := hc 9 _ rfl
  have y10 := hc 10 _ rfl
  have y11 := hc 11 _ rfl
  have y12 := hc 12 _ rfl
  have y13 := hc 13 _ rfl
  have y14 := hc 14 _ rfl
  have y15 := hc 15 _ rfl
  have y16 := hc 16 _ rfl
  clear hc
  by_cases q1 : o.kn ≤ 200
  · by_cases q2 : o.tag.size ≤ 1000
    · by_cases q3 : o.ps.length ≤ 12
      · have q1' : (o.kn : Int) ≤ 200 := by omega
        have q2' : (o.tag.size : Int) ≤ 1000 := by omega
        have q3' : (o.ps.length : Int) ≤ 12 := by omega
        have HP := hid hp
        clear hp
        go_enter Tryz.func23, Tryz.ntmps23
        go_wp2
        refine wp_loop_rounds 2 ?_
        rw [rounds_succ]
        go_wp2
        have hst := InBrief.start w o 44
        unfold RvOp.cells at hst
        have hst := hid hst
        go_loopw [5] (fun c wr => ∃ k : Nat, k ≤ o.ps.length ∧ c = .int .i64 k ∧ InBrief w o w.heap.size wr) (fun c _ => o.ps.length - (intOf c).toNat)
        case atStart => exact ⟨0, Nat.zero_le _, rfl, hst.out⟩
        case round =>
          obtain ⟨k, hk, rfl, hI⟩ := hrel
          have HI := hid hI
          clear hst
          by_cases hlt : k < o.ps.length
          · obtain ⟨f', g, hpa, hfl, x0, x1, x2, x3, x4, x5, x6, x7, x8, x9, x10⟩ := (HP.out.chg hI.chg (fun _ h => h.elim)).cells hlt
            have z10 := hI.cells 10 _ rfl
            rw [hpa] at z10
            have hk1 : ((k : Nat) : Int) < (o.ps.length : Int) := by omega
            have hk0 : (0 : Int) ≤ (k : Int) := by omega
            clear hI y0 y1 y2 y3 y4 y5 y6 y7 y8 y9 y10 y11 y12 y13 y14 y15 y16 q1 q2 q3 q1' q2' hpa hfl HP
            generalize o.ps[k] = p at *
            go_wp2
            all_goals first
              | (go_ret; exact ⟨⟨_, rfl⟩, (HI.out.alloc _).chg⟩)
              | skip
            go_roundw
            case rel => exact ⟨k + 1, by omega, by go_num, HI.out.alloc _⟩
            case measure => simp [intOf]; omega
          · have hk1 : (o.ps.length : Int) ≤ (k : Int) := by omega
            have z10 := hI.cells 10 _ rfl
            clear hI y0 y1 y2 y3 y4 y5 y6 y7 y8 y9 y10 y11 y12 y13 y14 y15 y16 q1 q2 q3 q1' q2' HP
            go_wp2
            go_loopw [7] (fun c wr => ∃ j : Nat, j ≤ 5 ∧ c = .int .i64 j ∧ InBrief w o w.heap.size wr) (fun c _ => 5 - (intOf c).toNat)
            case atStart => exact ⟨0, by omega, rfl, HI.out⟩
            case round =>
              obtain ⟨j, hj, rfl, hI⟩ := hrel
              clear HI z10
              have HI := hid hI
              have z11 := hI.cells 11 _ rfl
              have z12 := hI.cells 12 _ rfl
              have z13 := hI.cells 13 _ rfl
              have z14 := hI.cells 14 _ rfl
              have z15 := hI.cells 15 _ rfl
              clear hI
              have h6 : j = 0 ∨ j = 1 ∨ j = 2 ∨ j = 3 ∨ j = 4 ∨ j = 5 := by omega
              rcases h6 with rfl | rfl | rfl | rfl | rfl | rfl
              case inr.inr.inr.inr.inr =>
                clear z11 z12 z13 z14 z15
                go_wp2
                rw [rounds_succ]
                go_wp2
                go_ret
                exact ⟨⟨_, rfl⟩, HI.out.chg⟩
              all_goals
                go_wp2
                all_goals first
                  | (go_ret; exact ⟨⟨_, rfl⟩, HI.out.chg⟩)
                  | (go_roundw
                     case rel => first | exact ⟨1, by omega, by go_num, HI.out⟩ | exact ⟨2, by omega, by go_num, HI.out⟩ | exact ⟨3, by omega, by go_num, HI.out⟩ | exact ⟨4, by omega, by go_num, HI.out⟩ | exact ⟨5, by omega, by go_num, HI.out⟩
                     case measure => simp [intOf])
      · have q1' : (o.kn : Int) ≤ 200 := by omega
        have q2' : (o.tag.size : Int) ≤ 1000 := by omega
        have q3' : (12 : Int) < (o.ps.length : Int) := by omega
        clear hp
        go_enter Tryz.func23, Tryz.ntmps23
        go_wp2
        refine wp_loop_rounds 1 ?_
        rw [rounds_succ]
        go_wp2
        go_ret
        exact ⟨⟨_, rfl⟩, (Chg.refl _ _).alloc _⟩
    · have q1' : (o.kn : Int) ≤ 200 := by omega
      have q2' : (1000 : Int) < (o.tag.size : Int) := by omega
      clear hp
      go_enter Tryz.func23, Tryz.ntmps23
      go_wp2
      refine wp_loop_rounds 1 ?_
      rw [rounds_succ]
      go_wp2
      go_ret
      exact ⟨⟨_, rfl⟩, (Chg.refl _ _).alloc _⟩
  · have q1' : (200 : Int) < (o.kn : Int) := by omega
    clear hp
    go_enter Tryz.func23, Tryz.ntmps23
    go_wp2
    refine wp_loop_rounds 1 ?_
    rw [rounds_succ]
    go_wp2
    go_ret
    exact ⟨⟨_, rfl⟩, (Chg.refl _ _).alloc _⟩
end Go.Proofs.YtocabeobfbhajaaGreatDoor
