/- Wide fences, of a frame or of a round: what holds of an operation, of a call, holds within them. No program is named here. -/
import Derived.Test.YtocabeobfbhajaaGreatDoorSxD
import Derived.OrdersIn
import Derived.TacticsIn
import Derived.LoopNIn
import Derived.RangeFuncLeaves
set_option linter.unusedVariables false
set_option linter.unusedSimpArgs false
namespace Go.Proofs.YtocabeobfbhajaaGreatDoor.Sx
noncomputable section
open Go Go.RowKit

/-- The fence that lets all in, for frames that are rounds of r. -/
def Wd (r : Option Nat) : Fence := { Fence.wide with round := r }
section
variable {r : Option Nat} {n : Nat} {P : Program}
theorem Wd_none : Wd none = Fence.wide := rfl
theorem Wd_in (r : Option Nat) (l : Nat) : (Wd r).inRound l = Wd (some l) := rfl
theorem Wd_calls {f : FuncId} {args : Array Value} {w : World} {R : Ending → World → Prop} : CallsIn (Wd r) n P f args w R ↔ Calls P f args w R := callsIn_wide (n := n)
theorem Wd_wp {c : Code} {Q : Exit → Act → World → Prop} {a : Act} {w : World} : c.wpIn (Wd none) n P Q a w ↔ c.wp P Q a w := wpIn_wide
theorem Wd_deep : (Wd r).depth.isSome = true → 1 ≤ n := fun h => by cases h
def NoDefer (o : Oper) : Prop := ∀ c, o.op ≠ .defer c
theorem execOp_defer {ρ : Operand → Value} {o : Oper} {c : Call} (h : o.op = .defer c) (w : World) : (∃ d w', (execOp ρ o).run P w = .ok (.defer d) w') ∨ (∃ x w', (execOp ρ o).run P w = .halt x w') := by
  unfold execOp
  rw [h]
  simp only [Sem.run_bind]
  cases (resolve ρ c o.type).run P w with
  | ok d w' => exact .inl ⟨d, w', rfl⟩
  | halt x w' => exact .inr ⟨x, w', rfl⟩
theorem nd_value {ρ : Operand → Value} {o : Oper} {w w' : World} {x : Value} (h : (execOp ρ o).run P w = .ok (.value x) w') : NoDefer o := by
  intro c hc
  rcases execOp_defer (P := P) (ρ := ρ) hc w with ⟨d, w1, e⟩ | ⟨d, w1, e⟩ <;> rw [h] at e <;> cases e
theorem nd_skip {ρ : Operand → Value} {o : Oper} {w w' : World} (h : (execOp ρ o).run P w = .ok .skip w') : NoDefer o := by
  intro c hc
  rcases execOp_defer (P := P) (ρ := ρ) hc w with ⟨d, w1, e⟩ | ⟨d, w1, e⟩ <;> rw [h] at e <;> cases e
theorem semAt_W {o : Oper} {ρ : Operand → Value} (hd : NoDefer o) : Oper.semAt (Wd r).round ρ o = execOp ρ o := Oper.semAt_eq _ _ _ hd
theorem wpW_value {o : Oper} {a : Act} {w w' : World} {x : Value} {K : Act → World → Prop} {Q : Exit → Act → World → Prop} (h : (execOp a.eval o).run P w = .ok (.value x) w') (hk : K (a.put o.dst x) w') : o.wpIn (Wd r) n P a w K Q := by
  refine ⟨fun _ _ => trivial, ?_⟩
  rw [semAt_W (nd_value h), h, Oper.uponIn_value]
  exact hk
theorem wpW_skip {o : Oper} {a : Act} {w w' : World} {K : Act → World → Prop} {Q : Exit → Act → World → Prop} (h : (execOp a.eval o).run P w = .ok .skip w') (hk : K (a.put o.dst undef) w') : o.wpIn (Wd r) n P a w K Q := by
  refine ⟨fun _ _ => trivial, ?_⟩
  rw [semAt_W (nd_skip h), h, Oper.uponIn_skip]
  exact hk
theorem wpW_defer {o : Oper} {a : Act} {w w' : World} {d : Deferred} {K : Act → World → Prop} {Q : Exit → Act → World → Prop} (h : (execOp a.eval o).run P w = .ok (.defer d) w') (hk : K ({ a with defers := d :: a.defers }.put o.dst undef) w') : o.wpIn (Wd none) n P a w K Q := by
  refine ⟨fun _ _ => trivial, ?_⟩
  have : Oper.semAt (Wd none).round a.eval o = execOp a.eval o := Oper.semAt_none _ _
  rw [this, h, Oper.uponIn_defer]
  exact hk
theorem wpW_panic {o : Oper} {a : Act} {w w' : World} {v : Value} {K : Act → World → Prop} {Q : Exit → Act → World → Prop} (hd : NoDefer o) (h : (execOp a.eval o).run P w = .halt (.panic v) w') (hk : Q (.panic [{ v, recovered := false }]) a w') : o.wpIn (Wd r) n P a w K Q := by
  refine ⟨fun _ _ => trivial, ?_⟩
  rw [semAt_W hd, h, Oper.uponIn_panic]
  exact hk
theorem wpW_enter {o : Oper} {a : Act} {w w' : World} {f : FuncId} {args : Array Value} {K : Act → World → Prop} {Q : Exit → Act → World → Prop} (hd : NoDefer o) (h : (execOp a.eval o).run P w = .ok (.enter f args) w')
    (hk : Calls P f args w' fun
      | .returned v, w'' => K (a.put o.dst v) w''
      | .panicked chain, w'' => Q (.panic chain) a w''
      | .outgrown, _ => LetsOut Q) : o.wpIn (Wd r) n P a w K Q := by
  refine ⟨fun _ _ => trivial, ?_⟩
  rw [semAt_W hd, h, Oper.uponIn_enter]
  exact ⟨Wd_deep, Wd_calls.2 hk⟩
theorem wpW_round {o : Oper} {a : Act} {w w' : World} {l : Nat} {f : FuncId} {tm : Array Value} {asg body : Code} {K : Act → World → Prop} {Q : Exit → Act → World → Prop} (hd : NoDefer o) (h : (execOp a.eval o).run P w = .ok (.round l f tm asg body) w')
    (hk : RoundIn (Wd r) (n - 1) P l f tm asg body w' fun
      | .returned v, w'' => K (a.put o.dst v) w''
      | .panicked chain, w'' => Q (.panic chain) a w''
      | .outgrown, _ => LetsOut Q) : o.wpIn (Wd r) n P a w K Q := by
  refine ⟨fun _ _ => trivial, ?_⟩
  rw [semAt_W hd, h, Oper.uponIn_round]
  exact ⟨Wd_deep, hk⟩
/-- A round's contract does not ask in which frame yield was called. -/
theorem RoundIn_W {r r' : Option Nat} {n n' : Nat} {l : Nat} {f : FuncId} {tm : Array Value} {asg body : Code} {w : World} {R : Ending → World → Prop} (h : RoundIn (Wd r) n P l f tm asg body w R) : RoundIn (Wd r') n' P l f tm asg body w R :=
  ⟨trivial, fun c cs _ => h.2 c cs (fun d e => by cases e)⟩
theorem wpW_mono {n : Nat} {o : Oper} {a : Act} {w : World} {K K' : Act → World → Prop} {Q Q' : Exit → Act → World → Prop} (hk : ∀ a w, K a w → K' a w) (hq : ∀ e a w, Q e a w → Q' e a w) (h : o.wpIn (Wd r) n P a w K Q) : o.wpIn (Wd r) n P a w K' Q' := by
  refine ⟨fun _ _ => trivial, ?_⟩
  have h := h.2
  generalize (o.semAt (Wd r).round a.eval).run P w = res at h ⊢
  cases res with
  | ok x w' =>
    cases x <;> simp only [Oper.uponIn] at h ⊢ <;>
      first
        | exact hk _ _ h
        | exact ⟨h.1, CallsIn.mono h.2 (fun e w'' he => by cases e <;> first | exact hk _ _ he | exact hq _ _ _ he | (obtain ⟨a, w, he⟩ := he; exact ⟨a, w, hq _ _ _ he⟩))⟩
        | exact ⟨h.1, RowsIn.mono h.2 (fun _ _ he => hk _ _ he)⟩
        | exact ⟨h.1, RoundIn.mono h.2 (fun e w'' he => by cases e <;> first | exact hk _ _ he | exact hq _ _ _ he | (obtain ⟨a, w, he⟩ := he; exact ⟨a, w, hq _ _ _ he⟩))⟩
  | halt x w' => cases x <;> simp only [Oper.uponIn] at h ⊢ <;> first | exact hq _ _ _ h | exact h
end
end
end Go.Proofs.YtocabeobfbhajaaGreatDoor.Sx
