/- The reckoner's memory and what it says of a world: new blocks, reading, writing. No program is named here. -/
import Derived.Test.YtocabeobfbhajaaGreatDoorSxC
import Derived.Test.YtocabeobfbhajaaGreatDoorLib
set_option linter.unusedVariables false
namespace Go.Proofs.YtocabeobfbhajaaGreatDoor.Sx
noncomputable section
open Go Go.RowKit

/-- How many temporaries there may be. -/
def topTmp : Nat := 512
/-- The slot of a temporary. -/
noncomputable def tget (T : Tm) (t : Nat) : AV := T.get t
/-- A block: cells (behind those that are known as many more as a draw left room for: ext = i + 1, the i-th draw, esz cells each); a map: keys, values, stamps; what goes over a string, over a map; the record of a range over a function, the block of its deferred calls. -/
inductive AB where
  | cells (cs : List AV) (ext esz : Nat)
  | map (es : List (AV × AV × Nat)) (clock : Nat)
  | sit (n N pos : Nat)
  | mit (m : Option Nat) (since : Nat) (seen : List Nat) (step : Nat)
  | loop (st : LoopState) (pend : Option Code) (T : Tm) (nt : Nat) (ps : List Tmp) (asg body : Code) (df : Nat)
  | dfr (op : Bool)
/-! ### mm1 -/
abbrev Mm1 := B8 (Option AB)
noncomputable def mm1s0 (t : Mm1) : (Option AB) := B8.rec (motive := fun _ => (Option AB)) (fun a b c d e f g h => a) t
noncomputable def mm1s1 (t : Mm1) : (Option AB) := B8.rec (motive := fun _ => (Option AB)) (fun a b c d e f g h => b) t
noncomputable def mm1s2 (t : Mm1) : (Option AB) := B8.rec (motive := fun _ => (Option AB)) (fun a b c d e f g h => c) t
noncomputable def mm1s3 (t : Mm1) : (Option AB) := B8.rec (motive := fun _ => (Option AB)) (fun a b c d e f g h => d) t
noncomputable def mm1s4 (t : Mm1) : (Option AB) := B8.rec (motive := fun _ => (Option AB)) (fun a b c d e f g h => e) t
noncomputable def mm1s5 (t : Mm1) : (Option AB) := B8.rec (motive := fun _ => (Option AB)) (fun a b c d e f g h => f) t
noncomputable def mm1s6 (t : Mm1) : (Option AB) := B8.rec (motive := fun _ => (Option AB)) (fun a b c d e f g h => g) t
noncomputable def mm1s7 (t : Mm1) : (Option AB) := B8.rec (motive := fun _ => (Option AB)) (fun a b c d e f g h => h) t
noncomputable def mm1s (d : D8) : Mm1 → (Option AB) := D8.rec (motive := fun _ => Mm1 → (Option AB)) mm1s0 mm1s1 mm1s2 mm1s3 mm1s4 mm1s5 mm1s6 mm1s7 d
theorem mm1s_eq (d : D8) (t : Mm1) : mm1s d t = sel d t := by cases d <;> rfl
noncomputable def mm1u0 (β : Type) (q : (Option AB) → ((Option AB) → β) → β) (t : Mm1) (k : Mm1 → β) : β := B8.rec (motive := fun _ => β) (fun a b c d e f g h => q a (fun x => k ⟨x, b, c, d, e, f, g, h⟩)) t
noncomputable def mm1u1 (β : Type) (q : (Option AB) → ((Option AB) → β) → β) (t : Mm1) (k : Mm1 → β) : β := B8.rec (motive := fun _ => β) (fun a b c d e f g h => q b (fun x => k ⟨a, x, c, d, e, f, g, h⟩)) t
noncomputable def mm1u2 (β : Type) (q : (Option AB) → ((Option AB) → β) → β) (t : Mm1) (k : Mm1 → β) : β := B8.rec (motive := fun _ => β) (fun a b c d e f g h => q c (fun x => k ⟨a, b, x, d, e, f, g, h⟩)) t
noncomputable def mm1u3 (β : Type) (q : (Option AB) → ((Option AB) → β) → β) (t : Mm1) (k : Mm1 → β) : β := B8.rec (motive := fun _ => β) (fun a b c d e f g h => q d (fun x => k ⟨a, b, c, x, e, f, g, h⟩)) t
noncomputable def mm1u4 (β : Type) (q : (Option AB) → ((Option AB) → β) → β) (t : Mm1) (k : Mm1 → β) : β := B8.rec (motive := fun _ => β) (fun a b c d e f g h => q e (fun x => k ⟨a, b, c, d, x, f, g, h⟩)) t
noncomputable def mm1u5 (β : Type) (q : (Option AB) → ((Option AB) → β) → β) (t : Mm1) (k : Mm1 → β) : β := B8.rec (motive := fun _ => β) (fun a b c d e f g h => q f (fun x => k ⟨a, b, c, d, e, x, g, h⟩)) t
noncomputable def mm1u6 (β : Type) (q : (Option AB) → ((Option AB) → β) → β) (t : Mm1) (k : Mm1 → β) : β := B8.rec (motive := fun _ => β) (fun a b c d e f g h => q g (fun x => k ⟨a, b, c, d, e, f, x, h⟩)) t
noncomputable def mm1u7 (β : Type) (q : (Option AB) → ((Option AB) → β) → β) (t : Mm1) (k : Mm1 → β) : β := B8.rec (motive := fun _ => β) (fun a b c d e f g h => q h (fun x => k ⟨a, b, c, d, e, f, g, x⟩)) t
noncomputable def mm1u (d : D8) : (β : Type) → ((Option AB) → ((Option AB) → β) → β) → Mm1 → (Mm1 → β) → β := D8.rec (motive := fun _ => (β : Type) → ((Option AB) → ((Option AB) → β) → β) → Mm1 → (Mm1 → β) → β) mm1u0 mm1u1 mm1u2 mm1u3 mm1u4 mm1u5 mm1u6 mm1u7 d
theorem mm1u_eq (d : D8) (β : Type) (q : (Option AB) → ((Option AB) → β) → β) (t : Mm1) (k : Mm1 → β) : mm1u d β q t k = q (sel d t) (fun x => k (set8 d x t)) := by cases d <;> rfl
/-! ### mm2 -/
abbrev Mm2 := B8 Mm1
noncomputable def mm2s0 (t : Mm2) : Mm1 := B8.rec (motive := fun _ => Mm1) (fun a b c d e f g h => a) t
noncomputable def mm2s1 (t : Mm2) : Mm1 := B8.rec (motive := fun _ => Mm1) (fun a b c d e f g h => b) t
noncomputable def mm2s2 (t : Mm2) : Mm1 := B8.rec (motive := fun _ => Mm1) (fun a b c d e f g h => c) t
noncomputable def mm2s3 (t : Mm2) : Mm1 := B8.rec (motive := fun _ => Mm1) (fun a b c d e f g h => d) t
noncomputable def mm2s4 (t : Mm2) : Mm1 := B8.rec (motive := fun _ => Mm1) (fun a b c d e f g h => e) t
noncomputable def mm2s5 (t : Mm2) : Mm1 := B8.rec (motive := fun _ => Mm1) (fun a b c d e f g h => f) t
noncomputable def mm2s6 (t : Mm2) : Mm1 := B8.rec (motive := fun _ => Mm1) (fun a b c d e f g h => g) t
noncomputable def mm2s7 (t : Mm2) : Mm1 := B8.rec (motive := fun _ => Mm1) (fun a b c d e f g h => h) t
noncomputable def mm2s (d : D8) : Mm2 → Mm1 := D8.rec (motive := fun _ => Mm2 → Mm1) mm2s0 mm2s1 mm2s2 mm2s3 mm2s4 mm2s5 mm2s6 mm2s7 d
theorem mm2s_eq (d : D8) (t : Mm2) : mm2s d t = sel d t := by cases d <;> rfl
noncomputable def mm2u0 (β : Type) (q : Mm1 → (Mm1 → β) → β) (t : Mm2) (k : Mm2 → β) : β := B8.rec (motive := fun _ => β) (fun a b c d e f g h => q a (fun x => k ⟨x, b, c, d, e, f, g, h⟩)) t
noncomputable def mm2u1 (β : Type) (q : Mm1 → (Mm1 → β) → β) (t : Mm2) (k : Mm2 → β) : β := B8.rec (motive := fun _ => β) (fun a b c d e f g h => q b (fun x => k ⟨a, x, c, d, e, f, g, h⟩)) t
noncomputable def mm2u2 (β : Type) (q : Mm1 → (Mm1 → β) → β) (t : Mm2) (k : Mm2 → β) : β := B8.rec (motive := fun _ => β) (fun a b c d e f g h => q c (fun x => k ⟨a, b, x, d, e, f, g, h⟩)) t
noncomputable def mm2u3 (β : Type) (q : Mm1 → (Mm1 → β) → β) (t : Mm2) (k : Mm2 → β) : β := B8.rec (motive := fun _ => β) (fun a b c d e f g h => q d (fun x => k ⟨a, b, c, x, e, f, g, h⟩)) t
noncomputable def mm2u4 (β : Type) (q : Mm1 → (Mm1 → β) → β) (t : Mm2) (k : Mm2 → β) : β := B8.rec (motive := fun _ => β) (fun a b c d e f g h => q e (fun x => k ⟨a, b, c, d, x, f, g, h⟩)) t
noncomputable def mm2u5 (β : Type) (q : Mm1 → (Mm1 → β) → β) (t : Mm2) (k : Mm2 → β) : β := B8.rec (motive := fun _ => β) (fun a b c d e f g h => q f (fun x => k ⟨a, b, c, d, e, x, g, h⟩)) t
noncomputable def mm2u6 (β : Type) (q : Mm1 → (Mm1 → β) → β) (t : Mm2) (k : Mm2 → β) : β := B8.rec (motive := fun _ => β) (fun a b c d e f g h => q g (fun x => k ⟨a, b, c, d, e, f, x, h⟩)) t
noncomputable def mm2u7 (β : Type) (q : Mm1 → (Mm1 → β) → β) (t : Mm2) (k : Mm2 → β) : β := B8.rec (motive := fun _ => β) (fun a b c d e f g h => q h (fun x => k ⟨a, b, c, d, e, f, g, x⟩)) t
noncomputable def mm2u (d : D8) : (β : Type) → (Mm1 → (Mm1 → β) → β) → Mm2 → (Mm2 → β) → β := D8.rec (motive := fun _ => (β : Type) → (Mm1 → (Mm1 → β) → β) → Mm2 → (Mm2 → β) → β) mm2u0 mm2u1 mm2u2 mm2u3 mm2u4 mm2u5 mm2u6 mm2u7 d
theorem mm2u_eq (d : D8) (β : Type) (q : Mm1 → (Mm1 → β) → β) (t : Mm2) (k : Mm2 → β) : mm2u d β q t k = q (sel d t) (fun x => k (set8 d x t)) := by cases d <;> rfl
/-! ### mm3 -/
abbrev Mm3 := B8 Mm2
noncomputable def mm3s0 (t : Mm3) : Mm2 := B8.rec (motive := fun _ => Mm2) (fun a b c d e f g h => a) t
noncomputable def mm3s1 (t : Mm3) : Mm2 := B8.rec (motive := fun _ => Mm2) (fun a b c d e f g h => b) t
noncomputable def mm3s2 (t : Mm3) : Mm2 := B8.rec (motive := fun _ => Mm2) (fun a b c d e f g h => c) t
noncomputable def mm3s3 (t : Mm3) : Mm2 := B8.rec (motive := fun _ => Mm2) (fun a b c d e f g h => d) t
noncomputable def mm3s4 (t : Mm3) : Mm2 := B8.rec (motive := fun _ => Mm2) (fun a b c d e f g h => e) t
noncomputable def mm3s5 (t : Mm3) : Mm2 := B8.rec (motive := fun _ => Mm2) (fun a b c d e f g h => f) t
noncomputable def mm3s6 (t : Mm3) : Mm2 := B8.rec (motive := fun _ => Mm2) (fun a b c d e f g h => g) t
noncomputable def mm3s7 (t : Mm3) : Mm2 := B8.rec (motive := fun _ => Mm2) (fun a b c d e f g h => h) t
noncomputable def mm3s (d : D8) : Mm3 → Mm2 := D8.rec (motive := fun _ => Mm3 → Mm2) mm3s0 mm3s1 mm3s2 mm3s3 mm3s4 mm3s5 mm3s6 mm3s7 d
theorem mm3s_eq (d : D8) (t : Mm3) : mm3s d t = sel d t := by cases d <;> rfl
noncomputable def mm3u0 (β : Type) (q : Mm2 → (Mm2 → β) → β) (t : Mm3) (k : Mm3 → β) : β := B8.rec (motive := fun _ => β) (fun a b c d e f g h => q a (fun x => k ⟨x, b, c, d, e, f, g, h⟩)) t
noncomputable def mm3u1 (β : Type) (q : Mm2 → (Mm2 → β) → β) (t : Mm3) (k : Mm3 → β) : β := B8.rec (motive := fun _ => β) (fun a b c d e f g h => q b (fun x => k ⟨a, x, c, d, e, f, g, h⟩)) t
noncomputable def mm3u2 (β : Type) (q : Mm2 → (Mm2 → β) → β) (t : Mm3) (k : Mm3 → β) : β := B8.rec (motive := fun _ => β) (fun a b c d e f g h => q c (fun x => k ⟨a, b, x, d, e, f, g, h⟩)) t
noncomputable def mm3u3 (β : Type) (q : Mm2 → (Mm2 → β) → β) (t : Mm3) (k : Mm3 → β) : β := B8.rec (motive := fun _ => β) (fun a b c d e f g h => q d (fun x => k ⟨a, b, c, x, e, f, g, h⟩)) t
noncomputable def mm3u4 (β : Type) (q : Mm2 → (Mm2 → β) → β) (t : Mm3) (k : Mm3 → β) : β := B8.rec (motive := fun _ => β) (fun a b c d e f g h => q e (fun x => k ⟨a, b, c, d, x, f, g, h⟩)) t
noncomputable def mm3u5 (β : Type) (q : Mm2 → (Mm2 → β) → β) (t : Mm3) (k : Mm3 → β) : β := B8.rec (motive := fun _ => β) (fun a b c d e f g h => q f (fun x => k ⟨a, b, c, d, e, x, g, h⟩)) t
noncomputable def mm3u6 (β : Type) (q : Mm2 → (Mm2 → β) → β) (t : Mm3) (k : Mm3 → β) : β := B8.rec (motive := fun _ => β) (fun a b c d e f g h => q g (fun x => k ⟨a, b, c, d, e, f, x, h⟩)) t
noncomputable def mm3u7 (β : Type) (q : Mm2 → (Mm2 → β) → β) (t : Mm3) (k : Mm3 → β) : β := B8.rec (motive := fun _ => β) (fun a b c d e f g h => q h (fun x => k ⟨a, b, c, d, e, f, g, x⟩)) t
noncomputable def mm3u (d : D8) : (β : Type) → (Mm2 → (Mm2 → β) → β) → Mm3 → (Mm3 → β) → β := D8.rec (motive := fun _ => (β : Type) → (Mm2 → (Mm2 → β) → β) → Mm3 → (Mm3 → β) → β) mm3u0 mm3u1 mm3u2 mm3u3 mm3u4 mm3u5 mm3u6 mm3u7 d
theorem mm3u_eq (d : D8) (β : Type) (q : Mm2 → (Mm2 → β) → β) (t : Mm3) (k : Mm3 → β) : mm3u d β q t k = q (sel d t) (fun x => k (set8 d x t)) := by cases d <;> rfl
/-! ### mm4 -/
abbrev Mm4 := B8 Mm3
noncomputable def mm4s0 (t : Mm4) : Mm3 := B8.rec (motive := fun _ => Mm3) (fun a b c d e f g h => a) t
noncomputable def mm4s1 (t : Mm4) : Mm3 := B8.rec (motive := fun _ => Mm3) (fun a b c d e f g h => b) t
noncomputable def mm4s2 (t : Mm4) : Mm3 := B8.rec (motive := fun _ => Mm3) (fun a b c d e f g h => c) t
noncomputable def mm4s3 (t : Mm4) : Mm3 := B8.rec (motive := fun _ => Mm3) (fun a b c d e f g h => d) t
noncomputable def mm4s4 (t : Mm4) : Mm3 := B8.rec (motive := fun _ => Mm3) (fun a b c d e f g h => e) t
noncomputable def mm4s5 (t : Mm4) : Mm3 := B8.rec (motive := fun _ => Mm3) (fun a b c d e f g h => f) t
noncomputable def mm4s6 (t : Mm4) : Mm3 := B8.rec (motive := fun _ => Mm3) (fun a b c d e f g h => g) t
noncomputable def mm4s7 (t : Mm4) : Mm3 := B8.rec (motive := fun _ => Mm3) (fun a b c d e f g h => h) t
noncomputable def mm4s (d : D8) : Mm4 → Mm3 := D8.rec (motive := fun _ => Mm4 → Mm3) mm4s0 mm4s1 mm4s2 mm4s3 mm4s4 mm4s5 mm4s6 mm4s7 d
theorem mm4s_eq (d : D8) (t : Mm4) : mm4s d t = sel d t := by cases d <;> rfl
noncomputable def mm4u0 (β : Type) (q : Mm3 → (Mm3 → β) → β) (t : Mm4) (k : Mm4 → β) : β := B8.rec (motive := fun _ => β) (fun a b c d e f g h => q a (fun x => k ⟨x, b, c, d, e, f, g, h⟩)) t
noncomputable def mm4u1 (β : Type) (q : Mm3 → (Mm3 → β) → β) (t : Mm4) (k : Mm4 → β) : β := B8.rec (motive := fun _ => β) (fun a b c d e f g h => q b (fun x => k ⟨a, x, c, d, e, f, g, h⟩)) t
noncomputable def mm4u2 (β : Type) (q : Mm3 → (Mm3 → β) → β) (t : Mm4) (k : Mm4 → β) : β := B8.rec (motive := fun _ => β) (fun a b c d e f g h => q c (fun x => k ⟨a, b, x, d, e, f, g, h⟩)) t
noncomputable def mm4u3 (β : Type) (q : Mm3 → (Mm3 → β) → β) (t : Mm4) (k : Mm4 → β) : β := B8.rec (motive := fun _ => β) (fun a b c d e f g h => q d (fun x => k ⟨a, b, c, x, e, f, g, h⟩)) t
noncomputable def mm4u4 (β : Type) (q : Mm3 → (Mm3 → β) → β) (t : Mm4) (k : Mm4 → β) : β := B8.rec (motive := fun _ => β) (fun a b c d e f g h => q e (fun x => k ⟨a, b, c, d, x, f, g, h⟩)) t
noncomputable def mm4u5 (β : Type) (q : Mm3 → (Mm3 → β) → β) (t : Mm4) (k : Mm4 → β) : β := B8.rec (motive := fun _ => β) (fun a b c d e f g h => q f (fun x => k ⟨a, b, c, d, e, x, g, h⟩)) t
noncomputable def mm4u6 (β : Type) (q : Mm3 → (Mm3 → β) → β) (t : Mm4) (k : Mm4 → β) : β := B8.rec (motive := fun _ => β) (fun a b c d e f g h => q g (fun x => k ⟨a, b, c, d, e, f, x, h⟩)) t
noncomputable def mm4u7 (β : Type) (q : Mm3 → (Mm3 → β) → β) (t : Mm4) (k : Mm4 → β) : β := B8.rec (motive := fun _ => β) (fun a b c d e f g h => q h (fun x => k ⟨a, b, c, d, e, f, g, x⟩)) t
noncomputable def mm4u (d : D8) : (β : Type) → (Mm3 → (Mm3 → β) → β) → Mm4 → (Mm4 → β) → β := D8.rec (motive := fun _ => (β : Type) → (Mm3 → (Mm3 → β) → β) → Mm4 → (Mm4 → β) → β) mm4u0 mm4u1 mm4u2 mm4u3 mm4u4 mm4u5 mm4u6 mm4u7 d
theorem mm4u_eq (d : D8) (β : Type) (q : Mm3 → (Mm3 → β) → β) (t : Mm4) (k : Mm4 → β) : mm4u d β q t k = q (sel d t) (fun x => k (set8 d x t)) := by cases d <;> rfl
/-! ### mm5 -/
abbrev Mm5 := B8 Mm4
noncomputable def mm5s0 (t : Mm5) : Mm4 := B8.rec (motive := fun _ => Mm4) (fun a b c d e f g h => a) t
noncomputable def mm5s1 (t : Mm5) : Mm4 := B8.rec (motive := fun _ => Mm4) (fun a b c d e f g h => b) t
noncomputable def mm5s2 (t : Mm5) : Mm4 := B8.rec (motive := fun _ => Mm4) (fun a b c d e f g h => c) t
noncomputable def mm5s3 (t : Mm5) : Mm4 := B8.rec (motive := fun _ => Mm4) (fun a b c d e f g h => d) t
noncomputable def mm5s4 (t : Mm5) : Mm4 := B8.rec (motive := fun _ => Mm4) (fun a b c d e f g h => e) t
noncomputable def mm5s5 (t : Mm5) : Mm4 := B8.rec (motive := fun _ => Mm4) (fun a b c d e f g h => f) t
noncomputable def mm5s6 (t : Mm5) : Mm4 := B8.rec (motive := fun _ => Mm4) (fun a b c d e f g h => g) t
noncomputable def mm5s7 (t : Mm5) : Mm4 := B8.rec (motive := fun _ => Mm4) (fun a b c d e f g h => h) t
noncomputable def mm5s (d : D8) : Mm5 → Mm4 := D8.rec (motive := fun _ => Mm5 → Mm4) mm5s0 mm5s1 mm5s2 mm5s3 mm5s4 mm5s5 mm5s6 mm5s7 d
theorem mm5s_eq (d : D8) (t : Mm5) : mm5s d t = sel d t := by cases d <;> rfl
noncomputable def mm5u0 (β : Type) (q : Mm4 → (Mm4 → β) → β) (t : Mm5) (k : Mm5 → β) : β := B8.rec (motive := fun _ => β) (fun a b c d e f g h => q a (fun x => k ⟨x, b, c, d, e, f, g, h⟩)) t
noncomputable def mm5u1 (β : Type) (q : Mm4 → (Mm4 → β) → β) (t : Mm5) (k : Mm5 → β) : β := B8.rec (motive := fun _ => β) (fun a b c d e f g h => q b (fun x => k ⟨a, x, c, d, e, f, g, h⟩)) t
noncomputable def mm5u2 (β : Type) (q : Mm4 → (Mm4 → β) → β) (t : Mm5) (k : Mm5 → β) : β := B8.rec (motive := fun _ => β) (fun a b c d e f g h => q c (fun x => k ⟨a, b, x, d, e, f, g, h⟩)) t
noncomputable def mm5u3 (β : Type) (q : Mm4 → (Mm4 → β) → β) (t : Mm5) (k : Mm5 → β) : β := B8.rec (motive := fun _ => β) (fun a b c d e f g h => q d (fun x => k ⟨a, b, c, x, e, f, g, h⟩)) t
noncomputable def mm5u4 (β : Type) (q : Mm4 → (Mm4 → β) → β) (t : Mm5) (k : Mm5 → β) : β := B8.rec (motive := fun _ => β) (fun a b c d e f g h => q e (fun x => k ⟨a, b, c, d, x, f, g, h⟩)) t
noncomputable def mm5u5 (β : Type) (q : Mm4 → (Mm4 → β) → β) (t : Mm5) (k : Mm5 → β) : β := B8.rec (motive := fun _ => β) (fun a b c d e f g h => q f (fun x => k ⟨a, b, c, d, e, x, g, h⟩)) t
noncomputable def mm5u6 (β : Type) (q : Mm4 → (Mm4 → β) → β) (t : Mm5) (k : Mm5 → β) : β := B8.rec (motive := fun _ => β) (fun a b c d e f g h => q g (fun x => k ⟨a, b, c, d, e, f, x, h⟩)) t
noncomputable def mm5u7 (β : Type) (q : Mm4 → (Mm4 → β) → β) (t : Mm5) (k : Mm5 → β) : β := B8.rec (motive := fun _ => β) (fun a b c d e f g h => q h (fun x => k ⟨a, b, c, d, e, f, g, x⟩)) t
noncomputable def mm5u (d : D8) : (β : Type) → (Mm4 → (Mm4 → β) → β) → Mm5 → (Mm5 → β) → β := D8.rec (motive := fun _ => (β : Type) → (Mm4 → (Mm4 → β) → β) → Mm5 → (Mm5 → β) → β) mm5u0 mm5u1 mm5u2 mm5u3 mm5u4 mm5u5 mm5u6 mm5u7 d
theorem mm5u_eq (d : D8) (β : Type) (q : Mm4 → (Mm4 → β) → β) (t : Mm5) (k : Mm5 → β) : mm5u d β q t k = q (sel d t) (fun x => k (set8 d x t)) := by cases d <;> rfl
/-! ### mm6 -/
abbrev Mm6 := B8 Mm5
noncomputable def mm6s0 (t : Mm6) : Mm5 := B8.rec (motive := fun _ => Mm5) (fun a b c d e f g h => a) t
noncomputable def mm6s1 (t : Mm6) : Mm5 := B8.rec (motive := fun _ => Mm5) (fun a b c d e f g h => b) t
noncomputable def mm6s2 (t : Mm6) : Mm5 := B8.rec (motive := fun _ => Mm5) (fun a b c d e f g h => c) t
noncomputable def mm6s3 (t : Mm6) : Mm5 := B8.rec (motive := fun _ => Mm5) (fun a b c d e f g h => d) t
noncomputable def mm6s4 (t : Mm6) : Mm5 := B8.rec (motive := fun _ => Mm5) (fun a b c d e f g h => e) t
noncomputable def mm6s5 (t : Mm6) : Mm5 := B8.rec (motive := fun _ => Mm5) (fun a b c d e f g h => f) t
noncomputable def mm6s6 (t : Mm6) : Mm5 := B8.rec (motive := fun _ => Mm5) (fun a b c d e f g h => g) t
noncomputable def mm6s7 (t : Mm6) : Mm5 := B8.rec (motive := fun _ => Mm5) (fun a b c d e f g h => h) t
noncomputable def mm6s (d : D8) : Mm6 → Mm5 := D8.rec (motive := fun _ => Mm6 → Mm5) mm6s0 mm6s1 mm6s2 mm6s3 mm6s4 mm6s5 mm6s6 mm6s7 d
theorem mm6s_eq (d : D8) (t : Mm6) : mm6s d t = sel d t := by cases d <;> rfl
noncomputable def mm6u0 (β : Type) (q : Mm5 → (Mm5 → β) → β) (t : Mm6) (k : Mm6 → β) : β := B8.rec (motive := fun _ => β) (fun a b c d e f g h => q a (fun x => k ⟨x, b, c, d, e, f, g, h⟩)) t
noncomputable def mm6u1 (β : Type) (q : Mm5 → (Mm5 → β) → β) (t : Mm6) (k : Mm6 → β) : β := B8.rec (motive := fun _ => β) (fun a b c d e f g h => q b (fun x => k ⟨a, x, c, d, e, f, g, h⟩)) t
noncomputable def mm6u2 (β : Type) (q : Mm5 → (Mm5 → β) → β) (t : Mm6) (k : Mm6 → β) : β := B8.rec (motive := fun _ => β) (fun a b c d e f g h => q c (fun x => k ⟨a, b, x, d, e, f, g, h⟩)) t
noncomputable def mm6u3 (β : Type) (q : Mm5 → (Mm5 → β) → β) (t : Mm6) (k : Mm6 → β) : β := B8.rec (motive := fun _ => β) (fun a b c d e f g h => q d (fun x => k ⟨a, b, c, x, e, f, g, h⟩)) t
noncomputable def mm6u4 (β : Type) (q : Mm5 → (Mm5 → β) → β) (t : Mm6) (k : Mm6 → β) : β := B8.rec (motive := fun _ => β) (fun a b c d e f g h => q e (fun x => k ⟨a, b, c, d, x, f, g, h⟩)) t
noncomputable def mm6u5 (β : Type) (q : Mm5 → (Mm5 → β) → β) (t : Mm6) (k : Mm6 → β) : β := B8.rec (motive := fun _ => β) (fun a b c d e f g h => q f (fun x => k ⟨a, b, c, d, e, x, g, h⟩)) t
noncomputable def mm6u6 (β : Type) (q : Mm5 → (Mm5 → β) → β) (t : Mm6) (k : Mm6 → β) : β := B8.rec (motive := fun _ => β) (fun a b c d e f g h => q g (fun x => k ⟨a, b, c, d, e, f, x, h⟩)) t
noncomputable def mm6u7 (β : Type) (q : Mm5 → (Mm5 → β) → β) (t : Mm6) (k : Mm6 → β) : β := B8.rec (motive := fun _ => β) (fun a b c d e f g h => q h (fun x => k ⟨a, b, c, d, e, f, g, x⟩)) t
noncomputable def mm6u (d : D8) : (β : Type) → (Mm5 → (Mm5 → β) → β) → Mm6 → (Mm6 → β) → β := D8.rec (motive := fun _ => (β : Type) → (Mm5 → (Mm5 → β) → β) → Mm6 → (Mm6 → β) → β) mm6u0 mm6u1 mm6u2 mm6u3 mm6u4 mm6u5 mm6u6 mm6u7 d
theorem mm6u_eq (d : D8) (β : Type) (q : Mm5 → (Mm5 → β) → β) (t : Mm6) (k : Mm6 → β) : mm6u d β q t k = q (sel d t) (fun x => k (set8 d x t)) := by cases d <;> rfl
inductive PM where
  | no
  | yes (y6 y5 y4 y3 y2 y1 : D8)
noncomputable def toPM (k : Nat) : PM := Bool.rec .no (.yes (dig (Nat.div k 32768)) (dig (Nat.div k 4096)) (dig (Nat.div k 512)) (dig (Nat.div k 64)) (dig (Nat.div k 8)) (dig k)) (Nat.ble k 262143)
theorem toPM_yes {k : Nat} (h : k < 262144) : toPM k = .yes (dig (k / 32768)) (dig (k / 4096)) (dig (k / 512)) (dig (k / 64)) (dig (k / 8)) (dig k) := by
  unfold toPM
  rw [show Nat.ble k 262143 = true from Nat.ble_eq_true_of_le (by omega)]
  rfl
theorem toPM_no {k : Nat} (h : ¬ k < 262144) : toPM k = .no := by
  unfold toPM
  have hb : Nat.ble k 262143 = false := by
    cases hb : Nat.ble k 262143 with
    | false => rfl
    | true => exact absurd (Nat.le_of_ble_eq_true hb) (by omega)
  rw [hb]
abbrev Mm := Mm6
noncomputable def Mm.get (t : Mm) (k : Nat) : (Option AB) := PM.rec (motive := fun _ => Mm → (Option AB)) (fun _ => none) (fun y6 y5 y4 y3 y2 y1 t => (mm1s y1 (mm2s y2 (mm3s y3 (mm4s y4 (mm5s y5 (mm6s y6 t))))))) (toPM k) t
noncomputable def Mm.put (x : (Option AB)) (t : Mm) (k : Nat) : Mm := PM.rec (motive := fun _ => (Option AB) → Mm → Mm) (fun _ t => t) (fun y6 y5 y4 y3 y2 y1 x t => (fun t k => mm6u y6 Mm (fun t k => mm5u y5 Mm (fun t k => mm4u y4 Mm (fun t k => mm3u y3 Mm (fun t k => mm2u y2 Mm (fun t k => mm1u y1 Mm (fun _ k => k x) t k) t k) t k) t k) t k) t k) t (fun t => t)) (toPM k) x t
def Mm.lf1 : Mm1 := ⟨none, none, none, none, none, none, none, none⟩
def Mm.lf2 : Mm2 := ⟨Mm.lf1, Mm.lf1, Mm.lf1, Mm.lf1, Mm.lf1, Mm.lf1, Mm.lf1, Mm.lf1⟩
def Mm.lf3 : Mm3 := ⟨Mm.lf2, Mm.lf2, Mm.lf2, Mm.lf2, Mm.lf2, Mm.lf2, Mm.lf2, Mm.lf2⟩
def Mm.lf4 : Mm4 := ⟨Mm.lf3, Mm.lf3, Mm.lf3, Mm.lf3, Mm.lf3, Mm.lf3, Mm.lf3, Mm.lf3⟩
def Mm.lf5 : Mm5 := ⟨Mm.lf4, Mm.lf4, Mm.lf4, Mm.lf4, Mm.lf4, Mm.lf4, Mm.lf4, Mm.lf4⟩
def Mm.lf6 : Mm6 := ⟨Mm.lf5, Mm.lf5, Mm.lf5, Mm.lf5, Mm.lf5, Mm.lf5, Mm.lf5, Mm.lf5⟩
abbrev Mm.lf : Mm := Mm.lf6
theorem Mm.get_lf (k : Nat) : Mm.lf.get k = none := by
  unfold Mm.get
  cases toPM k with
  | no => rfl
  | yes y6 y5 y4 y3 y2 y1 =>
    show (mm1s y1 (mm2s y2 (mm3s y3 (mm4s y4 (mm5s y5 (mm6s y6 Mm.lf)))))) = none
    simp only [mm6s_eq, mm5s_eq, mm4s_eq, mm3s_eq, mm2s_eq, mm1s_eq]
    rw [show sel y6 Mm.lf6 = Mm.lf5 from sel_all y6 _]
    rw [show sel y5 Mm.lf5 = Mm.lf4 from sel_all y5 _]
    rw [show sel y4 Mm.lf4 = Mm.lf3 from sel_all y4 _]
    rw [show sel y3 Mm.lf3 = Mm.lf2 from sel_all y3 _]
    rw [show sel y2 Mm.lf2 = Mm.lf1 from sel_all y2 _]
    rw [show sel y1 Mm.lf1 = none from sel_all y1 _]
theorem Mm.get_put (x : (Option AB)) (t : Mm) (k j : Nat) (h : k < 262144) : (Mm.put x t k).get j = if j = k then x else t.get j := by
  have hput : Mm.put x t k = (set8 (dig (k / 32768)) (set8 (dig (k / 4096)) (set8 (dig (k / 512)) (set8 (dig (k / 64)) (set8 (dig (k / 8)) (set8 (dig k) x (sel (dig (k / 8)) (sel (dig (k / 64)) (sel (dig (k / 512)) (sel (dig (k / 4096)) (sel (dig (k / 32768)) t)))))) (sel (dig (k / 64)) (sel (dig (k / 512)) (sel (dig (k / 4096)) (sel (dig (k / 32768)) t))))) (sel (dig (k / 512)) (sel (dig (k / 4096)) (sel (dig (k / 32768)) t)))) (sel (dig (k / 4096)) (sel (dig (k / 32768)) t))) (sel (dig (k / 32768)) t)) t) := by
    unfold Mm.put
    rw [toPM_yes h]
    simp only [mm6u_eq, mm5u_eq, mm4u_eq, mm3u_eq, mm2u_eq, mm1u_eq]
  rw [hput]
  unfold Mm.get
  by_cases hj : j < 262144
  · rw [toPM_yes hj]
    simp only [mm6s_eq, mm5s_eq, mm4s_eq, mm3s_eq, mm2s_eq, mm1s_eq, sel_set]
    by_cases e : j = k
    · subst e; simp [sel_set]
    · rw [if_neg e]
      by_cases e6 : dig (j / 32768) = dig (k / 32768)
      case neg => simp [e6]
      by_cases e5 : dig (j / 4096) = dig (k / 4096)
      case neg => simp [sel_set, e5, e6]
      by_cases e4 : dig (j / 512) = dig (k / 512)
      case neg => simp [sel_set, e4, e6, e5]
      by_cases e3 : dig (j / 64) = dig (k / 64)
      case neg => simp [sel_set, e3, e6, e5, e4]
      by_cases e2 : dig (j / 8) = dig (k / 8)
      case neg => simp [sel_set, e2, e6, e5, e4, e3]
      by_cases e1 : dig j = dig k
      case neg => simp [sel_set, e1, e6, e5, e4, e3, e2]
      exfalso
      apply e
      have g6 : (j / 32768) % 8 = (k / 32768) % 8 := by rw [← dig_num, ← dig_num, e6]
      have g5 : (j / 4096) % 8 = (k / 4096) % 8 := by rw [← dig_num, ← dig_num, e5]
      have g4 : (j / 512) % 8 = (k / 512) % 8 := by rw [← dig_num, ← dig_num, e4]
      have g3 : (j / 64) % 8 = (k / 64) % 8 := by rw [← dig_num, ← dig_num, e3]
      have g2 : (j / 8) % 8 = (k / 8) % 8 := by rw [← dig_num, ← dig_num, e2]
      have g1 : j % 8 = k % 8 := by rw [← dig_num, ← dig_num, e1]
      omega
  · rw [toPM_no hj, if_neg (by omega)]
structure St where
  mem : Mm
  nx : Nat
  nc : Nat
/-- Entries of a map. -/
def Es (σ : Sg) : List (AV × AV × Nat) → List MapEntry → Prop
  | [], l => l = []
  | (k, v, b) :: r, l => ∃ x y l', l = ⟨x, y, b⟩ :: l' ∧ V σ k x ∧ V σ v y ∧ Es σ r l'
theorem Es_mono {σ τ : Sg} (h : σ.le τ) : ∀ (a : List (AV × AV × Nat)) (l : List MapEntry), Es σ a l → Es τ a l
  | [], l, e => by simpa [Es] using e
  | (k, v, b) :: r, l, e => by
    simp only [Es] at e ⊢
    obtain ⟨x, y, l', e, h1, h2, h3⟩ := e
    exact ⟨x, y, l', e, V_mono h _ _ h1, V_mono h _ _ h2, Es_mono h r _ h3⟩
/-- How many cells there is room for beyond those that are known. -/
def Xt (σ : Sg) (ext esz x : Nat) : Prop := ext = 0 ∧ x = 0 ∨ ∃ i e, ext = i + 1 ∧ σ.cp i = some e ∧ x = e * esz
theorem Xt_mono {σ τ : Sg} (h : σ.le τ) {ext esz x : Nat} (e : Xt σ ext esz x) : Xt τ ext esz x := by
  rcases e with e | ⟨i, k, e1, e2, e3⟩
  · exact .inl e
  · exact .inr ⟨i, k, e1, h.2.1 _ _ e2, e3⟩
/-- What a block says of the object that it stands for. -/
def BO (σ : Sg) (o : Nat) : AB → Obj → Prop
  | .cells cs ext esz, ob => ∃ c t fr, ob = .cells c t fr ∧ (fr = (0, 0) ∨ c.size ≤ fr.1) ∧ ∃ l x, Cs σ cs l ∧ Xt σ ext esz x ∧ o + l.length + x ≤ c.size ∧ ∀ i v, l[i]? = some v → c[o + i]? = some v
  | .map es clock, ob => o = 0 ∧ ∃ l, Es σ es l ∧ ob = .map l.toArray clock
  | .sit n N pos, ob => o = 0 ∧ ob = .stringIter ⟨(unpack n N).toArray⟩ pos
  | .mit m since seen step, ob => o = 0 ∧ (match m with
      | none => ob = .mapIter none since seen.toArray step
      | some b => ∃ p, σ.bl b = some p ∧ ob = .mapIter (some p.1) since seen.toArray step)
  | .loop st pend T nt ps asg body df, ob => o = 0 ∧ ∃ fn tm q, σ.bl df = some q ∧ tm.size = nt ∧ (∀ t, V σ (tget T t) (tm.getD t undef)) ∧ ob = .loop { state := st, pending := pend, fn := fn, tmps := tm, params := ps.toArray, assign := asg, body := body, defers := q.1 }
  | .dfr op, ob => o = 0 ∧ ob = .deferred (match op with
    | true => some []
    | false => none)
def BD (σ : Sg) (p : Nat × Nat) (ab : AB) (w : World) : Prop := ∃ ob, w.heap[p.1]? = some ob ∧ BO σ p.2 ab ob
theorem BO_mono {σ τ : Sg} (h : σ.le τ) {o : Nat} {ab : AB} {ob : Obj} (e : BO σ o ab ob) : BO τ o ab ob := by
  cases ab with
  | cells cs k z => obtain ⟨c, t, fr, e1, e0, l, x, e2, e3, e4⟩ := e; exact ⟨c, t, fr, e1, e0, l, x, Cs_mono h _ _ e2, Xt_mono h e3, e4⟩
  | map es clock => obtain ⟨e0, l, e1, e2⟩ := e; exact ⟨e0, l, Es_mono h _ _ e1, e2⟩
  | sit n N pos => exact e
  | mit m since seen step =>
    cases m with
    | none => exact e
    | some b => obtain ⟨e0, p, e1, e2⟩ := e; exact ⟨e0, p, h.1 _ _ e1, e2⟩
  | loop st pend T nt ps asg body df => obtain ⟨e0, fn, tm, q, e1, e2, e3, e4⟩ := e; exact ⟨e0, fn, tm, q, h.1 _ _ e1, e2, fun t => V_mono h _ _ (e3 t), e4⟩
  | dfr op => exact e
/-- A memory, as a function. -/
structure MS where
  g : Nat → Option AB
  nx : Nat
  nc : Nat
noncomputable def St.ms (s : St) : MS := ⟨s.mem.get, s.nx, s.nc⟩
/-- The memory says of a world. -/
structure Ds (G : Nat) (σ : Sg) (M : MS) (w : World) : Prop where
  blk : ∀ n ab, M.g n = some ab → ∃ p, σ.bl n = some p ∧ BD σ p ab w
  inj : ∀ n m ab ab' p q, n ≠ m → M.g n = some ab → M.g m = some ab' → σ.bl n = some p → σ.bl m = some q → p.1 ≠ q.1
  fresh : ∀ n, M.nx ≤ n → σ.bl n = none
  freshC : ∀ n, M.nc ≤ n → σ.cp n = none
  glob : ∀ g, g < G → σ.bl g = some (g, 0)
/-- The blocks that the memory's names stand for. -/
def Im (σ : Sg) (M : MS) (k : Nat) : Prop := ∃ n ab p, M.g n = some ab ∧ σ.bl n = some p ∧ p.1 = k
/-- From one state to another: what the names of old stand for stays; a name that is new stands for a new block, or for one of old. -/
structure Ex (σ : Sg) (M : MS) (w : World) (σ' : Sg) (M' : MS) (w' : World) : Prop where
  bl : ∀ n, n < M.nx → σ'.bl n = σ.bl n
  cp : ∀ n, n < M.nc → σ'.cp n = σ.cp n
  sy : σ'.sy = σ.sy
  nx : M.nx ≤ M'.nx
  nc : M.nc ≤ M'.nc
  im : ∀ k, Im σ' M' k → w.heap.size ≤ k ∨ Im σ M k
  chg : Chg (Im σ M) w w'
theorem Ex.refl (σ : Sg) (M : MS) (w : World) : Ex σ M w σ M w := ⟨fun _ _ => rfl, fun _ _ => rfl, rfl, Nat.le_refl _, Nat.le_refl _, fun _ h => .inr h, Chg.refl _ _⟩
theorem Ex.trans {σ σ' σ'' : Sg} {M M' M'' : MS} {w w' w'' : World} (h : Ex σ M w σ' M' w') (g : Ex σ' M' w' σ'' M'' w'') : Ex σ M w σ'' M'' w'' where
  bl n hn := (g.bl n (Nat.lt_of_lt_of_le hn h.nx)).trans (h.bl n hn)
  cp n hn := (g.cp n (Nat.lt_of_lt_of_le hn h.nc)).trans (h.cp n hn)
  sy := g.sy.trans h.sy
  nx := Nat.le_trans h.nx g.nx
  nc := Nat.le_trans h.nc g.nc
  im k hk := by
    rcases g.im k hk with h1 | h1
    · exact .inl (Nat.le_trans h.chg.size h1)
    · exact h.im k h1
  chg := h.chg.trans g.chg (fun i hi hk => by
    rcases h.im i hk with h1 | h1
    · omega
    · exact h1)
theorem Ds.lt {G : Nat} {σ : Sg} {M : MS} {w : World} (d : Ds G σ M w) {n : Nat} {p : Nat × Nat} (h : σ.bl n = some p) : n < M.nx := by
  rcases Nat.lt_or_ge n M.nx with h1 | h1
  · exact h1
  · rw [d.fresh n h1] at h; cases h
theorem Ds.ltC {G : Nat} {σ : Sg} {M : MS} {w : World} (d : Ds G σ M w) {n e : Nat} (h : σ.cp n = some e) : n < M.nc := by
  rcases Nat.lt_or_ge n M.nc with h1 | h1
  · exact h1
  · rw [d.freshC n h1] at h; cases h
theorem Ex.le {G : Nat} {σ σ' : Sg} {M M' : MS} {w w' : World} (e : Ex σ M w σ' M' w') (d : Ds G σ M w) : σ.le σ' :=
  ⟨fun n p h => (e.bl n (d.lt h)).trans h, fun n x h => (e.cp n (d.ltC h)).trans h, e.sy⟩
theorem lt_of_get {w : World} {k : Nat} {ob : Obj} (h : w.heap[k]? = some ob) : k < w.heap.size := (Array.getElem?_eq_some_iff.1 h).1
/-- A draw changes nothing that is said. -/
theorem Ds.drew {G : Nat} {σ : Sg} {M : MS} {w : World} (d : Ds G σ M w) : Ds G σ M w.drew := ⟨d.blk, d.inj, d.fresh, d.freshC, d.glob⟩
theorem Ex.drew (σ : Sg) (M : MS) (w : World) : Ex σ M w σ M w.drew := ⟨fun _ _ => rfl, fun _ _ => rfl, rfl, Nat.le_refl _, Nat.le_refl _, fun _ h => .inr h, (Chg.refl _ _).drew⟩
theorem Ds.glt {G : Nat} {σ : Sg} {M : MS} {w : World} (d : Ds G σ M w) {n : Nat} {ab : AB} (h : M.g n = some ab) : n < M.nx := by
  obtain ⟨p, hp, _⟩ := d.blk n ab h; exact d.lt hp
/-- A memory that says less. -/
theorem Ds.sub {G : Nat} {σ : Sg} {M N : MS} {w : World} (d : Ds G σ M w) (h : ∀ n ab, N.g n = some ab → M.g n = some ab) (hx : N.nx = M.nx) (hc : N.nc = M.nc) : Ds G σ N w :=
  ⟨fun n ab e => d.blk n ab (h n ab e), fun n m ab ab' p q hn e1 e2 => d.inj n m ab ab' p q hn (h _ _ e1) (h _ _ e2), fun n e => d.fresh n (hx ▸ e), fun n e => d.freshC n (hc ▸ e), d.glob⟩
theorem Im.sub {σ : Sg} {M N : MS} (h : ∀ n ab, N.g n = some ab → M.g n = some ab) {k : Nat} (i : Im σ N k) : Im σ M k := by
  obtain ⟨n, ab, p, h1, h2, h3⟩ := i; exact ⟨n, ab, p, h _ _ h1, h2, h3⟩
/-- Blocks beside those that a step may touch stay as they are. -/
theorem Ds.beside {G : Nat} {σ σ' : Sg} {M N N' : MS} {w w' : World} {x : Nat → Option AB} (d : Ds G σ M w) (hN : ∀ n, M.g n = (x n).or (N.g n)) (hxN : ∀ n ab, x n = some ab → N.g n = none) 
    (hx : N.nx = M.nx) (hc : N.nc = M.nc) (d' : Ds G σ' N' w') (e : Ex σ N w σ' N' w') :
    Ds G σ' ⟨fun n => (x n).or (N'.g n), N'.nx, N'.nc⟩ w' ∧ Ex σ M w σ' ⟨fun n => (x n).or (N'.g n), N'.nx, N'.nc⟩ w' := by
  have hsub : ∀ n ab, N.g n = some ab → M.g n = some ab := by
    intro n ab h
    rw [hN]
    cases hxn : x n with
    | none => simpa using h
    | some y => rw [hxN n y hxn] at h; cases h
  have hxM : ∀ n ab, x n = some ab → M.g n = some ab := by intro n ab h; rw [hN, h]; rfl
  have dN : Ds G σ N w := d.sub hsub hx hc
  have hle := e.le dN
  -- what a name beside stands for
  have hside : ∀ n ab, x n = some ab → ∃ p ob, σ.bl n = some p ∧ σ'.bl n = some p ∧ w.heap[p.1]? = some ob ∧ w'.heap[p.1]? = some ob ∧ BO σ p.2 ab ob ∧ ¬ Im σ N p.1 := by
    intro n ab h
    obtain ⟨p, hp, ob, ho, hb⟩ := d.blk n ab (hxM n ab h)
    have hni : ¬ Im σ N p.1 := by
      rintro ⟨m, ab', q, hm, hq, hpq⟩
      have hnm : n ≠ m := by rintro rfl; rw [hxN n ab h] at hm; cases hm
      exact d.inj n m ab ab' p q hnm (hxM n ab h) (hsub m ab' hm) hp hq hpq.symm
    exact ⟨p, ob, hp, hle.1 _ _ hp, ho, by rw [e.chg.block p.1 (lt_of_get ho) hni]; exact ho, hb, hni⟩
  have hnot : ∀ n ab p, x n = some ab → σ'.bl n = some p → ¬ Im σ' N' p.1 := by
    intro n ab p h hp hi
    obtain ⟨q, ob, _, hq, ho, _, _, hni⟩ := hside n ab h
    rw [hp] at hq; cases hq
    rcases e.im p.1 hi with h1 | h1
    · exact absurd (lt_of_get ho) (Nat.not_lt.2 h1)
    · exact hni h1
  refine ⟨⟨?_, ?_, d'.fresh, d'.freshC, d'.glob⟩, ⟨fun n hn => e.bl n (hx ▸ hn), fun n hn => e.cp n (hc ▸ hn), e.sy, hx ▸ e.nx, hc ▸ e.nc, ?_, e.chg.mono fun i _ h => Im.sub hsub h⟩⟩
  · intro n ab h
    change (x n).or (N'.g n) = some ab at h
    cases hxn : x n with
    | none => rw [hxn] at h; exact d'.blk n ab (by simpa using h)
    | some y =>
      rw [hxn] at h
      obtain rfl : y = ab := by simpa using h
      obtain ⟨p, ob, _, hp, _, ho, hb, _⟩ := hside n y hxn
      exact ⟨p, hp, ob, ho, BO_mono hle hb⟩
  · intro n m ab ab' p q hnm h1 h2 hp hq
    change (x n).or (N'.g n) = some ab at h1
    change (x m).or (N'.g m) = some ab' at h2
    cases hxn : x n with
    | some y =>
      cases hxm : x m with
      | some z =>
        obtain ⟨p', _, hp1, hp2, _⟩ := hside n y hxn
        obtain ⟨q', _, hq1, hq2, _⟩ := hside m z hxm
        rw [hp] at hp2; cases hp2
        rw [hq] at hq2; cases hq2
        exact d.inj n m y z p q hnm (hxM n y hxn) (hxM m z hxm) hp1 hq1
      | none =>
        rw [hxm] at h2
        exact fun hpq => absurd ⟨m, ab', q, by simpa using h2, hq, hpq.symm⟩ (hnot n y p hxn hp)
    | none =>
      rw [hxn] at h1
      cases hxm : x m with
      | some z => exact fun hpq => absurd ⟨n, ab, p, by simpa using h1, hp, hpq⟩ (hnot m z q hxm hq)
      | none =>
        rw [hxm] at h2
        exact d'.inj n m ab ab' p q hnm (by simpa using h1) (by simpa using h2) hp hq
  · rintro k ⟨n, ab, p, h, hp, rfl⟩
    change (x n).or (N'.g n) = some ab at h
    cases hxn : x n with
    | some y =>
      obtain ⟨p', _, hp1, hp2, _⟩ := hside n y hxn
      rw [hp] at hp2; cases hp2
      exact .inr ⟨n, y, p, hxM n y hxn, hp1, rfl⟩
    | none =>
      rw [hxn] at h
      rcases e.im p.1 ⟨n, ab, p, by simpa using h, hp, rfl⟩ with h1 | h1
      · exact .inl h1
      · exact .inr (Im.sub hsub h1)

/-! ### A new block -/
def Sg.set (σ : Sg) (n : Nat) (p : Nat × Nat) : Sg := { σ with bl := fun m => if m = n then some p else σ.bl m }
theorem Sg.le_set {σ : Sg} {n : Nat} {p : Nat × Nat} (h : σ.bl n = none) : σ.le (σ.set n p) :=
  ⟨fun m q hm => by
    show (if m = n then some p else σ.bl m) = some q
    by_cases e : m = n
    · subst e; rw [h] at hm; cases hm
    · rw [if_neg e]; exact hm, fun _ _ h => h, rfl⟩
/-- The greatest name. -/
def topName : Nat := 262143
/-- The memory with a block more, under a name. -/
def MS.addB (M : MS) (n : Nat) (ab : AB) : MS := { M with g := fun m => if m = n then some ab else M.g m }
noncomputable def St.addB (s : St) (n : Nat) (ab : AB) : St := { s with mem := Mm.put (some ab) s.mem n }
theorem get_addB {s : St} {n : Nat} {ab : AB} (h : n ≤ topName) (m : Nat) : (s.addB n ab).mem.get m = if m = n then some ab else s.mem.get m :=
  Mm.get_put (some ab) s.mem n m (by unfold topName at h; omega)
theorem ms_addB {s : St} {n : Nat} {ab : AB} (h : n ≤ topName) : (s.addB n ab).ms = s.ms.addB n ab := by
  unfold St.ms MS.addB
  congr 1
  funext m
  exact get_addB h m
theorem Ds.addB {G : Nat} {σ : Sg} {M : MS} {w : World} (d : Ds G σ M w) {n : Nat} {ab : AB} {ob : Obj} (hx : n < M.nx) (hf : σ.bl n = none) (hb : BO (σ.set n (w.heap.size, 0)) 0 ab ob) :
    Ds G (σ.set n (w.heap.size, 0)) (M.addB n ab) (w.alloc ob) := by
  have hle : σ.le (σ.set n (w.heap.size, 0)) := Sg.le_set hf
  have hng : ¬ n < G := fun h => by rw [d.glob n h] at hf; cases hf
  have hmem : M.g n = none := by
    cases hm : M.g n with
    | none => rfl
    | some x => obtain ⟨p, hp, _⟩ := d.blk n x hm; rw [hf] at hp; cases hp
  have hold : ∀ m ab', M.g m = some ab' → ∀ q, (σ.set n (w.heap.size, 0)).bl m = some q → σ.bl m = some q ∧ q.1 < w.heap.size := by
    intro m ab' hm q hq
    have hmn : m ≠ n := fun e => by subst e; rw [hmem] at hm; cases hm
    have h1 : σ.bl m = some q := by
      have : (σ.set n (w.heap.size, 0)).bl m = σ.bl m := if_neg hmn
      rw [← this]; exact hq
    obtain ⟨p, hp, ob', ho, _⟩ := d.blk m ab' hm
    rw [h1] at hp; cases hp
    exact ⟨h1, lt_of_get ho⟩
  have hnew : (σ.set n (w.heap.size, 0)).bl n = some (w.heap.size, 0) := if_pos rfl
  refine ⟨?_, ?_, ?_, d.freshC, ?_⟩
  · intro m ab' hm
    change (if m = n then some ab else M.g m) = some ab' at hm
    split at hm
    · rename_i e
      cases hm
      exact ⟨_, by rw [e]; exact hnew, ob, by rw [heap_alloc_get, if_pos rfl], hb⟩
    · obtain ⟨p, hp, ob', ho, hbo⟩ := d.blk m ab' hm
      exact ⟨p, hle.1 _ _ hp, ob', by rw [Below.heap_alloc _ _ _ (lt_of_get ho)]; exact ho, BO_mono hle hbo⟩
  · intro m k a a' p q hmk hm hk' hp hq hpq
    change (if m = n then some ab else M.g m) = some a at hm
    change (if k = n then some ab else M.g k) = some a' at hk'
    split at hm
    · rename_i e
      subst e
      rw [if_neg (Ne.symm hmk)] at hk'
      have := hold k a' hk' q hq
      rw [hnew] at hp
      cases hp
      simp at hpq
      omega
    · split at hk'
      · rename_i e
        subst e
        have := hold m a hm p hp
        rw [hnew] at hq
        cases hq
        simp at hpq
        omega
      · exact d.inj m k a a' p q hmk hm hk' (hold m a hm p hp).1 (hold k a' hk' q hq).1 hpq
  · intro m hm
    have : m ≠ n := by rintro rfl; exact absurd hm (Nat.not_le.2 hx)
    show (if m = n then _ else σ.bl m) = none
    rw [if_neg this]
    exact d.fresh m hm
  · intro g hg
    show (if g = n then _ else σ.bl g) = _
    rw [if_neg (by omega)]
    exact d.glob g hg
/-- What became of old names. But the one that was given, all stand for what they stood for. -/
theorem Ex.addB {G : Nat} {σ : Sg} {M : MS} {w : World} (d : Ds G σ M w) {n : Nat} {ab : AB} (ob : Obj) (hf : σ.bl n = none) :
    (∀ m, m ≠ n → (σ.set n (w.heap.size, 0)).bl m = σ.bl m) ∧ (∀ k, Im (σ.set n (w.heap.size, 0)) (M.addB n ab) k → w.heap.size ≤ k ∨ Im σ M k) ∧ Chg (Im σ M) w (w.alloc ob) := by
  refine ⟨fun m hm => if_neg hm, ?_, (Chg.refl _ _).alloc ob⟩
  rintro k ⟨m, ab', p, h, hp, rfl⟩
  change (if m = n then some ab else M.g m) = some ab' at h
  by_cases e : m = n
  · subst e
    have : (σ.set m (w.heap.size, 0)).bl m = some (w.heap.size, 0) := if_pos rfl
    rw [this] at hp; cases hp
    exact .inl (Nat.le_refl _)
  · rw [if_neg e] at h
    have : (σ.set n (w.heap.size, 0)).bl m = σ.bl m := if_neg e
    rw [this] at hp
    exact .inr ⟨m, ab', p, h, hp, rfl⟩

/-! ### Reading -/
noncomputable def ldc (s : St) (b o n : Nat) : R (List AV) := match s.mem.get b with
  | some (.cells cs _ _) => csub cs o n
  | _ => .no 20
theorem ldc_ok {G : Nat} {σ : Sg} {s : St} {w : World} (d : Ds G σ s.ms w) {b o n : Nat} {cs : List AV} (h : ldc s b o n = .ok cs) :
    ∃ p l, σ.bl b = some p ∧ Cs σ cs l ∧ l.length = n ∧ w.rangeAt p.1 (p.2 + o) l := by
  unfold ldc at h
  split at h
  case h_2 => cases h
  rename_i ds _ _ hg
  obtain ⟨p, hp, ob, ho, c, t, fr, rfl, hfr, l, xx, hl, hxx, hcs, hc⟩ := d.blk _ _ hg
  obtain ⟨h1, h2⟩ := csub_ok hl h
  refine ⟨p, _, hp, h2, by rw [List.length_take, List.length_drop]; omega, ?_⟩
  intro j v hv
  rw [List.getElem?_take] at hv
  split at hv
  · rw [List.getElem?_drop] at hv
    have := hc _ _ hv
    simp only [World.cell?, ho, Option.isSome_none, Bool.false_eq_true, if_false]
    rw [Nat.add_assoc]
    exact this
  · cases hv
/-- One cell. -/
noncomputable def ld1 (s : St) (b o : Nat) : R AV := match s.mem.get b with
  | some (.cells cs _ _) => cget cs o
  | _ => .no 21
theorem ld1_ok {G : Nat} {σ : Sg} {s : St} {w : World} (d : Ds G σ s.ms w) {b o : Nat} {v : AV} (h : ld1 s b o = .ok v) :
    ∃ p x, σ.bl b = some p ∧ V σ v x ∧ w.cell? ⟨p.1, p.2 + o, none⟩ = some x := by
  unfold ld1 at h
  split at h
  case h_2 => cases h
  rename_i ds _ _ hg
  obtain ⟨p, hp, ob, ho, c, t, fr, rfl, hfr, l, xx, hl, hxx, hcs, hc⟩ := d.blk _ _ hg
  obtain ⟨x, h1, h2⟩ := cget_ok _ _ _ _ hl h
  refine ⟨p, x, hp, h2, ?_⟩
  simp only [World.cell?, ho, Option.isSome_none, Bool.false_eq_true, if_false]
  exact hc _ _ h1

theorem splice_eq {α : Type} (L : List α) (o : Nat) (m : List α) : splice L o m = L.take o ++ (m ++ L.drop (o + m.length)) := rfl
theorem splice_get {α : Type} {L m : List α} {o : Nat} (h : o + m.length ≤ L.length) (i : Nat) : (splice L o m)[i]? = if i < o then L[i]? else if i < o + m.length then m[i - o]? else L[i]? := by
  rw [splice_eq]
  by_cases h1 : i < o
  · rw [if_pos h1, List.getElem?_append_left (by rw [List.length_take]; omega), List.getElem?_take, if_pos h1]
  · rw [if_neg h1, List.getElem?_append_right (by rw [List.length_take]; omega), List.length_take, Nat.min_eq_left (by omega)]
    by_cases h2 : i < o + m.length
    · rw [if_pos h2, List.getElem?_append_left (by omega)]
    · rw [if_neg h2, List.getElem?_append_right (by omega), List.getElem?_drop]
      congr 1; omega
/-! ### Writing -/
/-- A value that goes into one cell. -/
def oneA : AV → Bool
  | .agg _ | .tup _ | .top => false
  | _ => true
theorem oneA_ok {σ : Sg} {v : AV} {x : Value} (h : oneA v = true) (g : V σ v x) : x.oneCell' = true := by
  cases v <;> simp [oneA] at h <;> simp only [V] at g
  case sym => exact g.2
  case ptr => obtain ⟨p, _, rfl⟩ := g; rfl
  case sl => obtain ⟨p, κ, _, rfl, _⟩ := g; rfl
  case mp => obtain ⟨p, _, rfl⟩ := g; rfl
  case yl => obtain ⟨p, _, rfl⟩ := g; rfl
  case fn => obtain ⟨_, _, _, _, rfl⟩ := g; rfl
  case ifc => obtain ⟨_, _, rfl⟩ := g; rfl
  all_goals (subst g; rfl)
def onesA : List AV → Bool
  | [] => true
  | v :: r => match oneA v with
    | true => onesA r
    | false => false
theorem onesA_ok {σ : Sg} : ∀ (cs : List AV) (l : List Value), onesA cs = true → Cs σ cs l → ∀ x ∈ l, x.oneCell' = true
  | [], l, _, h, x, hx => by simp only [Cs] at h; subst h; cases hx
  | v :: r, l, ho, h, x, hx => by
    unfold onesA at ho
    split at ho
    case h_2 => cases ho
    rename_i h1
    rw [Cs_cons] at h
    rcases h with ⟨n, N, l', rfl, rfl, h2⟩ | ⟨y, l', rfl, rfl, h2⟩ | ⟨y, l', rfl, h2, h3⟩
    · rcases List.mem_append.1 hx with hx | hx
      · obtain ⟨b, _, rfl⟩ := List.mem_map.1 hx; rfl
      · exact onesA_ok r l' ho h2 x hx
    · simp [oneA] at h1
    · rcases List.mem_cons.1 hx with rfl | hx
      · exact oneA_ok h1 h2
      · exact onesA_ok r l' ho h3 x hx
/-- What lies in a block is written over. -/
noncomputable def stc (s : St) (b o : Nat) (new : List AV) : R St := match s.mem.get b with
  | some (.cells cs ext esz) => match onesA new with
    | true => match Nat.ble b topName with
      | true => (cput cs o new).bind fun cs' => .ok { s with mem := Mm.put (some (.cells cs' ext esz)) s.mem b }
      | false => .no 25
    | false => .no 24
  | _ => .no 23
theorem there_of_get {w : World} {b : Nat} {c : Array Value} {t : TypeId} {fr : Nat × Nat} (h : w.heap[b]? = some (.cells c t fr)) (hf : fr = (0, 0) ∨ c.size ≤ fr.1) {o n : Nat} (hn : o + n ≤ c.size) : w.there b o n := fun j hj => by
  constructor
  · simp [World.cell?, h]; omega
  · obtain ⟨lo, hi⟩ := fr
    simp only [World.frozen?, h]
    rcases hf with hf | hf
    · cases hf; simp
    · simp at hf ⊢; omega
theorem heap_setCells_fr (b : Nat) (t : TypeId) (fr : Nat × Nat) : ∀ (vs : List Value) (o : Nat) (w : World) (L : List Value), w.heap[b]? = some (.cells L.toArray t fr) → o + vs.length ≤ L.length →
    (w.setCells b o vs).heap[b]? = some (.cells (splice L o vs).toArray t fr)
  | [], o, w, L, h, _ => by rw [World.setCells, h]; simp [splice]
  | v :: r, o, w, L, h, hl => by
    simp only [List.length_cons] at hl
    rw [World.setCells, heap_setCells_fr b t fr r (o + 1) _ (L.set o v) (by rw [heap_setCell_lit h]; simp) (by simp; omega), set_splice _ _ _ _ (by omega)]
theorem stc_ok {G : Nat} {σ : Sg} {s s' : St} {w : World} (d : Ds G σ s.ms w) {b o : Nat} {new : List AV} {m : List Value} (h : stc s b o new = .ok s') (g : Cs σ new m) :
    ∃ p, σ.bl b = some p ∧ w.there p.1 (p.2 + o) m.length ∧ (∀ x ∈ m, x.oneCell' = true) ∧ Ds G σ s'.ms (w.setCells p.1 (p.2 + o) m) ∧ Ex σ s.ms w σ s'.ms (w.setCells p.1 (p.2 + o) m) := by
  unfold stc at h
  split at h
  case h_2 => cases h
  rename_i cs ext esz hg
  split at h
  case h_2 => cases h
  rename_i hone
  split at h
  case h_2 => cases h
  rename_i hb
  have hb' := Nat.le_of_ble_eq_true hb
  obtain ⟨cs', h1, h⟩ := R.bind_ok h
  cases h
  have hget : ∀ n, ({ s with mem := Mm.put (some (.cells cs' ext esz)) s.mem b } : St).ms.g n = if n = b then some (.cells cs' ext esz) else s.mem.get n := by
    intro n
    show (Mm.put (some (.cells cs' ext esz)) s.mem b).get n = _
    rw [Mm.get_put _ s.mem b n (by unfold topName at hb'; omega)]
  obtain ⟨p, hp, ob, ho, c, t, fr, rfl, hfr, l, xx, hl, hxx, hcs, hc⟩ := d.blk _ _ hg
  obtain ⟨k1, k2⟩ := cput_ok hl g h1
  have hsz0 : p.2 + o + m.length ≤ c.size := by omega
  have hlc : c.toList.length = c.size := Array.length_toList
  have hsz : p.2 + o + m.length ≤ c.toList.length := by rw [hlc]; exact hsz0
  have ho' : w.heap[p.1]? = some (.cells c.toList.toArray t fr) := by rw [Array.toArray_toList]; exact ho
  have hnew := heap_setCells_fr p.1 t fr m (p.2 + o) w c.toList ho' hsz
  have hother : ∀ n ab q, n ≠ b → s.mem.get n = some ab → σ.bl n = some q → q.1 ≠ p.1 := by
    intro n ab q hnb hn hq e
    exact d.inj b n _ _ p q (Ne.symm hnb) hg hn hp hq e.symm
  have k3 := Cs_length _ _ k2
  refine ⟨p, hp, there_of_get ho hfr hsz0, onesA_ok _ _ hone g, ⟨?_, ?_, d.fresh, d.freshC, d.glob⟩, ⟨fun _ _ => rfl, fun _ _ => rfl, rfl, Nat.le_refl _, Nat.le_refl _, ?_, ?_⟩⟩
  · intro n ab hn
    rw [hget] at hn
    split at hn
    · rename_i e
      cases hn
      subst e
      refine ⟨p, hp, _, hnew, _, t, fr, rfl, ?_, _, xx, k2, hxx, ?_, ?_⟩
      · rcases hfr with h0 | h0
        · exact .inl h0
        · right; simp only [splice, List.size_toArray, List.length_append, List.length_take, List.length_drop, hlc]; omega
      · simp only [splice, List.size_toArray, List.length_append, List.length_take, List.length_drop, hlc]; omega
      · intro i v hv
        rw [← splice_eq] at hv
        rw [splice_get k1] at hv
        rw [List.getElem?_toArray, splice_get hsz]
        split at hv
        · rw [if_pos (by omega), Array.getElem?_toList]; exact hc i v hv
        · rw [if_neg (by omega)]
          split at hv
          · rw [if_pos (by omega), show p.2 + i - (p.2 + o) = i - o by omega]; exact hv
          · rw [if_neg (by omega), Array.getElem?_toList]; exact hc i v hv
    · rename_i hnb
      obtain ⟨q, hq, ob, hob, hbo⟩ := d.blk n ab hn
      refine ⟨q, hq, ob, ?_, hbo⟩
      rw [heap_setCells_other p.1 m _ w q.1 (hother n ab q hnb hn hq)]
      exact hob
  · intro n k a a' q q' hnk hn hk hq hq'
    rw [hget] at hn hk
    have hn' : ∃ a, s.mem.get n = some a := by
      split at hn
      · rename_i e; subst e; exact ⟨_, hg⟩
      · exact ⟨_, hn⟩
    have hk' : ∃ a, s.mem.get k = some a := by
      split at hk
      · rename_i e; subst e; exact ⟨_, hg⟩
      · exact ⟨_, hk⟩
    obtain ⟨_, hn'⟩ := hn'
    obtain ⟨_, hk'⟩ := hk'
    exact d.inj n k _ _ q q' hnk hn' hk' hq hq'
  · rintro k ⟨n, ab, q, hn, hq, rfl⟩
    rw [hget] at hn
    split at hn
    · rename_i e; subst e; exact .inr ⟨n, _, q, hg, hq, rfl⟩
    · exact .inr ⟨n, ab, q, hn, hq, rfl⟩
  · exact (Chg.refl _ _).setCells (fun _ => ⟨b, _, p, hg, hp, rfl⟩) _ _
end
end Go.Proofs.YtocabeobfbhajaaGreatDoor.Sx
