/- A region that draws its order, walked in one order of the prover's choice: operations that only reckon (kind 0), operations that read what a class C of worlds fixes (kind 1), operations that change the world (kind 2), in groups; behind the last operation of a group that changes the world (it waits for all that reads in the group) the class is chosen anew. No program is named here. -/
import Derived.WalkKit
import Derived.OrdersHeld
import Derived.KernelRfl
set_option linter.unusedVariables false
namespace Go.Proofs.Ytpgagihkicedeaa.Mix
open Go

variable {P : Program} {ops : Array Oper} {Q : Exit → Act → World → Prop} {md : Region.Mode}

/-- Whatever has come up, all that it waits for has come up. -/
def Closed (md : Region.Mode) (ops : Array Oper) (listed : Array Bool) : Prop :=
  listed.size = ops.size ∧ ∀ j oj, ops[j]? = some oj → listed.getD j false = true → ∀ e ∈ oj.after, Region.binds md e = true → listed.getD e.on false = true
/-- The operation j waits for i, through others. -/
def waits (md : Region.Mode) (ops : Array Oper) : Nat → Nat → Nat → Bool
  | 0, _, _ => false
  | f + 1, j, i => match ops[j]? with
    | some oj => oj.after.any fun e => Region.binds md e && (e.on == i || waits md ops f e.on i)
    | none => false
theorem waits_listed {listed : Array Bool} (hc : Closed md ops listed) : ∀ (f j i : Nat), waits md ops f j i = true → listed.getD j false = true → listed.getD i false = true
  | 0, _, _, h, _ => by simp [waits] at h
  | f + 1, j, i, h, hj => by
    unfold waits at h
    split at h
    · rename_i oj hoj
      obtain ⟨e, he, hb⟩ := Array.any_eq_true'.1 h
      simp only [Bool.and_eq_true, Bool.or_eq_true, beq_iff_eq] at hb
      have h1 := hc.2 j oj hoj hj e he hb.1
      rcases hb.2 with h2 | h2
      · rw [← h2]; exact h1
      · exact waits_listed hc f e.on i h2 h1
    · cases h
theorem waits_ready {listed : Array Bool} (hc : Closed md ops listed) (f j i : Nat) (h : waits md ops f j i = true) (hj : j ∈ Region.ready md ops listed) : listed.getD i false = true := by
  obtain ⟨_, oj, hoj, hall⟩ := mem_ready.1 hj
  cases f with
  | zero => simp [waits] at h
  | succ f =>
    unfold waits at h
    simp only [hoj] at h
    obtain ⟨e, he, hb⟩ := Array.any_eq_true'.1 h
    simp only [Bool.and_eq_true, Bool.or_eq_true, beq_iff_eq] at hb
    have h1 := hall e he hb.1
    rcases hb.2 with h2 | h2
    · rw [← h2]; exact h1
    · exact waits_listed hc f e.on i h2 h1
theorem getD_false_of_true {listed : Array Bool} {i : Nat} (h : listed.getD i true = false) : listed.getD i false = false := by
  rcases Nat.lt_or_ge i listed.size with h' | h'
  · simp [h'] at h ⊢; exact h
  · simp [Array.getElem?_eq_none h'] at h
theorem Closed.set {listed : Array Bool} (hc : Closed md ops listed) {i : Nat} (hi : i ∈ Region.ready md ops listed) : Closed md ops (listed.setIfInBounds i true) := by
  obtain ⟨_, oi, hoi, hall⟩ := mem_ready.1 hi
  refine ⟨by rw [Array.size_setIfInBounds]; exact hc.1, ?_⟩
  intro j oj hj hl e he hb
  by_cases hij : i = j
  · subst hij
    have : oj = oi := Option.some.inj (hj.symm.trans hoi)
    subst this
    exact getD_set_true (hall e he hb)
  · rw [getD_set_ne false hij] at hl
    exact getD_set_true (hc.2 j oj hj hl e he hb)

/-- Whatever order is picked from here on; C holds behind every operation that is carried out before E. -/
def wpAnyK (P : Program) (md : Region.Mode) (ops : Array Oper) (Q : Exit → Act → World → Prop) (C : World → Prop) (E : Nat) : Nat → Array Bool → Act → World → Prop
  | 0, listed, a, w => Region.ready md ops listed = [] ∧ Q .normal a w
  | fuel + 1, listed, a, w =>
    (Region.ready md ops listed = [] → Q .normal a w) ∧
    ∀ i ∈ Region.ready md ops listed, wpOp P ops Q i (fun a' w' => ((i ≠ E ∧ listed.getD E false = false) → C w') ∧ wpAnyK P md ops Q C E fuel (listed.setIfInBounds i true) a' w') a w
theorem any_of_K {C : World → Prop} {E : Nat} : ∀ (fuel : Nat) (listed : Array Bool) (a : Act) (w : World), wpAnyK P md ops Q C E fuel listed a w → wpAny P md ops Q fuel listed a w
  | 0, _, _, _, h => h
  | fuel + 1, _, _, _, h => ⟨h.1, fun i hi => wpOp_mono (fun a' w' h' => any_of_K fuel _ a' w' h'.2) (h.2 i hi)⟩
/-- Behind E nothing more is asked. -/
theorem K_of_any {C : World → Prop} {E : Nat} : ∀ (fuel : Nat) (listed : Array Bool) (a : Act) (w : World), listed.getD E false = true → wpAny P md ops Q fuel listed a w → wpAnyK P md ops Q C E fuel listed a w
  | 0, _, _, _, _, h => h
  | fuel + 1, _, _, _, hE, h => ⟨h.1, fun i hi => wpOp_mono (fun a' w' h' => ⟨fun hx => (by rw [hE] at hx; cases hx.2), K_of_any fuel _ a' w' (getD_set_true hE) h'⟩) (h.2 i hi)⟩

/-- An operation that may come up now may be taken first, if it yields its value in every world of the class Y, and Y holds behind whatever may come up before it. -/
theorem K_first {C Y : World → Prop} {E i : Nat} {oi : Oper} {v : Value} (hi : ops[i]? = some oi) (hsel : ∀ (j : Nat) (o : Oper) cs b, ops[j]? = some o → o.op ≠ .select cs b)
    (hQ : ∀ c a w, Q (.panic c) (a.put oi.dst v) w → Q (.panic c) a w) (hiE : i ≠ E)
    (hY : ∀ listed', Closed md ops listed' → listed'.getD i true = false → ∀ j ∈ Region.ready md ops listed', j ≠ i → ∀ w', ((j ≠ E ∧ (listed'.setIfInBounds i true).getD E false = false) → C w') → Y w') :
    ∀ (fuel : Nat) (listed : Array Bool) (a : Act) (w : World), Closed md ops listed →
      (∀ j oj, ops[j]? = some oj → j ≠ i → listed.getD j true = false → (∀ e ∈ oj.after, Region.binds md e = true → e.on ≠ i) → oi.apart ops oj = true) →
      i ∈ Region.ready md ops listed → YieldsIf P ops Y oi v a → Y w → (listed.getD E false = false → C w) →
      wpAnyK P md ops Q C E fuel (listed.setIfInBounds i true) (a.put oi.dst v) w → wpAnyK P md ops Q C E (fuel + 1) listed a w := by
  intro fuel
  induction fuel with
  | zero =>
    intro listed a w _ _ hr hy hYw hCw H
    refine ⟨fun h => (by rw [h] at hr; cases hr), fun j hj => ?_⟩
    by_cases hji : j = i
    · subst hji; exact hy.wpOp hi hYw ⟨fun hx => hCw hx.2, H⟩
    · have := ready_mono hj hji
      rw [H.1] at this
      cases this
  | succ fuel ih =>
    intro listed a w hcl hfree hr hy hYw hCw H
    refine ⟨fun h => (by rw [h] at hr; cases hr), fun j hj => ?_⟩
    by_cases hji : j = i
    · subst hji; exact hy.wpOp hi hYw ⟨fun hx => hCw hx.2, H⟩
    · have h1 := H.2 j (ready_mono hj hji)
      obtain ⟨hjun, oj, hoj, hall⟩ := mem_ready.1 hj
      have hiun := (mem_ready.1 hr).1
      have hnot : ∀ e ∈ oj.after, Region.binds md e = true → e.on ≠ i := fun e he hb heq => by
        have h1 := hall e he hb
        rw [heq, getD_false_of_true hiun] at h1
        cases h1
      have h2 := wpOp_putIf hoj (hfree j oj hoj hji hjun hnot) (fun cs b => hsel i oi cs b hi) (fun cs b => hsel j oj cs b hoj) hQ hy h1
      have hfree' : ∀ k ok, ops[k]? = some ok → k ≠ i → (listed.setIfInBounds j true).getD k true = false →
          (∀ e ∈ ok.after, Region.binds md e = true → e.on ≠ i) → oi.apart ops ok = true := fun k ok hk hki hun hno => by
        refine hfree k ok hk hki ?_ hno
        by_cases hjk : j = k
        · subst hjk; exact hjun
        · rw [getD_set_ne true hjk] at hun; exact hun
      refine wpOp_mono (fun a' w' h3 => ?_) h2
      obtain ⟨hy', hC', H'⟩ := h3
      have hsame : (listed.setIfInBounds i true).getD E false = listed.getD E false := getD_set_ne false hiE
      have hC1 : j ≠ E ∧ listed.getD E false = false → C w' := fun hx => hC' ⟨hx.1, by rw [hsame]; exact hx.2⟩
      refine ⟨hC1, ih (listed.setIfInBounds j true) a' w' (hcl.set hj) hfree' (ready_mono hr (Ne.symm hji)) hy' (hY listed hcl hiun j hj hji w' hC') (fun hx => ?_) ?_⟩
      · by_cases hjE : j = E
        · exfalso
          subst hjE
          have hlt : j < listed.size := by
            rcases Nat.lt_or_ge j listed.size with h' | h'
            · exact h'
            · simp [Array.getElem?_eq_none h'] at hjun
          simp [hlt] at hx
        · exact hC1 ⟨hjE, by rw [getD_set_ne false hjE] at hx; exact hx⟩
      · rw [Array.setIfInBounds_comm _ _ hji]
        exact H'

/-! ### The walk -/
/-- One group. -/
def grp (P : Program) (ops : Array Oper) (Q : Exit → Act → World → Prop) (C : World → Prop) : List (Nat × Nat) → (Act → World → Prop) → Act → World → Prop
  | [], K, a, w => K a w
  | (i, 0) :: r, K, a, w => match ops[i]? with
    | some o => if Region.wanted o (yielded ops a.tmps) then ∃ v, (∀ w', (execOp a.eval o).run P w' = .ok (.value v) w') ∧ grp P ops Q C r K (a.put o.dst v) w else grp P ops Q C r K (a.put o.dst undef) w
    | none => False
  | (i, 1) :: r, K, a, w => match ops[i]? with
    | some o => if Region.wanted o (yielded ops a.tmps) then ∃ v, (∀ w', C w' → (execOp a.eval o).run P w' = .ok (.value v) w') ∧ grp P ops Q C r K (a.put o.dst v) w else grp P ops Q C r K (a.put o.dst undef) w
    | none => False
  | (i, _ + 2) :: r, K, a, w => wpOp P ops Q i (fun a' w' => C w' ∧ grp P ops Q C r K a' w') a w
/-- The groups; behind each the number of the operation that ends it. -/
def grps (P : Program) (ops : Array Oper) (Q : Exit → Act → World → Prop) : List (List (Nat × Nat) × Option Nat) → Act → World → Prop
  | [], a, w => Q .normal a w
  | (g, none) :: gs, a, w => ∃ C : World → Prop, C w ∧ grp P ops Q C g (grps P ops Q gs) a w
  | (g, some e) :: gs, a, w => ∃ C : World → Prop, C w ∧ grp P ops Q C g (fun a' w' => wpOp P ops Q e (grps P ops Q gs) a' w') a w

/-! ### What is asked of the order, for the kernel -/
def okItem (md : Region.Mode) (ops : Array Oper) (e : Option Nat) (i k : Nat) (listed : Array Bool) : Bool :=
  bif decide (2 ≤ k) then decide (Region.ready md ops listed = [i]) && decide (e ≠ some i) else
    (Region.ready md ops listed).contains i && Region.free md ops listed i && (match e with | some x => decide (i ≠ x) && (decide (k = 0) || waits md ops ops.size x i) | none => true)
def chkItems (md : Region.Mode) (ops : Array Oper) (e : Option Nat) : List (Nat × Nat) → Array Bool → Option (Array Bool)
  | [], listed => some listed
  | (i, k) :: r, listed =>
    if okItem md ops e i k listed = true then chkItems md ops e r (listed.setIfInBounds i true) else none
def chk (md : Region.Mode) (ops : Array Oper) : List (List (Nat × Nat) × Option Nat) → Array Bool → Bool
  | [], listed => (Region.ready md ops listed).isEmpty
  | (g, none) :: gs, listed => gs.isEmpty && match chkItems md ops none g listed with
    | some l => (Region.ready md ops l).isEmpty
    | none => false
  | (g, some e) :: gs, listed => !(listed.getD e false) && match chkItems md ops (some e) g listed with
    | some l => decide (Region.ready md ops l = [e]) && chk md ops gs (l.setIfInBounds e true)
    | none => false
def len : List (List (Nat × Nat) × Option Nat) → Nat
  | [] => 0
  | (g, none) :: gs => g.length + len gs
  | (g, some _) :: gs => g.length + (1 + len gs)

theorem grp_sound {C : World → Prop} {e : Option Nat} {n : Nat} {K : Act → World → Prop} (hsel : Region.noSelect ops = true) (hQ : ∀ c a d v w, Q (.panic c) (a.put d v) w → Q (.panic c) a w) :
    ∀ (g : List (Nat × Nat)) (listed l : Array Bool) (a : Act) (w : World), Closed md ops listed → listed.getD (e.getD ops.size) false = false → chkItems md ops e g listed = some l → C w →
      (∀ a w, Closed md ops l → l.getD (e.getD ops.size) false = false → C w → K a w → wpAnyK P md ops Q C (e.getD ops.size) n l a w) →
      grp P ops Q C g K a w → wpAnyK P md ops Q C (e.getD ops.size) (g.length + n) listed a w
  | [], listed, l, a, w, hcl, hE, hck, hC, hK, h => by
    simp only [chkItems, Option.some.injEq] at hck
    subst hck
    simp only [List.length_nil, Nat.zero_add]
    exact hK a w hcl hE hC h
  | (i, k) :: r, listed, l, a, w, hcl, hE, hck, hC, hK, h => by
    unfold chkItems at hck
    split at hck
    case isFalse => cases hck
    rename_i hcond
    rw [show ((i, k) :: r).length + n = (r.length + n) + 1 by simp only [List.length_cons]; omega]
    unfold okItem at hcond
    by_cases hk2 : 2 ≤ k
    · rw [decide_eq_true hk2] at hcond
      simp only [cond_true, Bool.and_eq_true, decide_eq_true_eq] at hcond
      obtain ⟨k', rfl⟩ : ∃ k', k = k' + 2 := ⟨k - 2, by omega⟩
      unfold grp at h
      have hir : i ∈ Region.ready md ops listed := by rw [hcond.1]; simp
      have hiE : i ≠ e.getD ops.size := by
        cases e with
        | none =>
          obtain ⟨_, o, ho, _⟩ := mem_ready.1 hir
          have := (Array.getElem?_eq_some_iff.1 ho).1
          simp; omega
        | some x => intro hx; exact hcond.2 (by simpa using hx.symm)
      refine ⟨fun h0 => (by rw [h0] at hir; cases hir), fun j hj => ?_⟩
      rw [hcond.1] at hj
      obtain rfl : j = i := by simpa using hj
      exact wpOp_mono (fun a' w' hx => ⟨fun _ => hx.1, grp_sound hsel hQ r _ l a' w' (hcl.set hir) (by rw [getD_set_ne false hiE]; exact hE) hck hx.1 hK hx.2⟩) h
    · rw [decide_eq_false hk2] at hcond
      simp only [cond_false, Bool.and_eq_true] at hcond
      obtain ⟨⟨hr, hf⟩, hw⟩ := hcond
      have hir : i ∈ Region.ready md ops listed := by simpa using hr
      obtain ⟨hiun, o, ho, hall⟩ := mem_ready.1 hir
      have hlt := (Array.getElem?_eq_some_iff.1 ho).1
      have hiE : i ≠ e.getD ops.size := by
        cases e with
        | none => simp; omega
        | some x => simp only [Bool.and_eq_true, decide_eq_true_eq] at hw; exact hw.1
      have hE' : (listed.setIfInBounds i true).getD (e.getD ops.size) false = false := by rw [getD_set_ne false hiE]; exact hE
      have hfree := Region.free_spec ho hf
      by_cases hk0 : k = 0
      · subst hk0
        unfold grp at h
        simp only [ho] at h
        have go : ∀ v, YieldsIf P ops (fun _ => True) o v a → grp P ops Q C r K (a.put o.dst v) w → wpAnyK P md ops Q C (e.getD ops.size) (r.length + n + 1) listed a w := fun v hy hg =>
          K_first (Y := fun _ => True) ho (Region.noSelect_spec hsel) (fun c a w => hQ c a o.dst v w) hiE (fun _ _ _ _ _ _ _ _ => trivial) _ listed a w hcl (fun j oj => hfree j oj) hir hy trivial (fun _ => hC)
            (grp_sound hsel hQ r _ l _ w (hcl.set hir) hE' hck hC hK hg)
        split at h
        · rename_i hwt
          obtain ⟨v, hv, hg⟩ := h
          exact go v (.inl ⟨hwt, fun w' _ => hv w'⟩) hg
        · rename_i hwt
          exact go undef (.inr ⟨by simpa using hwt, rfl⟩) h
      · have hk1 : k = 1 := by omega
        subst hk1
        unfold grp at h
        simp only [ho] at h
        have hY : ∀ listed', Closed md ops listed' → listed'.getD i true = false → ∀ j ∈ Region.ready md ops listed', j ≠ i → ∀ w', ((j ≠ e.getD ops.size ∧ (listed'.setIfInBounds i true).getD (e.getD ops.size) false = false) → C w') → C w' := by
          intro listed' hcl' hun j hj hji w' hx
          refine hx ⟨?_, ?_⟩
          · cases e with
            | none =>
              obtain ⟨_, oj, hoj, _⟩ := mem_ready.1 hj
              have := (Array.getElem?_eq_some_iff.1 hoj).1
              simp; omega
            | some x =>
              simp only [Bool.and_eq_true, Bool.or_eq_true, decide_eq_true_eq] at hw
              intro he
              have hxj : j = x := by simpa using he
              subst hxj
              rcases hw.2 with h1 | h1
              · exact absurd h1 (by omega)
              · have := waits_ready hcl' _ _ _ h1 hj
                rw [getD_false_of_true hun] at this
                cases this
          · rw [getD_set_ne false hiE]
            cases e with
            | none =>
              simp only [Option.getD_none]
              rw [← hcl'.1]; simp
            | some x =>
              simp only [Bool.and_eq_true, Bool.or_eq_true, decide_eq_true_eq] at hw
              simp only [Option.getD_some]
              cases hgd : listed'.getD x false with
              | false => rfl
              | true =>
                rcases hw.2 with h1 | h1
                · exact absurd h1 (by omega)
                · have := waits_listed hcl' _ _ _ h1 hgd
                  rw [getD_false_of_true hun] at this
                  cases this
        have go : ∀ v, YieldsIf P ops C o v a → grp P ops Q C r K (a.put o.dst v) w → wpAnyK P md ops Q C (e.getD ops.size) (r.length + n + 1) listed a w := fun v hy hg =>
          K_first (Y := C) ho (Region.noSelect_spec hsel) (fun c a w => hQ c a o.dst v w) hiE hY _ listed a w hcl (fun j oj => hfree j oj) hir hy hC (fun _ => hC)
            (grp_sound hsel hQ r _ l _ w (hcl.set hir) hE' hck hC hK hg)
        split at h
        · rename_i hwt
          obtain ⟨v, hv, hg⟩ := h
          exact go v (.inl ⟨hwt, hv⟩) hg
        · rename_i hwt
          exact go undef (.inr ⟨by simpa using hwt, rfl⟩) h
theorem grps_sound (hsel : Region.noSelect ops = true) (hQ : ∀ c a d v w, Q (.panic c) (a.put d v) w → Q (.panic c) a w) :
    ∀ (gs : List (List (Nat × Nat) × Option Nat)) (listed : Array Bool) (a : Act) (w : World), Closed md ops listed → chk md ops gs listed = true →
      grps P ops Q gs a w → wpAny P md ops Q (len gs) listed a w
  | [], listed, a, w, _, hck, h => by
    simp only [chk, List.isEmpty_iff] at hck
    exact ⟨hck, h⟩
  | (g, none) :: gs, listed, a, w, hcl, hck, h => by
    obtain ⟨C, hC, h⟩ := h
    unfold chk at hck
    simp only [Bool.and_eq_true, List.isEmpty_iff] at hck
    obtain ⟨rfl, hck⟩ := hck
    split at hck
    case h_2 => cases hck
    rename_i l hl
    simp only [List.isEmpty_iff] at hck
    refine any_of_K (C := C) (E := ops.size) _ _ _ _ ?_
    have := grp_sound (e := none) (n := 0) (K := grps P ops Q []) hsel hQ g listed l a w hcl (by rw [Option.getD_none, ← hcl.1]; simp) hl hC (fun a w _ _ _ hk => ⟨hck, hk⟩) h
    simpa [len] using this
  | (g, some e) :: gs, listed, a, w, hcl, hck, h => by
    obtain ⟨C, hC, h⟩ := h
    unfold chk at hck
    simp only [Bool.and_eq_true, Bool.not_eq_true'] at hck
    obtain ⟨hEn, hck⟩ := hck
    split at hck
    case h_2 => cases hck
    rename_i l hl
    simp only [Bool.and_eq_true, decide_eq_true_eq] at hck
    refine any_of_K (C := C) (E := e) _ _ _ _ ?_
    refine grp_sound (e := some e) (n := 1 + len gs) hsel hQ g listed l a w hcl hEn hl hC (fun a w hcl' hEl _ hk => ?_) h
    have her : e ∈ Region.ready md ops l := by rw [hck.1]; simp
    rw [show 1 + len gs = len gs + 1 by omega]
    refine ⟨fun h0 => (by rw [h0] at her; cases her), fun j hj => ?_⟩
    rw [hck.1] at hj
    obtain rfl : j = e := by simpa using hj
    have hlt : j < l.size := by
      obtain ⟨_, o, ho, _⟩ := mem_ready.1 her
      rw [hcl'.1]; exact (Array.getElem?_eq_some_iff.1 ho).1
    exact wpOp_mono (fun a' w' hx => ⟨fun hy => absurd rfl hy.1, K_of_any _ _ _ _ (by simp [hlt]) (grps_sound hsel hQ gs _ a' w' (hcl'.set her) hck.2 hx)⟩) hk

/-- Nothing has come up. -/
theorem closed_none : Closed md ops (Array.replicate ops.size false) := ⟨by simp, fun j oj _ hl => by
  rcases Nat.lt_or_ge j ops.size with h | h
  · simp [h] at hl
  · simp [h] at hl⟩
/-- A region that draws its order, by groups. -/
theorem wp_region_mix {id : Nat} {l : List Oper} {a : Act} {w : World} (gs : List (List (Nat × Nat) × Option Nat)) (hm : P.follows .mixedOrders = true)
    (hck : (Region.noSelect l.toArray && decide (len gs = l.toArray.size) && chk .any l.toArray gs (Array.replicate l.toArray.size false)) = true)
    (hQ : ∀ c a d v w, Q (.panic c) (a.put d v) w → Q (.panic c) a w) (h : grps P l.toArray Q gs a w.drew) : (Code.region id l.toArray true).wp P Q a w := by
  simp only [Bool.and_eq_true, decide_eq_true_eq] at hck
  obtain ⟨⟨hsel, hlen⟩, hck⟩ := hck
  refine wp_region_any hm ?_
  have := grps_sound (md := .any) hsel hQ gs _ a w.drew closed_none hck h
  rw [hlen] at this
  exact this

/-! ### The steps, as the walk takes them -/
section
variable {C : World → Prop} {r : List (Nat × Nat)} {K : Act → World → Prop} {a : Act} {w : World} {i : Nat} {o : Oper}
theorem grps_nil (h : Q .normal a w) : grps P ops Q [] a w := h
theorem grps_last {g : List (Nat × Nat)} (C : World → Prop) (hC : C w) (h : grp P ops Q C g (grps P ops Q []) a w) : grps P ops Q [(g, none)] a w := ⟨C, hC, h⟩
theorem grps_some {g : List (Nat × Nat)} {e : Nat} {gs : List (List (Nat × Nat) × Option Nat)} (C : World → Prop) (hC : C w) (h : grp P ops Q C g (fun a' w' => wpOp P ops Q e (grps P ops Q gs) a' w') a w) : grps P ops Q ((g, some e) :: gs) a w := ⟨C, hC, h⟩
theorem grp_nil (h : K a w) : grp P ops Q C [] K a w := h
/-- An operation that only reckons. -/
theorem grp_pure (ho : ops[i]? = some o) (hw : Region.wanted o (yielded ops a.tmps) = true) {v : Value} (hv : ∀ w', (execOp a.eval o).run P w' = .ok (.value v) w') (h : grp P ops Q C r K (a.put o.dst v) w) : grp P ops Q C ((i, 0) :: r) K a w := by
  unfold grp; simp only [ho, hw, if_true]; exact ⟨v, hv, h⟩
/-- An operation that reads what C fixes. -/
theorem grp_read (ho : ops[i]? = some o) (hw : Region.wanted o (yielded ops a.tmps) = true) {v : Value} (hv : ∀ w', C w' → (execOp a.eval o).run P w' = .ok (.value v) w') (h : grp P ops Q C r K (a.put o.dst v) w) : grp P ops Q C ((i, 1) :: r) K a w := by
  unfold grp; simp only [ho, hw, if_true]; exact ⟨v, hv, h⟩
/-- An operation whose guard says no. -/
theorem grp_skip0 (ho : ops[i]? = some o) (hw : Region.wanted o (yielded ops a.tmps) = false) (h : grp P ops Q C r K (a.put o.dst undef) w) : grp P ops Q C ((i, 0) :: r) K a w := by
  unfold grp; simp only [ho, hw, Bool.false_eq_true, if_false]; exact h
theorem grp_skip1 (ho : ops[i]? = some o) (hw : Region.wanted o (yielded ops a.tmps) = false) (h : grp P ops Q C r K (a.put o.dst undef) w) : grp P ops Q C ((i, 1) :: r) K a w := by
  unfold grp; simp only [ho, hw, Bool.false_eq_true, if_false]; exact h
/-- An operation that changes the world, C kept. -/
theorem grp_eff (ho : ops[i]? = some o) (hw : Region.wanted o (yielded ops a.tmps) = true) (h : o.wp P a w (fun a' w' => C w' ∧ grp P ops Q C r K a' w') Q) : grp P ops Q C ((i, 2) :: r) K a w := by
  unfold grp wpOp; simp only [ho, hw, if_true]; exact .inl h
theorem grp_eff_skip (ho : ops[i]? = some o) (hw : Region.wanted o (yielded ops a.tmps) = false) (hC : C w) (h : grp P ops Q C r K (a.put o.dst undef) w) : grp P ops Q C ((i, 2) :: r) K a w := by
  unfold grp wpOp; simp only [ho, hw, Bool.false_eq_true, if_false]; exact ⟨hC, h⟩
theorem op_last {K' : Act → World → Prop} (ho : ops[i]? = some o) (hw : Region.wanted o (yielded ops a.tmps) = true) (h : o.wp P a w K' Q) : wpOp P ops Q i K' a w := by
  unfold wpOp; simp only [ho, hw, if_true]; exact .inl h
theorem op_last_skip {K' : Act → World → Prop} (ho : ops[i]? = some o) (hw : Region.wanted o (yielded ops a.tmps) = false) (h : K' (a.put o.dst undef) w) : wpOp P ops Q i K' a w := by
  unfold wpOp; simp only [ho, hw, Bool.false_eq_true, if_false]; exact h
end

end Go.Proofs.Ytpgagihkicedeaa.Mix
