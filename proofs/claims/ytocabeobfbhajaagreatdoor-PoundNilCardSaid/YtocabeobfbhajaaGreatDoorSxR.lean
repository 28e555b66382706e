/- A region that draws its order, by one run in the order of its text: effects come in one order; new blocks come whenever they come; what reads reads the same wherever it may stand. No program is named here. -/
import Derived.Test.YtocabeobfbhajaaGreatDoorSxWd
import Derived.OrdersHeld
set_option linter.unusedVariables false
namespace Go.Proofs.YtocabeobfbhajaaGreatDoor.Sx
noncomputable section
open Go Go.RowKit

/-! ### Temporaries -/
def upd (τ : Nat → AV) (d : Option Tmp) (v : AV) : Nat → AV := fun t => if d = some t then v else τ t
structure Ta (σ : Sg) (nt : Nat) (τ : Nat → AV) (a : Act) : Prop where
  size : a.tmps.size = nt
  val : ∀ t, V σ (τ t) (a.tmps.getD t undef)
theorem Ta.mono {σ ρ : Sg} {nt : Nat} {τ : Nat → AV} {a : Act} (h : Ta σ nt τ a) (l : σ.le ρ) : Ta ρ nt τ a := ⟨h.size, fun t => V_mono l _ _ (h.val t)⟩
theorem getD_put {a : Act} {d : Option Tmp} {x : Value} {nt : Nat} (hs : a.tmps.size = nt) (hd : ∀ t, d = some t → t < nt) (t : Nat) :
    (a.put d x).tmps.getD t undef = if d = some t then x else a.tmps.getD t undef := by
  unfold Act.put
  cases d with
  | none => simp
  | some d =>
    have hlt := hd d rfl
    rw [← hs] at hlt
    by_cases h : d = t
    · subst h
      simp [hlt]
    · have : ¬ (some d = some t) := fun e => h (by cases e; rfl)
      rw [if_neg this]
      simp only [Array.getD_eq_getD_getElem?, Array.getElem?_setIfInBounds, if_neg h]
theorem size_put {a : Act} {d : Option Tmp} {x : Value} : (a.put d x).tmps.size = a.tmps.size := by
  unfold Act.put; cases d <;> simp
theorem defers_put {a : Act} {d : Option Tmp} {x : Value} : (a.put d x).defers = a.defers := by
  unfold Act.put; cases d <;> rfl
theorem Ta.put {σ : Sg} {nt : Nat} {τ : Nat → AV} {a : Act} (h : Ta σ nt τ a) {d : Option Tmp} {x : Value} {v : AV} (hd : ∀ t, d = some t → t < nt) (hv : V σ v x) : Ta σ nt (upd τ d v) (a.put d x) := by
  refine ⟨size_put.trans h.size, fun t => ?_⟩
  rw [getD_put h.size hd]
  unfold upd
  split
  · exact hv
  · exact h.val t
theorem V_undef (σ : Sg) : V σ (.tup []) undef := by simp [V, Vs, undef]

/-- The temporaries behind those operations of the first n that D has. -/
def tf (D : Nat → Bool) (τ : Nat → AV) (dst : Nat → Option Tmp) (val : Nat → AV) : Nat → Nat → AV
  | 0 => τ
  | i + 1 => if D i then upd (tf D τ dst val i) (dst i) (val i) else tf D τ dst val i
section
variable {D D' : Nat → Bool} {τ : Nat → AV} {dst : Nat → Option Tmp} {val : Nat → AV}
theorem tf_succ (n : Nat) : tf D τ dst val (n + 1) = if D n then upd (tf D τ dst val n) (dst n) (val n) else tf D τ dst val n := rfl
theorem tf_congr {t : Nat} : ∀ n, (∀ j, j < n → dst j = some t → D j = D' j) → tf D τ dst val n t = tf D' τ dst val n t
  | 0, _ => rfl
  | n + 1, h => by
    have ih := tf_congr n (fun j hj => h j (by omega))
    rw [tf_succ, tf_succ]
    by_cases hd : dst n = some t
    · rw [h n (by omega) hd]
      split
      · simp [upd, hd]
      · exact ih
    · have e1 : (if D n then upd (tf D τ dst val n) (dst n) (val n) else tf D τ dst val n) t = tf D τ dst val n t := by
        split
        · simp [upd, hd]
        · rfl
      have e2 : (if D' n then upd (tf D' τ dst val n) (dst n) (val n) else tf D' τ dst val n) t = tf D' τ dst val n t := by
        split
        · simp [upd, hd]
        · rfl
      rw [e1, e2, ih]
theorem tf_lt {i : Nat} : ∀ n, i ≤ n → tf (fun j => decide (j < i)) τ dst val n = tf (fun _ => true) τ dst val i
  | 0, h => by obtain rfl : i = 0 := by omega
               rfl
  | n + 1, h => by
    by_cases e : i = n + 1
    · subst e
      have : ∀ m, m ≤ n + 1 → tf (fun j => decide (j < n + 1)) τ dst val m = tf (fun _ => true) τ dst val m := by
        intro m
        induction m with
        | zero => intro _; rfl
        | succ m ih => intro hm; rw [tf_succ, tf_succ, ih (by omega)]; simp [show m < n + 1 by omega]
      exact this (n + 1) (Nat.le_refl _)
    · rw [tf_succ, tf_lt n (by omega), if_neg (by simp; omega)]
theorem tf_last {i t : Nat} (hi : D i = true) (hd : dst i = some t) : ∀ n, i < n → (∀ j, i < j → j < n → D j = true → dst j ≠ some t) → tf D τ dst val n t = val i
  | 0, h, _ => by omega
  | n + 1, h, hj => by
    rw [tf_succ]
    by_cases e : i = n
    · subst e; simp [hi, upd, hd]
    · have ih := tf_last hi hd n (by omega) (fun j h1 h2 => hj j h1 (by omega))
      split
      · rename_i hDn
        simp [upd, hj n (by omega) (by omega) hDn, ih]
      · exact ih
end

/-! ### The region -/
inductive Kd where
  | skip
  | pure
  | alloc (ab : AB)
  | read
  | eff
def MS.plus (x : Nat → Option AB) (M : MS) : MS := ⟨fun n => (x n).or (M.g n), M.nx, M.nc⟩

/-- What is known of one run in the order of the text. N operations; bf j i: i stands before j in every order; fl i: behind how many effects the block that i makes is part of the memory. -/
structure Run (ro : Option Nat) (G : Nat) (P : Program) (ops : Array Oper) (Q : Exit → Act → World → Prop) (c nt N m : Nat) (df : List Deferred) (bf : Nat → Nat → Bool) (rd : Nat → Nat → Prop) (dst : Nat → Option Tmp)
    (kd : Nat → Kd) (val : Nat → AV) (τ : Nat → AV) (S : Nat → MS) (ke fl : Nat → Nat) where
  size : ops.size = N
  dst_eq : ∀ i o, ops[i]? = some o → dst i = o.dst
  dst_lt : ∀ i t, i < N → dst i = some t → t < nt
  on_lt : ∀ i o, ops[i]? = some o → ∀ e ∈ o.after, Region.binds .any e = true → e.on < i
  -- what stands before, stands before
  before : ∀ (D : Nat → Bool), (∀ j o, ops[j]? = some o → D j = true → ∀ e ∈ o.after, Region.binds .any e = true → D e.on = true) → ∀ j o, ops[j]? = some o → (∀ e ∈ o.after, Region.binds .any e = true → D e.on = true) → ∀ i, bf j i = true → D i = true
  apart1 : ∀ i j t, i < j → j < N → dst i = some t → rd j t → bf j i = true
  apart2 : ∀ i j t, i < j → j < N → dst j = some t → rd i t → bf j i = true
  apart3 : ∀ i j t, i < j → j < N → dst i = some t → dst j = some t → bf j i = true
  effs : ∀ i j, i < j → j < N → kd i = .eff → kd j = .eff → bf j i = true
  ke_lt : ∀ i, i < N → kd i = .eff → ke i < m
  ke_mono : ∀ i j, i < j → j < N → kd i = .eff → kd j = .eff → ke i < ke j
  ke_all : ∀ k, k < m → ∃ i, i < N ∧ kd i = .eff ∧ ke i = k
  -- names
  nx : ∀ k, k ≤ m → c + N ≤ (S k).nx
  noS : ∀ k i ab, k ≤ m → i < N → kd i = .alloc ab → k < fl i → (S k).g (c + i) = none
  flush : ∀ i ab j, i < N → kd i = .alloc ab → j < N → kd j = .eff → fl i = ke j + 1 → bf j i = true
  fl_pos : ∀ i ab, i < N → kd i = .alloc ab → 0 < fl i
  -- the operations
  wanted : ∀ i o, ops[i]? = some o → ∀ (σ : Sg) (a : Act), a.tmps.size = nt → (∀ t, rd i t → V σ (tf (fun _ => true) τ dst val i t) (a.tmps.getD t undef)) → Region.wanted o (yielded ops a.tmps) = (match kd i with | .skip => false | _ => true)
  skip : ∀ i, i < N → kd i = .skip → val i = .tup []
  pure : ∀ i o, ops[i]? = some o → kd i = .pure → ∀ (σ : Sg) (a : Act) (w : World), (∀ t, rd i t → V σ (tf (fun _ => true) τ dst val i t) (a.tmps.getD t undef)) → (∀ g, g < G → σ.bl g = some (g, 0)) →
    ∃ x, (execOp a.eval o).run P w = .ok (.value x) w ∧ V σ (val i) x
  alloc : ∀ i o ab, ops[i]? = some o → kd i = .alloc ab → ∀ (σ : Sg) (a : Act) (w : World), (∀ t, rd i t → V σ (tf (fun _ => true) τ dst val i t) (a.tmps.getD t undef)) → (∀ g, g < G → σ.bl g = some (g, 0)) → σ.bl (c + i) = none →
    ∃ x ob, (execOp a.eval o).run P w = .ok (.value x) (w.alloc ob) ∧ V (σ.set (c + i) (w.heap.size, 0)) (val i) x ∧ BO (σ.set (c + i) (w.heap.size, 0)) 0 ab ob
  read : ∀ i o, ops[i]? = some o → kd i = .read → ∀ k, k ≤ m → (∀ e, e < N → kd e = .eff → bf i e = true → ke e < k) → (∀ e, e < N → kd e = .eff → bf e i = true → k ≤ ke e) →
    ∀ (σ : Sg) (a : Act) (w : World), Ds G σ ((S k).plus fun n => if c ≤ n ∧ n < c + N ∧ k < fl (n - c) ∧ bf i (n - c) = true then (match kd (n - c) with | .alloc ab => some ab | _ => none) else none) w →
    (∀ t, rd i t → V σ (tf (fun _ => true) τ dst val i t) (a.tmps.getD t undef)) → ∃ x, (execOp a.eval o).run P w = .ok (.value x) w ∧ V σ (val i) x
  eff : ∀ i o, ops[i]? = some o → kd i = .eff → ∀ (σ : Sg) (a : Act) (w : World), a.defers = df →
    Ds G σ ((S (ke i)).plus fun n => if c ≤ n ∧ n < c + N ∧ fl (n - c) = ke i + 1 then (match kd (n - c) with | .alloc ab => some ab | _ => none) else none) w →
    (∀ t, rd i t → V σ (tf (fun _ => true) τ dst val i t) (a.tmps.getD t undef)) →
    o.wpIn (Wd ro) 0 P a w (fun a' w' => ∃ σ' x, a' = a.put o.dst x ∧ V σ' (val i) x ∧ Ds G σ' (S (ke i + 1)) w' ∧
      Ex σ ((S (ke i)).plus fun n => if c ≤ n ∧ n < c + N ∧ fl (n - c) = ke i + 1 then (match kd (n - c) with | .alloc ab => some ab | _ => none) else none) w σ' (S (ke i + 1)) w') Q

section
variable {ro : Option Nat} {G : Nat} {P : Program} {ops : Array Oper} {Q : Exit → Act → World → Prop} {c nt N m : Nat} {df : List Deferred} {bf : Nat → Nat → Bool} {rd : Nat → Nat → Prop} {dst : Nat → Option Tmp}
    {kd : Nat → Kd} {val : Nat → AV} {τ : Nat → AV} {S : Nat → MS} {ke fl : Nat → Nat}
/-- New blocks of those operations that p has. -/
def xs (c N : Nat) (kd : Nat → Kd) (p : Nat → Bool) (n : Nat) : Option AB := if c ≤ n ∧ n < c + N ∧ p (n - c) = true then (match kd (n - c) with | .alloc ab => some ab | _ => none) else none
/-- What holds when the operations that D has have been carried out, k effects among them. -/
structure Inv (G c nt N : Nat) (df : List Deferred) (dst : Nat → Option Tmp) (kd : Nat → Kd) (val : Nat → AV) (τ : Nat → AV) (S : Nat → MS) (ke fl : Nat → Nat) (σ₀ : Sg) (M₀ : MS) (w₀ : World)
    (D : Nat → Bool) (k : Nat) (σ : Sg) (a : Act) (w : World) : Prop where
  effs : ∀ e, e < N → kd e = .eff → (D e = true ↔ ke e < k)
  ds : Ds G σ ((S k).plus (xs c N kd fun i => D i && decide (k < fl i))) w
  ta : Ta σ nt (tf D τ dst val N) a
  df : a.defers = df
  none : ∀ i ab, i < N → kd i = .alloc ab → D i = false → σ.bl (c + i) = none
  le : σ₀.le σ
  bl : ∀ n, n < c → σ.bl n = σ₀.bl n
  cp : ∀ n, n < M₀.nc → σ.cp n = σ₀.cp n
  nc : M₀.nc ≤ (S k).nc
  im : ∀ b, Im σ ((S k).plus (xs c N kd fun i => D i && decide (k < fl i))) b → w₀.heap.size ≤ b ∨ Im σ₀ M₀ b
  chg : Chg (Im σ₀ M₀) w₀ w

theorem reads_ok (r : Run ro G P ops Q c nt N m df bf rd dst kd val τ S ke fl) {D : Nat → Bool} (hcl : ∀ j o, ops[j]? = some o → D j = true → ∀ e ∈ o.after, Region.binds .any e = true → D e.on = true)
    {i : Nat} {o : Oper} (ho : ops[i]? = some o) (hD : D i = false) (hb : ∀ e ∈ o.after, Region.binds .any e = true → D e.on = true) {t : Nat} (ht : rd i t) : tf D τ dst val N t = tf (fun _ => true) τ dst val i t := by
  have hi : i < N := by rw [← r.size]; exact (Array.getElem?_eq_some_iff.1 ho).1
  rw [← tf_lt (τ := τ) (dst := dst) (val := val) N (Nat.le_of_lt hi)]
  refine tf_congr N fun j hj hd => ?_
  by_cases h1 : j < i
  · rw [decide_eq_true h1]
    exact r.before D hcl i o ho hb j (r.apart1 j i t h1 hi hd ht)
  · rw [decide_eq_false h1]
    by_cases h2 : j = i
    · rw [h2]; exact hD
    · have hbf := r.apart2 i j t (by omega) hj hd ht
      cases hDj : D j with
      | false => rfl
      | true =>
        have hlt : j < ops.size := by rw [r.size]; exact hj
        have := r.before D hcl j ops[j] (Array.getElem?_eq_getElem hlt) (hcl j _ (Array.getElem?_eq_getElem hlt) hDj) i hbf
        rw [hD] at this; cases this
theorem tf_set (r : Run ro G P ops Q c nt N m df bf rd dst kd val τ S ke fl) {D : Nat → Bool} (hcl : ∀ j o, ops[j]? = some o → D j = true → ∀ e ∈ o.after, Region.binds .any e = true → D e.on = true)
    {i : Nat} (hi : i < N) (hD : D i = false) : tf (fun j => D j || decide (j = i)) τ dst val N = upd (tf D τ dst val N) (dst i) (val i) := by
  funext t
  by_cases hd : dst i = some t
  · rw [upd, if_pos hd]
    refine tf_last (by simp) hd N hi fun j h1 h2 hj e => ?_
    have hDj : D j = true := by simpa [show j ≠ i by omega] using hj
    have hlt : j < ops.size := by rw [r.size]; exact h2
    have := r.before D hcl j ops[j] (Array.getElem?_eq_getElem hlt) (hcl j _ (Array.getElem?_eq_getElem hlt) hDj) i (r.apart3 i j t h1 h2 hd e)
    rw [hD] at this; cases this
  · rw [upd, if_neg hd]
    refine tf_congr N fun j hj e => ?_
    have : j ≠ i := by rintro rfl; exact hd e
    simp [this]

theorem xs_congr {p q : Nat → Bool} (h : ∀ j ab, j < N → kd j = .alloc ab → p j = q j) : xs c N kd p = xs c N kd q := by
  funext n
  unfold xs
  by_cases h1 : c ≤ n ∧ n < c + N
  · cases hk : kd (n - c) with
    | alloc ab => rw [h (n - c) ab (by omega) hk]
    | _ => simp
  · rw [if_neg (fun e => h1 ⟨e.1, e.2.1⟩), if_neg (fun e => h1 ⟨e.1, e.2.1⟩)]
theorem xs_some {p : Nat → Bool} {n : Nat} {ab : AB} (h : xs c N kd p n = some ab) : ∃ i, i < N ∧ n = c + i ∧ kd i = .alloc ab ∧ p i = true := by
  unfold xs at h
  split at h
  · rename_i h1
    refine ⟨n - c, by omega, by omega, ?_, h1.2.2⟩
    split at h
    · rename_i e; cases h; exact e
    · cases h
  · cases h
theorem xs_at {p : Nat → Bool} {i : Nat} {ab : AB} (hi : i < N) (hk : kd i = .alloc ab) (hp : p i = true) : xs c N kd p (c + i) = some ab := by
  unfold xs
  have e : c + i - c = i := by omega
  rw [e, if_pos ⟨by omega, by omega, hp⟩, hk]
theorem getD_listed {listed : Array Bool} {i j : Nat} (hi : i < listed.size) : (listed.setIfInBounds i true).getD j false = (listed.getD j false || decide (j = i)) := by
  by_cases h : i = j
  · subst h; simp [hi]
  · rw [getD_set_ne false h]; simp [Ne.symm h]
theorem getD_ft {listed : Array Bool} {i : Nat} (h : listed.getD i true = false) : listed.getD i false = false := by
  rcases Nat.lt_or_ge i listed.size with h' | h'
  · simp [h'] at h ⊢; exact h
  · simp [Array.getElem?_eq_none h'] at h

variable {σ₀ : Sg} {M₀ : MS} {w₀ : World}
/-- An operation that makes no block and changes nothing. -/
theorem Inv.keep (r : Run ro G P ops Q c nt N m df bf rd dst kd val τ S ke fl) {D : Nat → Bool} {k : Nat} {σ : Sg} {a : Act} {w : World} (v : Inv G c nt N df dst kd val τ S ke fl σ₀ M₀ w₀ D k σ a w)
    (hcl : ∀ j o, ops[j]? = some o → D j = true → ∀ e ∈ o.after, Region.binds .any e = true → D e.on = true) {i : Nat} (hi : i < N) (hD : D i = false) (hne : kd i ≠ .eff) (hna : ∀ ab, kd i ≠ .alloc ab) {x : Value} (hx : V σ (val i) x) :
    Inv G c nt N df dst kd val τ S ke fl σ₀ M₀ w₀ (fun j => D j || decide (j = i)) k σ (a.put (dst i) x) w := by
  have hxs : xs c N kd (fun j => (D j || decide (j = i)) && decide (k < fl j)) = xs c N kd fun j => D j && decide (k < fl j) :=
    xs_congr fun j ab hj hk => by
      have : j ≠ i := by rintro rfl; exact hna ab hk
      simp [this]
  refine ⟨fun e he hk => ?_, by rw [hxs]; exact v.ds, ?_, defers_put.trans v.df, fun j ab hj hk hDj => v.none j ab hj hk (by simp at hDj; exact hDj.1), v.le, v.bl, v.cp, v.nc, by rw [hxs]; exact v.im, v.chg⟩
  · have : e ≠ i := by rintro rfl; exact hne hk
    simpa [this] using v.effs e he hk
  · rw [tf_set r hcl hi hD]
    exact v.ta.put (r.dst_lt i · hi) hx

theorem run_any (r : Run ro G P ops Q c nt N m df bf rd dst kd val τ S ke fl)
    (hend : ∀ σ a w, Inv G c nt N df dst kd val τ S ke fl σ₀ M₀ w₀ (fun _ => true) m σ a w → Q .normal a w) :
    ∀ (fuel : Nat) (listed : Array Bool) (k : Nat) (σ : Sg) (a : Act) (w : World), listed.size = N → k ≤ m →
      (∀ j o, ops[j]? = some o → listed.getD j false = true → ∀ e ∈ o.after, Region.binds .any e = true → listed.getD e.on false = true) →
      (∃ l : List Nat, l.length ≤ fuel ∧ ∀ i, i < N → listed.getD i false = false → i ∈ l) →
      Inv G c nt N df dst kd val τ S ke fl σ₀ M₀ w₀ (fun i => listed.getD i false) k σ a w → wpAnyIn (Wd ro) 0 P .any ops Q fuel listed a w := by
  -- where nothing is ready, all has been carried out
  have hall : ∀ (listed : Array Bool), listed.size = N → Region.ready .any ops listed = [] → ∀ i, i < N → listed.getD i false = true := by
    intro listed hsz hr i
    induction i using Nat.strongRecOn with
    | _ i ih =>
      intro hi
      cases hl : listed.getD i false with
      | true => rfl
      | false =>
        have hlt : i < ops.size := by rw [r.size]; exact hi
        have : i ∈ Region.ready .any ops listed := by
          refine mem_ready.2 ⟨?_, ops[i], Array.getElem?_eq_getElem hlt, fun e he hb => ?_⟩
          · simp [hsz, hi] at hl ⊢; exact hl
          · have := r.on_lt i _ (Array.getElem?_eq_getElem hlt) e he hb
            exact ih e.on this (by omega)
        rw [hr] at this; cases this
  have hfin : ∀ (listed : Array Bool) (k : Nat) (σ : Sg) (a : Act) (w : World), k ≤ m → (∀ i, i < N → listed.getD i false = true) → Inv G c nt N df dst kd val τ S ke fl σ₀ M₀ w₀ (fun i => listed.getD i false) k σ a w → Q .normal a w := by
    intro listed k σ a w hk hl v
    have hkm : k = m := by
      rcases Nat.lt_or_ge k m with h | h
      · obtain ⟨e, he, hke, hk'⟩ := r.ke_all k h
        have := (v.effs e he hke).1 (hl e he)
        omega
      · omega
    subst hkm
    have hxs : xs c N kd (fun j => true && decide (k < fl j)) = xs c N kd fun j => listed.getD j false && decide (k < fl j) := xs_congr fun j ab hj _ => by rw [hl j hj]
    refine hend σ a w ⟨fun e he hke => ?_, by rw [hxs]; exact v.ds, ?_, v.df, (fun j ab hj hk hDj => by cases hDj), v.le, v.bl, v.cp, v.nc, by rw [hxs]; exact v.im, v.chg⟩
    · have := v.effs e he hke
      rw [hl e he] at this
      exact this
    · have : tf (fun _ => true) τ dst val N = tf (fun i => listed.getD i false) τ dst val N := by
        funext t; exact tf_congr N fun j hj _ => (hl j hj).symm
      rw [this]; exact v.ta
  intro fuel
  induction fuel with
  | zero =>
    intro listed k σ a w hsz hk hcl ⟨l, hl, hmem⟩ v
    have hl0 : l = [] := List.eq_nil_of_length_eq_zero (by omega)
    have hA : ∀ i, i < N → listed.getD i false = true := fun i hi => by
      cases h : listed.getD i false with
      | true => rfl
      | false => have := hmem i hi h; rw [hl0] at this; cases this
    refine ⟨?_, hfin listed k σ a w hk hA v⟩
    cases hr : Region.ready .any ops listed with
    | nil => rfl
    | cons i t =>
      have hi : i ∈ Region.ready .any ops listed := by rw [hr]; simp
      obtain ⟨h1, o, ho, _⟩ := mem_ready.1 hi
      have := hA i (by rw [← r.size]; exact (Array.getElem?_eq_some_iff.1 ho).1)
      rw [getD_ft h1] at this; cases this
  | succ fuel ih =>
    intro listed k σ a w hsz hk hcl ⟨l, hl, hmem⟩ v
    refine ⟨fun hr => hfin listed k σ a w hk (hall listed hsz hr) v, fun i hi => ?_⟩
    obtain ⟨h1, o, ho, hdeps⟩ := mem_ready.1 hi
    have hi' : i < N := by rw [← r.size]; exact (Array.getElem?_eq_some_iff.1 ho).1
    have hD : listed.getD i false = false := getD_ft h1
    have hdst := r.dst_eq i o ho
    have hD' : (fun j => (listed.setIfInBounds i true).getD j false) = fun j => listed.getD j false || decide (j = i) := funext fun j => getD_listed (by omega)
    have hcl' : ∀ j o, ops[j]? = some o → (listed.setIfInBounds i true).getD j false = true → ∀ e ∈ o.after, Region.binds .any e = true → (listed.setIfInBounds i true).getD e.on false = true := by
      intro j oj hoj hlj e he hb
      rw [getD_listed (by omega)] at hlj ⊢
      by_cases hji : j = i
      · subst hji
        rw [ho] at hoj; cases hoj
        rw [hdeps e he hb]; rfl
      · rw [hcl j oj hoj (by simpa [hji] using hlj) e he hb]; rfl
    have hmem' : ∃ l' : List Nat, l'.length ≤ fuel ∧ ∀ j, j < N → (listed.setIfInBounds i true).getD j false = false → j ∈ l' := by
      have hil := hmem i hi' hD
      refine ⟨l.erase i, by rw [List.length_erase_of_mem hil]; omega, fun j hj hlj => ?_⟩
      rw [getD_listed (by omega)] at hlj
      simp only [Bool.or_eq_false_iff, decide_eq_false_iff_not] at hlj
      exact (List.mem_erase_of_ne hlj.2).2 (hmem j hj hlj.1)
    have go : ∀ k' σ' a' w', k' ≤ m → Inv G c nt N df dst kd val τ S ke fl σ₀ M₀ w₀ (fun j => listed.getD j false || decide (j = i)) k' σ' a' w' → wpAnyIn (Wd ro) 0 P .any ops Q fuel (listed.setIfInBounds i true) a' w' := by
      intro k' σ' a' w' hk' v'
      refine ih _ k' σ' a' w' (by simp [hsz]) hk' hcl' hmem' ?_
      rw [hD']; exact v'
    have hrd : ∀ t, rd i t → V σ (tf (fun _ => true) τ dst val i t) (a.tmps.getD t undef) := fun t ht => by
      rw [← reads_ok r hcl ho hD hdeps ht]; exact v.ta.val t
    have hwant := r.wanted i o ho σ a v.ta.size hrd
    have hbef := r.before (fun j => listed.getD j false) hcl
    unfold wpOpIn
    simp only [ho]
    cases hkd : kd i with
    | skip =>
      rw [hkd] at hwant
      rw [if_neg (by rw [hwant]; simp), ← hdst]
      refine ⟨fun _ _ => trivial, ?_⟩
      exact go k σ _ w hk (v.keep r hcl hi' hD (by rw [hkd]; simp) (fun ab => by rw [hkd]; simp) (by rw [r.skip i hi' hkd]; exact V_undef σ))
    | pure =>
      rw [hkd] at hwant
      rw [if_pos hwant]
      obtain ⟨x, hrun, hx⟩ := r.pure i o ho hkd σ a w hrd v.ds.glob
      refine wpW_value hrun ?_
      rw [← hdst]
      exact go k σ _ w hk (v.keep r hcl hi' hD (by rw [hkd]; simp) (fun ab => by rw [hkd]; simp) hx)
    | read =>
      rw [hkd] at hwant
      rw [if_pos hwant]
      have hds : Ds G σ ((S k).plus fun n => if c ≤ n ∧ n < c + N ∧ k < fl (n - c) ∧ bf i (n - c) = true then (match kd (n - c) with | .alloc ab => some ab | _ => none) else none) w := by
        refine v.ds.sub ?_ rfl rfl
        intro n ab h
        change (if c ≤ n ∧ n < c + N ∧ k < fl (n - c) ∧ bf i (n - c) = true then (match kd (n - c) with | .alloc ab => some ab | _ => none) else none).or ((S k).g n) = some ab at h
        change (xs c N kd (fun j => listed.getD j false && decide (k < fl j)) n).or ((S k).g n) = some ab
        split at h
        · rename_i hc
          have hDn := hbef i o ho hdeps (n - c) hc.2.2.2
          split at h
          · rename_i ab' hab
            have hx := xs_at (c := c) (N := N) (p := fun j => listed.getD j false && decide (k < fl j)) (by omega : n - c < N) hab (by simp only [hDn, Bool.true_and, decide_eq_true_eq]; exact hc.2.2.1)
            rw [show c + (n - c) = n by omega] at hx
            rw [hx]; exact h
          · rename_i hno
            have : xs c N kd (fun j => listed.getD j false && decide (k < fl j)) n = none := by
              cases hx : xs c N kd (fun j => listed.getD j false && decide (k < fl j)) n with
              | none => rfl
              | some y =>
                obtain ⟨q, hq1, hq2, hq3, _⟩ := xs_some hx
                have hq5 : kd (n - c) = .alloc y := by rw [hq2, show c + q - c = q by omega]; exact hq3
                exact absurd hq5 (hno y)
            rw [this]; exact h
        · cases hx : xs c N kd (fun j => listed.getD j false && decide (k < fl j)) n with
          | none => exact h
          | some y =>
            obtain ⟨q, hq1, hq2, hq3, hq4⟩ := xs_some hx
            simp only [Bool.and_eq_true, decide_eq_true_eq] at hq4
            have hno := r.noS k q y hk hq1 hq3 hq4.2
            rw [← hq2] at hno
            simp [hno] at h
      obtain ⟨x, hrun, hx⟩ := r.read i o ho hkd k hk (fun e he hke hb => (v.effs e he hke).1 (hbef i o ho hdeps e hb)) (fun e he hke hb => by
          rcases Nat.lt_or_ge (ke e) k with h | h
          · exfalso
            have hDe := (v.effs e he hke).2 h
            have hlt : e < ops.size := by rw [r.size]; exact he
            have := hbef e ops[e] (Array.getElem?_eq_getElem hlt) (hcl e _ (Array.getElem?_eq_getElem hlt) hDe) i hb
            simp only [hD] at this; cases this
          · exact h) σ a w hds hrd
      refine wpW_value hrun ?_
      rw [← hdst]
      exact go k σ _ w hk (v.keep r hcl hi' hD (by rw [hkd]; simp) (fun ab => by rw [hkd]; simp) hx)
    | alloc ab =>
      rw [hkd] at hwant
      rw [if_pos hwant]
      have hkf : k < fl i := by
        rcases Nat.lt_or_ge k (fl i) with h | h
        · exact h
        · exfalso
          have hp := r.fl_pos i ab hi' hkd
          obtain ⟨e, he, hke, hk'⟩ := r.ke_all (fl i - 1) (by omega)
          have hb := r.flush i ab e hi' hkd he hke (by omega)
          have hDe := (v.effs e he hke).2 (by omega)
          have hlt : e < ops.size := by rw [r.size]; exact he
          have := hbef e ops[e] (Array.getElem?_eq_getElem hlt) (hcl e _ (Array.getElem?_eq_getElem hlt) hDe) i hb
          simp only [hD] at this; cases this
      have hnone := v.none i ab hi' hkd hD
      obtain ⟨x, ob, hrun, hx, hbo⟩ := r.alloc i o ab ho hkd σ a w hrd v.ds.glob hnone
      have hle := Sg.le_set (p := (w.heap.size, 0)) hnone
      have hM : (S k).plus (xs c N kd fun j => (listed.getD j false || decide (j = i)) && decide (k < fl j)) = ((S k).plus (xs c N kd fun j => listed.getD j false && decide (k < fl j))).addB (c + i) ab := by
        unfold MS.plus MS.addB
        congr 1
        funext n
        by_cases hn : n = c + i
        · subst hn
          rw [if_pos rfl, xs_at hi' hkd (by simp [hkf])]; rfl
        · rw [if_neg hn]
          have : xs c N kd (fun j => (listed.getD j false || decide (j = i)) && decide (k < fl j)) n = xs c N kd (fun j => listed.getD j false && decide (k < fl j)) n := by
            unfold xs
            by_cases hc : c ≤ n ∧ n < c + N
            · have : n - c ≠ i := by omega
              simp [this]
            · rw [if_neg (fun e => hc ⟨e.1, e.2.1⟩), if_neg (fun e => hc ⟨e.1, e.2.1⟩)]
          rw [this]
      obtain ⟨e1, e2, e3⟩ := Ex.addB (ab := ab) v.ds ob hnone
      refine wpW_value hrun ?_
      rw [← hdst]
      refine go k _ _ _ hk ⟨fun e he hke => ?_, ?_, ?_, defers_put.trans v.df, fun j ab' hj hkj hDj => ?_, Sg.le_trans v.le hle, fun n hn => ?_, fun n hn => v.cp n hn, v.nc, ?_, v.chg.alloc ob⟩
      · have : e ≠ i := by rintro rfl; rw [hkd] at hke; cases hke
        simpa [this] using v.effs e he hke
      · rw [hM]
        exact v.ds.addB (show c + i < (S k).nx from Nat.lt_of_lt_of_le (by omega) (r.nx k hk)) hnone hbo
      · rw [tf_set r hcl hi' hD]
        exact (v.ta.mono hle).put (r.dst_lt i · hi') hx
      · simp only [Bool.or_eq_false_iff, decide_eq_false_iff_not] at hDj
        rw [e1 (c + j) (by omega)]
        exact v.none j ab' hj hkj hDj.1
      · rw [e1 n (by omega)]; exact v.bl n hn
      · intro b hb
        rw [hM] at hb
        rcases e2 b hb with h | h
        · exact .inl (Nat.le_trans v.chg.size h)
        · exact v.im b h
    | eff =>
      rw [hkd] at hwant
      rw [if_pos hwant]
      have hkk : k = ke i := by
        have h0 : ¬ ke i < k := fun h => by
          have := (v.effs i hi' hkd).2 h
          simp only [hD] at this; cases this
        rcases Nat.lt_or_ge k (ke i) with h | h
        · exfalso
          have hm := r.ke_lt i hi' hkd
          obtain ⟨e, he, hke, hk'⟩ := r.ke_all k (by omega)
          have hDe : ¬ (listed.getD e false = true) := fun hx => by have := (v.effs e he hke).1 hx; omega
          rcases Nat.lt_trichotomy e i with h1 | h1 | h1
          · exact hDe (hbef i o ho hdeps e (r.effs e i h1 hi' hke hkd))
          · subst h1; omega
          · have := r.ke_mono i e h1 he hkd hke; omega
        · omega
      subst hkk
      let fx : Nat → Option AB := fun n => if c ≤ n ∧ n < c + N ∧ fl (n - c) = ke i + 1 then (match kd (n - c) with | .alloc ab => some ab | _ => none) else none
      have hfx : fx = xs c N kd fun j => decide (fl j = ke i + 1) := by
        funext n; unfold fx xs
        simp only [decide_eq_true_eq]
      have hflD : ∀ j ab, j < N → kd j = .alloc ab → fl j = ke i + 1 → listed.getD j false = true := fun j ab hj hkj hf => hbef i o ho hdeps j (r.flush j ab i hj hkj hi' hkd hf)
      let x : Nat → Option AB := xs c N kd fun j => listed.getD j false && decide (ke i + 1 < fl j)
      have hN : ∀ n, ((S (ke i)).plus (xs c N kd fun j => listed.getD j false && decide (ke i < fl j))).g n = (x n).or (((S (ke i)).plus fx).g n) := by
        intro n
        show (xs c N kd (fun j => listed.getD j false && decide (ke i < fl j)) n).or ((S (ke i)).g n) = (x n).or ((fx n).or ((S (ke i)).g n))
        rw [← Option.or_assoc]
        congr 1
        rw [hfx]
        cases h1 : xs c N kd (fun j => listed.getD j false && decide (ke i < fl j)) n with
        | some ab =>
          obtain ⟨q, hq1, rfl, hq3, hq4⟩ := xs_some h1
          simp only [Bool.and_eq_true, decide_eq_true_eq] at hq4
          by_cases hf : fl q = ke i + 1
          · have : x (c + q) = none := by
              cases h2 : x (c + q) with
              | none => rfl
              | some y =>
                obtain ⟨q', _, hq2', _, hq4'⟩ := xs_some h2
                obtain rfl : q = q' := by omega
                simp only [Bool.and_eq_true, decide_eq_true_eq] at hq4'
                omega
            rw [this, xs_at hq1 hq3 (by simp [hf])]; rfl
          · rw [show x (c + q) = some ab from xs_at hq1 hq3 (by simp only [hq4.1, Bool.true_and, decide_eq_true_eq]; omega)]; rfl
        | none =>
          have a1 : x n = none := by
            cases h2 : x n with
            | none => rfl
            | some y =>
              obtain ⟨q, hq1, rfl, hq3, hq4⟩ := xs_some h2
              simp only [Bool.and_eq_true, decide_eq_true_eq] at hq4
              rw [xs_at hq1 hq3 (by simp only [hq4.1, Bool.true_and, decide_eq_true_eq]; omega)] at h1; cases h1
          have a2 : xs c N kd (fun j => decide (fl j = ke i + 1)) n = none := by
            cases h2 : xs c N kd (fun j => decide (fl j = ke i + 1)) n with
            | none => rfl
            | some y =>
              obtain ⟨q, hq1, rfl, hq3, hq4⟩ := xs_some h2
              simp only [decide_eq_true_eq] at hq4
              rw [xs_at hq1 hq3 (by simp only [hflD q y hq1 hq3 hq4, Bool.true_and, decide_eq_true_eq]; omega)] at h1; cases h1
          rw [a1, a2]; rfl
      have hxN : ∀ n ab, x n = some ab → ((S (ke i)).plus fx).g n = none := by
        intro n ab h
        obtain ⟨q, hq1, rfl, hq3, hq4⟩ := xs_some h
        simp only [Bool.and_eq_true, decide_eq_true_eq] at hq4
        show (fx (c + q)).or ((S (ke i)).g (c + q)) = none
        rw [r.noS (ke i) q ab hk hq1 hq3 (by omega), hfx]
        cases h2 : xs c N kd (fun j => decide (fl j = ke i + 1)) (c + q) with
        | none => rfl
        | some y =>
          obtain ⟨q', _, hq2', _, hq4'⟩ := xs_some h2
          obtain rfl : q = q' := by omega
          simp only [decide_eq_true_eq] at hq4'
          omega
      have hsub : ∀ n ab, ((S (ke i)).plus fx).g n = some ab → ((S (ke i)).plus (xs c N kd fun j => listed.getD j false && decide (ke i < fl j))).g n = some ab := by
        intro n ab h
        rw [hN]
        cases hxn : x n with
        | none => simpa using h
        | some y => rw [hxN n y hxn] at h; cases h
      refine Oper.wpIn_mono (fun a' w' hpost => ?_) (r.eff i o ho hkd σ a w v.df (v.ds.sub hsub rfl rfl) hrd)
      obtain ⟨σ', xv, rfl, hxv, hds, hex⟩ := hpost
      obtain ⟨hds', hex'⟩ := v.ds.beside (x := x) hN hxN rfl rfl hds hex
      have hM : (S (ke i + 1)).plus (xs c N kd fun j => (listed.getD j false || decide (j = i)) && decide (ke i + 1 < fl j)) = ⟨fun n => (x n).or ((S (ke i + 1)).g n), (S (ke i + 1)).nx, (S (ke i + 1)).nc⟩ := by
        unfold MS.plus
        rw [xs_congr (q := fun j => listed.getD j false && decide (ke i + 1 < fl j)) fun j ab hj hkj => by
          have : j ≠ i := by rintro rfl; rw [hkd] at hkj; cases hkj
          simp [this]]
      have hle := hex'.le v.ds
      rw [← hdst]
      refine go (ke i + 1) σ' _ w' (r.ke_lt i hi' hkd) ⟨fun e he hke => ?_, ?_, ?_, defers_put.trans v.df, fun j ab' hj hkj hDj => ?_, Sg.le_trans v.le hle, fun n hn => ?_, fun n hn => ?_, Nat.le_trans v.nc hex.nc, ?_, ?_⟩
      · by_cases hei : e = i
        · subst hei; simp
        · simp only [decide_eq_false hei, Bool.or_false]
          rw [v.effs e he hke]
          constructor
          · intro h; omega
          · intro h
            rcases Nat.lt_or_ge (ke e) (ke i) with h1 | h1
            · exact h1
            · exfalso
              rcases Nat.lt_or_ge e i with h2 | h2
              · have := r.ke_mono e i h2 hi' hke hkd; omega
              · have := r.ke_mono i e (by omega) he hkd hke; omega
      · rw [hM]; exact hds'
      · rw [tf_set r hcl hi' hD]
        exact (v.ta.mono hle).put (r.dst_lt i · hi') hxv
      · simp only [Bool.or_eq_false_iff, decide_eq_false_iff_not] at hDj
        rw [hex'.bl (c + j) (show c + j < (S (ke i)).nx from Nat.lt_of_lt_of_le (by omega) (r.nx _ hk))]
        exact v.none j ab' hj hkj hDj.1
      · rw [hex'.bl n (show n < (S (ke i)).nx from Nat.lt_of_lt_of_le (by omega) (r.nx _ hk))]; exact v.bl n hn
      · rw [hex'.cp n (Nat.lt_of_lt_of_le hn v.nc)]; exact v.cp n hn
      · intro b hb
        rw [hM] at hb
        rcases hex'.im b hb with h | h
        · exact .inl (Nat.le_trans v.chg.size h)
        · exact v.im b h
      · exact v.chg.trans hex'.chg fun b hb hi => by
          rcases v.im b hi with h | h
          · omega
          · exact h
end
end
end Go.Proofs.YtocabeobfbhajaaGreatDoor.Sx
